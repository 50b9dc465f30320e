/-
  How long a fault may stay unfound: what rounds over all edges tell, and what going on from what has grown tells; in plain Lean. No program in sight.
-/
import Derived.Test.YtfckamjbeplceaaZWalks
namespace Go.Proofs.Ytfckamjbeplceaa
set_option linter.unusedSimpArgs false
set_option linter.unusedVariables false
set_option linter.unusedSectionVars false
open Go.RowKit

def cnt (b : Bool) : Nat := if b then 1 else 0
theorem cnt_le (b : Bool) : cnt b ≤ 1 := by cases b <;> decide
abbrev Eg := Nat × Nat × Bool
/-- One edge: what leads on counts at least as much. -/
def rlx (s : List Int × Bool) (q : Eg) : List Int × Bool :=
  if s.1.getD q.2.1 0 < s.1.getD q.1 0 + cnt q.2.2 then (s.1.set q.2.1 (s.1.getD q.1 0 + cnt q.2.2), true) else s
def rlxs (es : List Eg) (L : List Int) (i : Nat) : List Int × Bool := (es.take i).foldl rlx (L, false)
def rnds (es : List Eg) (n : Nat) : Nat → List Int × Bool
  | 0 => (List.replicate n 0, false)
  | r + 1 => rlxs es (rnds es n r).1 es.length
theorem rlxs_zero (es : List Eg) (L : List Int) : rlxs es L 0 = (L, false) := rfl
theorem rlxs_succ {es : List Eg} {L : List Int} {i : Nat} (h : i < es.length) : rlxs es L (i + 1) = rlx (rlxs es L i) (es.getD i default) := by
  unfold rlxs
  rw [take_snoc es default i h, List.foldl_append]
  rfl
theorem rlx_len (s : List Int × Bool) (q : Eg) : (rlx s q).1.length = s.1.length := by
  unfold rlx; split
  · exact List.length_set
  · rfl
theorem rlxs_len (es : List Eg) (L : List Int) : ∀ i, (rlxs es L i).1.length = L.length := by
  intro i
  induction i with
  | zero => rfl
  | succ i ih =>
    rcases Nat.lt_or_ge i es.length with h | h
    · rw [rlxs_succ h, rlx_len, ih]
    · have : rlxs es L (i + 1) = rlxs es L i := by unfold rlxs; rw [List.take_of_length_le (by omega), List.take_of_length_le h]
      rw [this, ih]
theorem rnds_len (es : List Eg) (n : Nat) : ∀ r, (rnds es n r).1.length = n
  | 0 => List.length_replicate
  | r + 1 => (rlxs_len es _ _).trans (rnds_len es n r)
theorem getD_set_if {L : List Int} {i j : Nat} {v : Int} (h : i < L.length) : (L.set i v).getD j 0 = if j = i then v else L.getD j 0 := by
  rw [List.getD_eq_getElem?_getD, List.getElem?_set]
  by_cases e : i = j
  · subst e; simp [h]
  · rw [if_neg e, if_neg (Ne.symm e), List.getD_eq_getElem?_getD]

/-- The greatest of those that are in fault, below k. -/
def mostT (F : Nat → Bool) (L : List Int) : Nat → Int
  | 0 => -1
  | k + 1 => if F k = true ∧ mostT F L k < L.getD k 0 then L.getD k 0 else mostT F L k
theorem mostT_ge (F : Nat → Bool) (L : List Int) : ∀ k, -1 ≤ mostT F L k
  | 0 => Int.le_refl _
  | k + 1 => by
      have := mostT_ge F L k
      unfold mostT; split <;> omega
theorem mostT_all (F : Nat → Bool) (L : List Int) : ∀ k i, i < k → F i = true → L.getD i 0 ≤ mostT F L k
  | k + 1, i, hi, hF => by
      have ih := mostT_all F L k i
      unfold mostT
      by_cases e : i = k
      · subst e
        split
        · exact Int.le_refl _
        · rename_i h
          exact Int.not_lt.1 fun h' => h ⟨hF, h'⟩
      · have := ih (by omega) hF
        split
        · rename_i h; omega
        · exact this
theorem mostT_one (F : Nat → Bool) (L : List Int) : ∀ k, mostT F L k = -1 ∨ ∃ i, i < k ∧ F i = true ∧ mostT F L k = L.getD i 0
  | 0 => .inl rfl
  | k + 1 => by
      unfold mostT
      split
      · rename_i h; exact .inr ⟨k, by omega, h.1, rfl⟩
      · rcases mostT_one F L k with h | ⟨i, hi, hF, h⟩
        · exact .inl h
        · exact .inr ⟨i, by omega, hF, h⟩

section
variable {T : Type} {St : T → Prop} {E : T → T → Nat → Prop} {F : T → Prop}
/-- All that is come to, and all edges from the first k. -/
structure TwL (St : T → Prop) (E : T → T → Nat → Prop) (l : List T) : Prop where
  nodup : l.Nodup
  wk : ∀ x ∈ l, ∃ n, Wk St E x n
  st : ∀ x, St x → x ∈ l
structure EdOk (E : T → T → Nat → Prop) (l : List T) (k : Nat) (es : List Eg) : Prop where
  is : ∀ q ∈ es, ∃ x y, l[q.1]? = some x ∧ l[q.2.1]? = some y ∧ E x y (cnt q.2.2)
  all : ∀ (i : Nat) (x y : T) (c : Nat), i < k → l[i]? = some x → E x y c → ∃ q ∈ es, q.1 = i ∧ l[q.2.1]? = some y ∧ cnt q.2.2 = c
/-- A round: what it keeps to. -/
structure RGood (St : T → Prop) (E : T → T → Nat → Prop) (l : List T) (L : List Int) : Prop where
  len : L.length = l.length
  real : ∀ (i : Nat) (x : T), l[i]? = some x → 0 ≤ L.getD i 0 ∧ ∃ n, Wk St E x n ∧ L.getD i 0 ≤ (n : Int)
theorem lt_of_some {α : Type} {l : List α} {i : Nat} {x : α} (h : l[i]? = some x) : i < l.length := by
  rcases Nat.lt_or_ge i l.length with h1 | h1
  · exact h1
  · rw [List.getElem?_eq_none h1] at h; cases h
theorem RGood.rlx {l : List T} {es : List Eg} {k : Nat} (hE : EdOk E l k es) {q : Eg} (hq : q ∈ es) {s : List Int × Bool} (h : RGood St E l s.1) : RGood St E l (rlx s q).1 := by
  unfold Go.Proofs.Ytfckamjbeplceaa.rlx
  split
  · rename_i hlt
    obtain ⟨x, y, hx, hy, he⟩ := hE.is q hq
    refine ⟨by simp only [List.length_set]; exact h.len, fun i z hz => ?_⟩
    simp only
    rw [getD_set_if (by rw [h.len]; exact lt_of_some hy)]
    by_cases e : i = q.2.1
    · rw [if_pos e]
      subst e
      rw [hy] at hz
      obtain rfl := Option.some.inj hz
      obtain ⟨h0, n, hn, hle⟩ := h.real _ _ hx
      exact ⟨by omega, n + cnt q.2.2, hn.step he, by omega⟩
    · rw [if_neg e]; exact h.real i z hz
  · exact h
theorem rlx_mono (s : List Int × Bool) (q : Eg) (j : Nat) (hq : q.2.1 < s.1.length) : s.1.getD j 0 ≤ (rlx s q).1.getD j 0 := by
  unfold rlx
  split
  · rename_i hlt
    simp only
    rw [getD_set_if hq]
    split
    · rename_i e; subst e; omega
    · exact Int.le_refl _
  · exact Int.le_refl _
/-- Within a round. -/
structure RIn (St : T → Prop) (E : T → T → Nat → Prop) (l : List T) (es : List Eg) (L0 : List Int) (i : Nat) (s : List Int × Bool) : Prop where
  good : RGood St E l s.1
  mono : ∀ j, L0.getD j 0 ≤ s.1.getD j 0
  done : ∀ (j : Nat) (q : Eg), j < i → es[j]? = some q → L0.getD q.1 0 + cnt q.2.2 ≤ s.1.getD q.2.1 0
  same : s.2 = false → s.1 = L0
  grew : s.2 = true → ∃ q ∈ es, ∃ n x, l[q.1]? = some x ∧ Wk St E x n ∧ L0.getD q.2.1 0 < (n : Int) + cnt q.2.2
theorem rIn {l : List T} {es : List Eg} {k : Nat} (hE : EdOk E l k es) {L0 : List Int} (h : RGood St E l L0) : ∀ i, i ≤ es.length → RIn St E l es L0 i (rlxs es L0 i)
  | 0, _ => ⟨h, fun _ => Int.le_refl _, fun j q hj => absurd hj (by omega), fun _ => rfl, fun h => by cases h⟩
  | i + 1, hi => by
    have ih := rIn hE h i (by omega)
    have hil : i < es.length := by omega
    rw [rlxs_succ hil]
    have hq : es[i]? = some (es.getD i default) := by rw [List.getD_eq_getElem?_getD, List.getElem?_eq_getElem hil]; rfl
    generalize es.getD i default = q at hq
    have hmem := List.mem_of_getElem? hq
    generalize rlxs es L0 i = s at ih
    obtain ⟨x, y, hx, hy, he⟩ := hE.is q hmem
    have hyl : q.2.1 < s.1.length := by rw [ih.good.len]; exact lt_of_some hy
    refine ⟨ih.good.rlx hE hmem, fun j => Int.le_trans (ih.mono j) (rlx_mono s q j hyl), fun j q' hj hq' => ?_, fun hs => ?_, fun hs => ?_⟩
    · by_cases e : j = i
      · subst e
        rw [hq] at hq'
        obtain rfl := Option.some.inj hq'
        have h1 := ih.mono q.1
        unfold rlx
        split
        · simp only
          rw [getD_set_if hyl, if_pos rfl]; omega
        · omega
      · exact Int.le_trans (ih.done j q' (by omega) hq') (rlx_mono s q _ hyl)
    · revert hs
      unfold rlx
      split
      · intro hs; cases hs
      · exact ih.same
    · revert hs
      unfold rlx
      split
      · rename_i hlt
        intro _
        obtain ⟨h0, n, hn, hle⟩ := ih.good.real _ _ hx
        have := ih.mono q.2.1
        exact ⟨q, hmem, n, x, hx, hn, by omega⟩
      · exact ih.grew
theorem rnds_good {l : List T} {es : List Eg} {k : Nat} (hl : TwL St E l) (hE : EdOk E l k es) : ∀ r, RGood St E l (rnds es l.length r).1
  | 0 => ⟨List.length_replicate, fun i x hx => by
      obtain ⟨n, hn⟩ := hl.wk x (List.mem_of_getElem? hx)
      have : (rnds es l.length 0).1.getD i 0 = 0 := by
        show (List.replicate l.length (0 : Int)).getD i 0 = 0
        rw [List.getD_eq_getElem?_getD, List.getElem?_replicate]
        split <;> rfl
      rw [this]; exact ⟨Int.le_refl _, n, hn, by omega⟩⟩
  | r + 1 => (rIn hE (rnds_good hl hE r) es.length (Nat.le_refl _)).good
/-- What few steps count is known after as many rounds. -/
theorem rnds_few {l : List T} {es : List Eg} (hl : TwL St E l) (hE : EdOk E l l.length es) {s t : T} {n k : Nat} (hs : St s) (h : Pth E s t n k) : ∀ r, k ≤ r → ∃ i : Nat, l[i]? = some t ∧ (n : Int) ≤ (rnds es l.length r).1.getD i 0 := by
  induction h with
  | nil =>
    intro r _
    obtain ⟨i, hi, hix⟩ := List.getElem_of_mem (hl.st s hs)
    have hi' : l[i]? = some s := by rw [List.getElem?_eq_getElem hi, hix]
    exact ⟨i, hi', ((rnds_good hl hE r).real i s hi').1⟩
  | @snoc t u n k c _ he ih =>
    intro r hr
    obtain ⟨r, rfl⟩ : ∃ r', r = r' + 1 := ⟨r - 1, by omega⟩
    obtain ⟨i, hi, hle⟩ := ih r (by omega)
    obtain ⟨q, hq, rfl, hu, hc⟩ := hE.all i t u c (lt_of_some hi) hi he
    obtain ⟨j, hj, hjq⟩ := List.getElem_of_mem hq
    have := (rIn hE (rnds_good hl hE r) es.length (Nat.le_refl _)).done j q hj (by rw [List.getElem?_eq_getElem hj, hjq])
    refine ⟨q.2.1, hu, ?_⟩
    show _ ≤ (rlxs es _ es.length).1.getD _ 0
    omega
/-- What does not grow any more tells of all walks. -/
theorem rnds_still {l : List T} {es : List Eg} (hl : TwL St E l) (hE : EdOk E l l.length es) {r : Nat} (h : (rnds es l.length (r + 1)).2 = false) {t : T} {n : Nat} (hw : Wk St E t n) : ∃ i : Nat, l[i]? = some t ∧ (n : Int) ≤ (rnds es l.length (r + 1)).1.getD i 0 := by
  have hin := rIn hE (rnds_good hl hE r) es.length (Nat.le_refl _)
  have hsame : (rnds es l.length (r + 1)).1 = (rnds es l.length r).1 := hin.same h
  obtain ⟨s, k, hs, hp⟩ := hw
  induction hp with
  | nil =>
    obtain ⟨i, hi, hix⟩ := List.getElem_of_mem (hl.st s hs)
    have hi' : l[i]? = some s := by rw [List.getElem?_eq_getElem hi, hix]
    exact ⟨i, hi', ((rnds_good hl hE (r + 1)).real i s hi').1⟩
  | @snoc t u n k c _ he ih =>
    obtain ⟨i, hi, hle⟩ := ih
    obtain ⟨q, hq, rfl, hu, hc⟩ := hE.all i t u c (lt_of_some hi) hi he
    obtain ⟨j, hj, hjq⟩ := List.getElem_of_mem hq
    have := hin.done j q hj (by rw [List.getElem?_eq_getElem hj, hjq])
    rw [hsame] at hle
    refine ⟨q.2.1, hu, ?_⟩
    show _ ≤ (rlxs es _ es.length).1.getD _ 0
    omega
/-- What rounds tell: the longest, or that it goes round. -/
theorem rnds_delay {l : List T} {es : List Eg} (hl : TwL St E l) (hE : EdOk E l l.length es) (code : T → Nat) (hc : ∀ t n, Wk St E t n → code t < l.length) (hi : ∀ t u n m, Wk St E t n → Wk St E u m → code t = code u → t = u)
    (hF : ∀ u c k, Pth E u u c k → 0 < c → F u) (Fb : Nat → Bool) (hFb : ∀ (i : Nat) (x : T), l[i]? = some x → (Fb i = true ↔ F x)) :
    DelayIs (Wk St E) F (if (rnds es l.length (l.length + 2)).2 = true then -1 else mostT Fb (rnds es l.length (l.length + 2)).1 l.length + 1) := by
  cases hg : (rnds es l.length (l.length + 2)).2 with
  | true =>
    rw [if_pos rfl]
    refine .inl ⟨rfl, ?_⟩
    -- some round counts
    have hr : ∃ u m c k, Wk St E u m ∧ Pth E u u c k ∧ 0 < c := Classical.byContradiction fun hno => by
      have hz : ∀ u m c k, Wk St E u m → Pth E u u c k → c = 0 := fun u m c k h1 h2 => Nat.eq_zero_of_not_pos fun h3 => hno ⟨u, m, c, k, h1, h2, h3⟩
      have hin := rIn hE (rnds_good hl hE (l.length + 1)) es.length (Nat.le_refl _)
      obtain ⟨q, hq, n, x, hx, hn, hlt⟩ := hin.grew hg
      obtain ⟨x', y, hx', hy, he⟩ := hE.is q hq
      rw [hx] at hx'
      obtain rfl := Option.some.inj hx'
      obtain ⟨s, k, hs, hp⟩ := hn
      obtain ⟨k', hk', hp'⟩ := Pth.short (St := St) code l.length hc hi hz hs (Pth.snoc hp he)
      obtain ⟨i, hi', hle⟩ := rnds_few hl hE hs hp' (l.length + 1) (by omega)
      have : i = q.2.1 := (List.getElem?_inj (lt_of_some hi') hl.nodup).1 (hi'.trans hy.symm)
      subst this
      omega
    obtain ⟨u, m, c, k, h1, h2, h3⟩ := hr
    intro N
    obtain ⟨n, hn, hw⟩ := h1.pump h2 h3 N
    exact ⟨u, n, hn, hF u c k h2 h3, hw⟩
  | false =>
    rw [if_neg (by simp)]
    have hgood := rnds_good hl hE (l.length + 2)
    have hst := fun {t : T} {n : Nat} => rnds_still hl hE (r := l.length + 1) hg (t := t) (n := n)
    have hm := mostT_ge Fb (rnds es l.length (l.length + 1 + 1)).1 l.length
    show DelayIs _ _ (mostT Fb (rnds es l.length (l.length + 1 + 1)).1 l.length + 1)
    refine .inr ⟨by omega, fun t n hFt hw => ?_, ?_⟩
    · obtain ⟨i, hi', hle⟩ := hst hw
      have := mostT_all Fb (rnds es l.length (l.length + 1 + 1)).1 l.length i (lt_of_some hi') ((hFb i t hi').2 hFt)
      omega
    · rcases mostT_one Fb (rnds es l.length (l.length + 1 + 1)).1 l.length with h | ⟨i, hi', hFi, h⟩
      · exact .inl (by omega)
      · obtain ⟨x, hx⟩ : ∃ x, l[i]? = some x := ⟨_, List.getElem?_eq_getElem hi'⟩
        obtain ⟨h0, n, hn, hle⟩ := (rnds_good hl hE (l.length + 2)).real i x hx
        obtain ⟨i', hi2, hle2⟩ := hst hn
        have : i' = i := (List.getElem?_inj (lt_of_some hi2) hl.nodup).1 (hi2.trans hx.symm)
        subst this
        refine .inr ⟨x, n, (hFb i' x hx).1 hFi, hn, ?_⟩
        have h0' : (rnds es l.length (l.length + 2)).1 = (rnds es l.length (l.length + 1 + 1)).1 := rfl
        rw [h0'] at hle
        omega
end
end Go.Proofs.Ytfckamjbeplceaa
