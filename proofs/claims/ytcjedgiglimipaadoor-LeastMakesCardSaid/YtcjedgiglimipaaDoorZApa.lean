/-
  Chapter 8's reference: where a state leads to; which states a word tells apart: by their contracts.
-/
import Derived.Test.YtcjedgiglimipaaDoorZLea
import Derived.Test.YtcjedgiglimipaaDoorZRef5
namespace Go.Proofs.YtcjedgiglimipaaDoor
set_option linter.unusedSimpArgs false
set_option linter.unusedVariables false
set_option linter.unusedSectionVars false
open Go.RowKit

theorem ref8_to {w : World} {a : MV} {m : Mach} {L : List (List Int)} {ar : List Arr} (hD : Det m L ar) (h : IsM (· < w.heap.size) w a (detOf m L ar)) {s e : Nat} (hs : s < L.length) (he : e < m.events.toNat) :
    Cal Tryd.prog 66 [a.val (detOf m L ar), .int .i64 s, .int .i64 e] w fun v w' => v = .int .i64 (dl (detOf m L ar) m.events.toNat s e : Int) ∧ Below w.heap.size w w' := by
  refine cal_ref8_to (by simp) 100000 fun Q hQ => ?_
  have hst := dm_step hD hs he
  have hmf := May.fits hD.may
  simp (disch := first | with_reducible assumption | omega) only [push_cast, x_blk, x_cd, ↓reduceIte, Nat.reduceEqDiff, List.map_cons, List.map_nil, Int.reduceEq, Int.lt_irrefl, F_ref8_to]
  refine blk_of (box_agg _ (a.cells (detOf m L ar))) ?_
  intro w1 k1 b1 z1
  have oS := own_int1 w1 (s : Int) 3
  have bS : Below w1.heap.size w1 (w1.alloc (.cells [.int .i64 (s : Int)].toArray 3)) := (Below.refl _ _).alloc (Nat.le_refl _) _
  simp (disch := first | with_reducible assumption | omega) only [push_cast, x_blk, x_cd, ↓reduceIte, Nat.reduceEqDiff, List.map_cons, List.map_nil, Int.reduceEq, Int.lt_irrefl, k1.mA ty_ag_25 ty_sz_25, bs_22]
  generalize w1.alloc (.cells [.int .i64 (s : Int)].toArray 3) = w2 at *
  have bb := b1.trans (bS.mono b1.size)
  refine call_of (ref2_Step (c1 := 1) (h.up bb) hmf (OwnI.ints oS).lt (by simp) (e : Int)) ?_
  rintro v w3 ⟨O, co, rfl, o3, b3⟩
  rw [hst] at o3
  have hI := OwnI.ints o3
  have hA := hI.isSome (by simp)
  have hl1 := congrArg List.length hst
  have h01 : (0 : Int) < ((stepL (detOf m L ar) [(s : Int)] (e : Int)).length : Int) := by rw [hl1]; show (0 : Int) < ((1 : Nat) : Int); decide
  simp (disch := first | with_reducible assumption | omega) only [push_cast, x_blk, x_cd, ↓reduceIte, Nat.reduceEqDiff, List.map_cons, List.map_nil, Int.reduceEq, Int.lt_irrefl, hA, h01, Int.le_refl, Int.toNat_zero, hI.ld ty_ag_3 0 (by simp)]
  exact fin_1 (hQ _ _ ⟨(by simp only [push_cast, ↓reduceIte, Nat.reduceEqDiff, Int.reduceEq]), bb.trans (b3.mono bb.size)⟩)

theorem mk_one {P : Program} {K : Fr → World → Prop} {w : World} {f : Fr} {d : Option Nat} {t e bytes : Nat} {z : Value} (hT : SlT P t e 1 bytes) (hb : bytes ≤ 1000) (hz : (P.info? e).bind (·.zero) = some z) (hc : z.cells = #[z]) (n : Nat) (hn : n ≤ 256)
    (hk : ∀ w', Blk w' w.heap.size e (List.replicate n z) → Below w.heap.size w w' → K (updO f d (.slice (some ⟨w.heap.size, 0, none⟩) n n)) w') :
    Eff1 P K (Instr.makeSlice t (.int .i64 (n : Int)) (.int .i64 (n : Int))) f d w := by
  obtain ⟨i, z', hi, hz', hsz, hby, _⟩ := hT.get
  have hz0 : z' = z := by rw [hi] at hz; simp [hz'] at hz; exact hz
  subst hz0
  obtain ⟨w', hr, ho, hg⟩ := run_makeSlice_full (P := P) (w := w) w.heap.size t e i _ 1 hT.under hi hz' hsz .i64 .i64 n (by omega) (by
    rw [hby]
    have : bytes * n ≤ 1000 * 256 := Nat.mul_le_mul hb hn
    omega) (by unfold maxLen; omega) (Nat.le_refl _)
  rw [eff1_of hr]
  refine hk w' ?_ ?_
  · have hl : (madeCells z'.cells (n * 1)).toList = List.replicate n z' := by rw [hc, toList_madeCells_one, Nat.mul_one]
    rw [hl] at ho
    rcases ho.2 with ⟨h1, _⟩ | ⟨g, cap, cur, h1, _, h3, _, _, h6, h7⟩
    · cases h1
    · injection h1 with h8 h9 h10
      injection h8 with h8
      injection h8 with h8
      subst h8 h10
      rw [← Array.length_toList] at h6
      rw [← h6, List.take_length] at h7
      show w'.heap[w.heap.size]? = _
      rw [h3, ← h7]
  · exact (Below.refl _ _).grown hg (Nat.le_refl _) (fun k hk => by cases hk)

def gb (B : List (List Bool)) (s t : Nat) : Bool := (B.getD s []).getD t false
def setT (B : List (List Bool)) (s t : Nat) : List (List Bool) := B.set s ((B.getD s []).set t true)
structure Sq (D : Nat) (B : List (List Bool)) : Prop where
  len : B.length = D
  row : ∀ s, s < D → (B.getD s []).length = D
theorem gb_setT {D : Nat} {B : List (List Bool)} (h : Sq D B) {s t : Nat} (hs : s < D) (ht : t < D) (s' t' : Nat) : gb (setT B s t) s' t' = if s' = s ∧ t' = t then true else gb B s' t' := by
  unfold gb setT
  rw [getD_set _ _ _ _ _ (by rw [h.len]; exact hs)]
  by_cases e : s' = s
  · subst e
    rw [if_pos rfl, getD_set _ _ _ _ _ (by rw [h.row s' hs]; exact ht)]
    by_cases e2 : t' = t
    · rw [if_pos e2, if_pos ⟨rfl, e2⟩]
    · rw [if_neg e2, if_neg (fun hh => e2 hh.2)]
  · rw [if_neg e, if_neg (fun hh => e hh.1)]
theorem Sq.setT {D : Nat} {B : List (List Bool)} (h : Sq D B) (s t : Nat) : Sq D (setT B s t) := by
  refine ⟨by unfold Go.Proofs.YtcjedgiglimipaaDoor.setT; rw [List.length_set]; exact h.len, fun s' hs' => ?_⟩
  unfold Go.Proofs.YtcjedgiglimipaaDoor.setT
  by_cases hs : s < D
  · rw [getD_set _ _ _ _ _ (by rw [h.len]; exact hs)]
    by_cases e : s' = s
    · rw [if_pos e, List.length_set]; exact h.row s hs
    · rw [if_neg e]; exact h.row s' hs'
  · rw [List.set_eq_of_length_le (by rw [h.len]; omega)]; exact h.row s' hs'
def prD (D : Nat) : List (Nat × Nat) := (List.range D).flatMap fun s => (List.range D).map fun t => (s, t)
theorem mem_prD {D : Nat} {q : Nat × Nat} : q ∈ prD D ↔ q.1 < D ∧ q.2 < D := by
  unfold prD
  simp only [List.mem_flatMap, List.mem_range, List.mem_map]
  constructor
  · rintro ⟨s, hs, t, ht, rfl⟩; exact ⟨hs, ht⟩
  · rintro ⟨h1, h2⟩; exact ⟨q.1, h1, q.2, h2, rfl⟩
/-- How many pairs are not apart. -/
def cF (D : Nat) (B : List (List Bool)) : Nat := (prD D).countP fun q => !gb B q.1 q.2
theorem countP_lt3 {α : Type} {p q : α → Bool} : ∀ {l : List α}, (∀ x ∈ l, q x = true → p x = true) → (∃ x ∈ l, p x = true ∧ q x = false) → l.countP q < l.countP p
  | [], _, ⟨x, hx, _⟩ => absurd hx (by simp)
  | a :: l, h, ⟨x, hx, h1, h2⟩ => by
    have hle : l.countP q ≤ l.countP p := List.countP_mono_left fun y hy => h y (List.mem_cons_of_mem _ hy)
    rw [List.countP_cons, List.countP_cons]
    rcases List.mem_cons.1 hx with rfl | hx
    · rw [h1, h2]; simp; omega
    · have ih := countP_lt3 (l := l) (fun y hy => h y (List.mem_cons_of_mem _ hy)) ⟨x, hx, h1, h2⟩
      have ha := h a (List.mem_cons_self ..)
      cases hq : q a <;> cases hp : p a <;> simp_all <;> omega
theorem cF_set {D : Nat} {B : List (List Bool)} (h : Sq D B) {s t : Nat} (hs : s < D) (ht : t < D) (hb : gb B s t = false) : cF D (setT B s t) < cF D B := by
  unfold cF
  refine countP_lt3 (fun q _ hq => ?_) ⟨(s, t), mem_prD.2 ⟨hs, ht⟩, by simp [hb], by rw [gb_setT h hs ht, if_pos ⟨rfl, rfl⟩]; rfl⟩
  rw [gb_setT h hs ht] at hq
  split at hq
  · cases hq
  · exact hq
section
variable {d : Mach} {D E : Nat}
/-- What is in the table is apart; and what ends alone tell apart is in it. -/
structure Tb (d : Mach) (D E : Nat) (B : List (List Bool)) : Prop where
  sq : Sq D B
  sound : ∀ s t, s < D → t < D → gb B s t = true → ¬ eqA E (dl d E) (dfin d) s t
  ends : ∀ s t, s < D → t < D → gb B s t = false → (dfin d s ↔ dfin d t)
theorem Tb.add (hd : DM d D E) {B : List (List Bool)} (h : Tb d D E B) {s t e : Nat} (hs : s < D) (ht : t < D) (he : e < E) (hb : gb B (dl d E s e) (dl d E t e) = true) : Tb d D E (setT B s t) := by
  refine ⟨h.sq.setT s t, fun s' t' hs' ht' hg => ?_, fun s' t' hs' ht' hg => ?_⟩
  · rw [gb_setT h.sq hs ht] at hg
    split at hg
    · rename_i hh
      obtain ⟨rfl, rfl⟩ := hh
      exact fun hq => h.sound _ _ (hd.dl_lt hs' he) (hd.dl_lt ht' he) hb (eqA_step hq he)
    · exact h.sound s' t' hs' ht' hg
  · rw [gb_setT h.sq hs ht] at hg
    split at hg
    · cases hg
    · exact h.ends s' t' hs' ht' hg
/-- Nothing changes any more: what is not in the table is not apart. -/
theorem Tb.done (hd : DM d D E) {B : List (List Bool)} (h : Tb d D E B) (hst : ∀ s t, s < D → t < D → gb B s t = false → ∀ e, e < E → gb B (dl d E s e) (dl d E t e) = false) {s t : Nat} (hs : s < D) (ht : t < D) :
    gb B s t = false ↔ eqA E (dl d E) (dfin d) s t := by
  constructor
  · exact fun hb => eqA_of_bisim (n := D) (R := fun s t => gb B s t = false) (fun s hs e he => hd.dl_lt hs he) (fun s t hs ht hr => h.ends s t hs ht hr) (fun s t hs ht hr e he => hst s t hs ht hr e he) hs ht hb
  · intro hq
    cases hb : gb B s t with
    | false => rfl
    | true => exact absurd hq (h.sound s t hs ht hb)
/-- A round, as far as it has come: nothing new so far, and all that was looked at leads to what is not apart; or something new. -/
def Rnd (d : Mach) (D E : Nat) (B0 B : List (List Bool)) (ag : Bool) (p : Nat → Nat → Nat → Prop) : Prop :=
  (ag = false ∧ B = B0 ∧ ∀ s t e, s < D → t < D → e < E → p s t e → gb B s t = false → gb B (dl d E s e) (dl d E t e) = false) ∨ (ag = true ∧ cF D B < cF D B0)
end

theorem Blk.ne {w : World} {g g' t t' : Nat} {cs cs' : List Value} (h : Blk w g t cs) (h' : Blk w g' t' cs') (ht : t ≠ t') : g ≠ g' := fun e => by
  have h1 : w.heap[g]? = _ := h
  have h2 : w.heap[g']? = _ := h'
  rw [e, h2] at h1
  injection h1 with h1
  injection h1 with _ h1
  exact ht h1.symm
theorem sto_bool {P : Program} {K : Fr → World → Prop} {w : World} {f : Fr} {d : Option Nat} {g t ty : Nat} {cs : List Value} (hk : Blk w g t cs) (hty : tySize P ty = some 1) (j : Nat) (hj : j < cs.length) (b : Bool)
    (h : ∀ w', Blk w' g t (cs.set j (.bool b)) → Grew w w' (some ⟨g, 0, none⟩) → w'.heap.size = w.heap.size → K (updO f d undef) w') :
    Eff1 P K (do Instr.storeAt ty (.pointer (some ⟨g, j, none⟩)) (.bool b); pure undef) f d w := by
  have hc := hk.cell j
  have hf := hk.frozen j
  refine ⟨undef, w.setCell ⟨g, j, none⟩ (.bool b), ?_, h _ (hk.set j _) ⟨⟨rfl, rfl, rfl, by simp, fun _ hk' hne => Below.heap_setCell w _ _ _ (by simpa using hne)⟩⟩ (by simp)⟩
  unfold tySize at hty
  cases hi : P.info? ty with
  | none => simp [hi] at hty
  | some ie =>
    simp only [hi, Option.map_some, Option.some.injEq] at hty
    rw [List.getElem?_eq_getElem hj] at hc
    simp [Instr.storeAt, Instr.sureAddr, storeVar, sizeOf, typeInfo, hi, hty, Value.cells, storeCells, addr_add, run_store_bool, stored, hc, hf]
abbrev nilHd : Hd := ⟨none, 0, []⟩
def hdS (h : Hd) : Value := .slice h.A h.l.length h.c
def slO (D : Nat) (o : Option Nat) : Value := match o with | none => .slice none 0 0 | some g => .slice (some ⟨g, 0, none⟩) D D
open Classical in
noncomputable def rowA (d : Mach) (D i k : Nat) : List Bool := (List.range D).map fun u => if u < k then (decide ((i : Int) ∈ d.ends) != decide ((u : Int) ∈ d.ends)) else false
theorem rowA_len (d : Mach) (D i k : Nat) : (rowA d D i k).length = D := by simp [rowA]
theorem rowA_zero (d : Mach) (D i : Nat) : rowA d D i 0 = List.replicate D false := by
  apply List.ext_getElem?
  intro j
  by_cases h : j < D
  · simp [rowA, h, List.getElem?_replicate]
  · rw [List.getElem?_eq_none (by rw [rowA_len]; omega), List.getElem?_eq_none (by simp; omega)]
theorem rowA_set {d : Mach} {D i k : Nat} (h : k < D) : (rowA d D i k).set k (decide ((i : Int) ∈ d.ends) != decide ((k : Int) ∈ d.ends)) = rowA d D i (k + 1) := by
  apply List.ext_getElem?
  intro j
  rw [List.getElem?_set]
  by_cases hj : j < D
  · by_cases e : k = j
    · subst e
      rw [if_pos rfl, if_pos (by rw [rowA_len]; exact hj)]
      simp [rowA, hj]
    · rw [if_neg e]
      simp only [rowA, List.getElem?_map, List.getElem?_range hj, Option.map_some]
      by_cases c : j < k
      · rw [if_pos c, if_pos (by omega)]
      · rw [if_neg c, if_neg (by omega)]
  · rw [if_neg (by omega), List.getElem?_eq_none (by rw [rowA_len]; omega), List.getElem?_eq_none (by rw [rowA_len]; omega)]
def leadA (d : Mach) (E s e : Nat) : List Int := (List.range e).map fun e => (dl d E s e : Int)
theorem leadA_succ (d : Mach) (E s e : Nat) : leadA d E s (e + 1) = leadA d E s e ++ [(dl d E s e : Int)] := by unfold leadA; rw [List.range_succ, List.map_append]; rfl
theorem leadA_len (d : Mach) (E s e : Nat) : (leadA d E s e).length = e := by simp [leadA]
theorem leadA_at {d : Mach} {E s e : Nat} (h : e < E) : (leadA d E s E).getD e 0 = (dl d E s e : Int) := by rw [List.getD_eq_getElem?_getD]; simp [leadA, h]
/-- The first k rows of the table, and of where states lead to, as they were made. -/
structure A1 (wB : World) (d : Mach) (D E gT gl k : Nat) (os : List (Option Nat)) (hs : List Hd) (w : World) : Prop where
  tb : Blk w gT 100 (os.map (slO D))
  ld : Blk w gl 22 (hs.map hdS)
  ol : os.length = D
  hl : hs.length = D
  row : ∀ (i g : Nat), i < k → os[i]? = some (some g) → Blk w g 4 ((rowA d D i D).map Value.bool)
  some_ : ∀ i : Nat, i < k → ∃ g, os[i]? = some (some g)
  ge : ∀ (i g : Nat), os[i]? = some (some g) → wB.heap.size ≤ g ∧ g < w.heap.size
  inj : ∀ (i j g : Nat), os[i]? = some (some g) → os[j]? = some (some g) → i = j
  nils : ∀ i : Nat, k ≤ i → i < D → os[i]? = some none ∧ hs[i]? = some nilHd
  own : ∀ x ∈ hs, OwnI wB.heap.size 3 w x.A x.c x.l
  lead : ∀ (i : Nat) (x : Hd), i < k → hs[i]? = some x → x.l = leadA d E i E
  bel : Below wB.heap.size wB w
  lo : wB.heap.size ≤ gT ∧ wB.heap.size ≤ gl
/-- .. and the next ones, as far as they are made. -/
structure A2 (wB : World) (d : Mach) (D E gT gl s g : Nat) (os : List (Option Nat)) (hs : List Hd) (cur : Hd) (r : List Bool) (w : World) : Prop where
  tb : Blk w gT 100 (os.map (slO D))
  ld : Blk w gl 22 ((hs.set s cur).map hdS)
  ol : os.length = D
  hl : hs.length = D
  row : ∀ (i g : Nat), i < s → os[i]? = some (some g) → Blk w g 4 ((rowA d D i D).map Value.bool)
  cu : Blk w g 4 (r.map Value.bool)
  at_ : os[s]? = some (some g)
  some_ : ∀ i : Nat, i < s → ∃ g, os[i]? = some (some g)
  ge : ∀ (i g : Nat), os[i]? = some (some g) → wB.heap.size ≤ g ∧ g < w.heap.size
  inj : ∀ (i j g : Nat), os[i]? = some (some g) → os[j]? = some (some g) → i = j
  nils : ∀ i : Nat, s < i → i < D → os[i]? = some none ∧ hs[i]? = some nilHd
  own : ∀ x ∈ hs, OwnI wB.heap.size 3 w x.A x.c x.l
  ownc : OwnI wB.heap.size 3 w cur.A cur.c cur.l
  far : ∀ x ∈ hs, Far x.A cur.A
  lead : ∀ (i : Nat) (x : Hd), i < s → hs[i]? = some x → x.l = leadA d E i E
  bel : Below wB.heap.size wB w
  lo : wB.heap.size ≤ gT ∧ wB.heap.size ≤ gl
section
variable {wB : World} {d : Mach} {D E gT gl s g : Nat} {os : List (Option Nat)} {hs : List Hd} {cur : Hd} {r : List Bool} {w w1 : World}
theorem A1.below (h : A1 wB d D E gT gl s os hs w) (b : Below w.heap.size w w1) : A1 wB d D E gT gl s os hs w1 :=
  ⟨h.tb.below b h.tb.lt, h.ld.below b h.ld.lt, h.ol, h.hl, fun i g hi hg => (h.row i g hi hg).below b (h.row i g hi hg).lt, h.some_, fun i g hg => ⟨(h.ge i g hg).1, by have := (h.ge i g hg).2; have := b.size; omega⟩, h.inj, h.nils, fun x hx => (h.own x hx).below b (Nat.le_refl _), h.lead, h.bel.trans (b.mono h.bel.size), h.lo⟩
theorem A2.below (h : A2 wB d D E gT gl s g os hs cur r w) (b : Below w.heap.size w w1) : A2 wB d D E gT gl s g os hs cur r w1 :=
  ⟨h.tb.below b h.tb.lt, h.ld.below b h.ld.lt, h.ol, h.hl, fun i g hi hg => (h.row i g hi hg).below b (h.row i g hi hg).lt, h.cu.below b h.cu.lt, h.at_, h.some_, fun i g hg => ⟨(h.ge i g hg).1, by have := (h.ge i g hg).2; have := b.size; omega⟩, h.inj, h.nils, fun x hx => (h.own x hx).below b (Nat.le_refl _), h.ownc.below b (Nat.le_refl _), h.far, h.lead, h.bel.trans (b.mono h.bel.size), h.lo⟩
/-- The next row of the table lies there. -/
theorem A1.open_ (h : A1 wB d D E gT gl s os hs w) (hs' : s < D) {r : List Bool} (hk : Blk w g 4 (r.map Value.bool)) (hg0 : wB.heap.size ≤ g) (hfr : ∀ (i g' : Nat), os[i]? = some (some g') → g' ≠ g) (ht : Blk w1 gT 100 ((os.map (slO D)).set s (.slice (some ⟨g, 0, none⟩) D D))) (gr : Grew w w1 (some ⟨gT, 0, none⟩)) :
    A2 wB d D E gT gl s g (os.set s (some g)) hs nilHd r w1 := by
  obtain ⟨n1, n2⟩ := h.nils s (Nat.le_refl _) hs'
  have hne : ∀ {i : Nat}, i ≠ s → (os.set s (some g))[i]? = os[i]? := fun {i} hi => by rw [List.getElem?_set, if_neg (fun e => hi e.symm)]
  have hat : (os.set s (some g))[s]? = some (some g) := by rw [List.getElem?_set, if_pos rfl, if_pos (by rw [h.ol]; exact hs')]
  have hb : ∀ {g' t' : Nat} {cs : List Value}, Blk w g' t' cs → t' ≠ 100 → Blk w1 g' t' cs := fun {g' t' cs} hb hn => hb.grown gr.by_ (by have := hb.ne h.tb hn; simpa using this)
  have hset : hs.set s nilHd = hs := by
    apply List.ext_getElem?
    intro i
    rw [List.getElem?_set]
    by_cases e : s = i
    · subst e; rw [if_pos rfl, if_pos (by rw [h.hl]; exact hs'), n2]
    · rw [if_neg e]
  refine ⟨by rw [List.map_set]; exact ht, by rw [hset]; exact hb h.ld (by decide), by rw [List.length_set]; exact h.ol, h.hl, fun i g' hi hg' => ?_, hb hk (by decide), hat, fun i hi => ?_, fun i g' hg' => ?_, fun i j g' hi hj => ?_, fun i hi hD => ?_, fun x hx => (h.own x hx).grew gr (.inr ((h.own x hx).ne_blk h.tb (by decide))), Own.nil _ _ _ _, fun x _ => ?_, h.lead, gr.below h.bel h.bel.size (by intro a ha; injection ha with ha; subst ha; exact h.lo.1), h.lo⟩
  · rw [hne (by omega)] at hg'
    exact hb (h.row i g' hi hg') (by decide)
  · rw [hne (by omega)]; exact h.some_ i hi
  · have hz := gr.by_.size
    by_cases e : i = s
    · subst e
      rw [hat] at hg'
      injection hg' with hg'
      injection hg' with hg'
      subst hg'
      exact ⟨hg0, by have := hk.lt; omega⟩
    · rw [hne e] at hg'
      have := h.ge i g' hg'
      exact ⟨this.1, by omega⟩
  · by_cases e : i = s
    · by_cases e2 : j = s
      · rw [e, e2]
      · subst e
        rw [hat] at hi
        rw [hne e2] at hj
        injection hi with hi
        injection hi with hi
        exact absurd hi.symm (hfr j g' hj)
    · by_cases e2 : j = s
      · subst e2
        rw [hat] at hj
        rw [hne e] at hi
        injection hj with hj
        injection hj with hj
        exact absurd hj.symm (hfr i g' hi)
      · rw [hne e] at hi
        rw [hne e2] at hj
        exact h.inj i j g' hi hj
  · rw [hne (by omega)]; exact h.nils i (by omega) hD
  · show x.A = none ∨ x.A.map (·.block) ≠ none
    cases x.A with
    | none => exact .inl rfl
    | some a => exact .inr (by simp)
/-- One more state that the next one leads to. -/
theorem A2.more (h : A2 wB d D E gT gl s g os hs cur r w) (hs' : s < D) {A' : Option Addr} {c' : Nat} {l' : List Int} {w2 : World} (ho : OwnI wB.heap.size 3 w1 A' c' l') (gr : Grew w w1 cur.A) (hA : A'.map (·.block) = cur.A.map (·.block) ∨ ∃ g, A'.map (·.block) = some g ∧ w.heap.size ≤ g)
    (ht : Blk w2 gl 22 (((hs.set s cur).map hdS).set s (hdS ⟨A', c', l'⟩))) (gr2 : Grew w1 w2 (some ⟨gl, 0, none⟩)) : A2 wB d D E gT gl s g os hs ⟨A', c', l'⟩ r w2 := by
  have hb1 : ∀ {g' t' : Nat} {cs : List Value}, Blk w g' t' cs → t' ≠ 3 → Blk w1 g' t' cs := fun {g' t' cs} hb hn => hb.grown gr.by_ (fun e => h.ownc.ne_blk hb (fun hh => hn hh.symm) e.symm)
  have hl1 := hb1 h.ld (by decide)
  have hb : ∀ {g' t' : Nat} {cs : List Value}, Blk w g' t' cs → t' ≠ 3 → t' ≠ 22 → Blk w2 g' t' cs := fun {g' t' cs} hb hn hn2 => (hb1 hb hn).grown gr2.by_ (by have := (hb1 hb hn).ne hl1 hn2; simpa using this)
  have hset : ((hs.set s cur).map hdS).set s (hdS ⟨A', c', l'⟩) = (hs.set s ⟨A', c', l'⟩).map hdS := by rw [← List.map_set, List.set_set]
  have z := gr.by_.size
  have z2 := gr2.by_.size
  have bl := gr.below h.bel h.bel.size h.ownc.geB
  have o1 := fun x hx => (h.own x hx).grew gr (h.far x hx)
  exact ⟨hb h.tb (by decide) (by decide), by rw [← hset]; exact ht, h.ol, h.hl, fun i g' hi hg' => hb (h.row i g' hi hg') (by decide) (by decide), hb h.cu (by decide) (by decide), h.at_, h.some_, fun i g' hg' => ⟨(h.ge i g' hg').1, by have := (h.ge i g' hg').2; omega⟩, h.inj, h.nils,
    fun x hx => (o1 x hx).grew gr2 (.inr ((o1 x hx).ne_blk hl1 (by decide))), ho.grew gr2 (.inr (ho.ne_blk hl1 (by decide))), fun x hx => Own.far (h.own x hx) h.ownc (h.far x hx) hA, h.lead, gr2.below bl bl.size (by intro a ha; injection ha with ha; subst ha; exact h.lo.2), h.lo⟩
/-- One more cell of the next row. -/
theorem A2.cell (h : A2 wB d D E gT gl s g os hs cur r w) {r' : List Bool} (hk : Blk w1 g 4 (r'.map Value.bool)) (gr : Grew w w1 (some ⟨g, 0, none⟩)) : A2 wB d D E gT gl s g os hs cur r' w1 := by
  have hb : ∀ {g' t' : Nat} {cs : List Value}, Blk w g' t' cs → g' ≠ g → Blk w1 g' t' cs := fun {g' t' cs} hb hn => hb.grown gr.by_ (by simpa using hn)
  have z := gr.by_.size
  exact ⟨hb h.tb (h.tb.ne h.cu (by decide)), hb h.ld (h.ld.ne h.cu (by decide)), h.ol, h.hl, fun i g' hi hg' => hb (h.row i g' hi hg') (fun e => by subst e; have := h.inj i s g' hg' h.at_; omega), hk, h.at_, h.some_, fun i g' hg' => ⟨(h.ge i g' hg').1, by have := (h.ge i g' hg').2; omega⟩, h.inj, h.nils,
    fun x hx => (h.own x hx).grew gr (.inr ((h.own x hx).ne_blk h.cu (by decide))), h.ownc.grew gr (.inr (h.ownc.ne_blk h.cu (by decide))), h.far, h.lead, gr.below h.bel h.bel.size (by intro a ha; injection ha with ha; subst ha; exact (h.ge s g h.at_).1), h.lo⟩
theorem A2.close (h : A2 wB d D E gT gl s g os hs cur (rowA d D s D) w) (hs' : s < D) (hc : cur.l = leadA d E s E) : A1 wB d D E gT gl (s + 1) os (hs.set s cur) w := by
  have hne : ∀ {i : Nat}, i ≠ s → (hs.set s cur)[i]? = hs[i]? := fun {i} hi => by rw [List.getElem?_set, if_neg (fun e => hi e.symm)]
  refine ⟨h.tb, h.ld, h.ol, by rw [List.length_set]; exact h.hl, fun i g' hi hg' => ?_, fun i hi => ?_, h.ge, h.inj, fun i hi hD => ?_, fun x hx => ?_, fun i x hi hx => ?_, h.bel, h.lo⟩
  · by_cases e : i = s
    · subst e
      rw [h.at_] at hg'
      injection hg' with hg'
      injection hg' with hg'
      subst hg'
      exact h.cu
    · exact h.row i g' (by omega) hg'
  · by_cases e : i = s
    · subst e; exact ⟨g, h.at_⟩
    · exact h.some_ i (by omega)
  · rw [hne (by omega)]; exact h.nils i (by omega) hD
  · rcases List.mem_or_eq_of_mem_set hx with hx | rfl
    · exact h.own x hx
    · exact h.ownc
  · by_cases e : i = s
    · subst e
      rw [List.getElem?_set, if_pos rfl, if_pos (by rw [h.hl]; exact hs')] at hx
      injection hx with hx
      subst hx
      exact hc
    · rw [hne e] at hx
      exact h.lead i x (by omega) hx
end

/-- The whole table, as it stands. -/
structure A3 (wB : World) (d : Mach) (D E gT gl : Nat) (os : List (Option Nat)) (hs : List Hd) (B : List (List Bool)) (w : World) : Prop where
  tb : Blk w gT 100 (os.map (slO D))
  ld : Blk w gl 22 (hs.map hdS)
  ol : os.length = D
  hl : hs.length = D
  row : ∀ (i g : Nat), i < D → os[i]? = some (some g) → Blk w g 4 ((B.getD i []).map Value.bool)
  some_ : ∀ i : Nat, i < D → ∃ g, os[i]? = some (some g)
  ge : ∀ (i g : Nat), os[i]? = some (some g) → wB.heap.size ≤ g
  inj : ∀ (i j g : Nat), os[i]? = some (some g) → os[j]? = some (some g) → i = j
  own : ∀ x ∈ hs, OwnI wB.heap.size 3 w x.A x.c x.l
  lead : ∀ (i : Nat) (x : Hd), i < D → hs[i]? = some x → x.l = leadA d E i E
  bel : Below wB.heap.size wB w
theorem A3.same {wB : World} {d : Mach} {D E gT gl : Nat} {os : List (Option Nat)} {hs : List Hd} {B : List (List Bool)} {w w1 : World} (h : A3 wB d D E gT gl os hs B w) (b : Below w.heap.size w w1) : A3 wB d D E gT gl os hs B w1 :=
  ⟨h.tb.below b h.tb.lt, h.ld.below b h.ld.lt, h.ol, h.hl, fun i g hi hg => (h.row i g hi hg).below b (h.row i g hi hg).lt, h.some_, h.ge, h.inj, fun x hx => (h.own x hx).below b (Nat.le_refl _), h.lead, h.bel.trans (b.mono h.bel.size)⟩
noncomputable def tabA (d : Mach) (D : Nat) : List (List Bool) := (List.range D).map fun i => rowA d D i D
theorem tabA_at {d : Mach} {D i : Nat} (h : i < D) : (tabA d D).getD i [] = rowA d D i D := by rw [List.getD_eq_getElem?_getD]; simp [tabA, h]
theorem tabA_gb {d : Mach} {D s t : Nat} (hs : s < D) (ht : t < D) : gb (tabA d D) s t = false ↔ (dfin d s ↔ dfin d t) := by
  unfold gb
  rw [tabA_at hs, List.getD_eq_getElem?_getD]
  unfold dfin
  by_cases c1 : (s : Int) ∈ d.ends <;> by_cases c2 : (t : Int) ∈ d.ends <;> simp [rowA, ht, c1, c2]
theorem tabA_tb (d : Mach) (D E : Nat) : Tb d D E (tabA d D) := by
  refine ⟨⟨by simp [tabA], fun s hs => by rw [tabA_at hs, rowA_len]⟩, fun s t hs ht hg hq => ?_, fun s t hs ht hg => (tabA_gb hs ht).1 hg⟩
  have h0 := hq [] (by simp)
  have := (tabA_gb (d := d) hs ht).2 h0
  rw [this] at hg
  cases hg
theorem A1.whole {wB : World} {d : Mach} {D E gT gl : Nat} {os : List (Option Nat)} {hs : List Hd} {w : World} (h : A1 wB d D E gT gl D os hs w) : A3 wB d D E gT gl os hs (tabA d D) w :=
  ⟨h.tb, h.ld, h.ol, h.hl, fun i g hi hg => by rw [tabA_at hi]; exact h.row i g hi hg, h.some_, fun i g hg => (h.ge i g hg).1, h.inj, h.own, h.lead, h.bel⟩
/-- One more pair is apart. -/
theorem A3.set {wB : World} {d : Mach} {D E gT gl s t g : Nat} {os : List (Option Nat)} {hs : List Hd} {B : List (List Bool)} {w w1 : World} (h : A3 wB d D E gT gl os hs B w) (hq : Sq D B) (hs' : s < D) (hg : os[s]? = some (some g)) (hk : Blk w1 g 4 (((B.getD s []).map Value.bool).set t (.bool true))) (gr : Grew w w1 (some ⟨g, 0, none⟩)) :
    A3 wB d D E gT gl os hs (setT B s t) w1 := by
  have hc := h.row s g hs' hg
  have hb : ∀ {g' t' : Nat} {cs : List Value}, Blk w g' t' cs → g' ≠ g → Blk w1 g' t' cs := fun {g' t' cs} hb hn => hb.grown gr.by_ (by simpa using hn)
  refine ⟨hb h.tb (h.tb.ne hc (by decide)), hb h.ld (h.ld.ne hc (by decide)), h.ol, h.hl, fun i g' hi hg' => ?_, h.some_, h.ge, h.inj, fun x hx => (h.own x hx).grew gr (.inr ((h.own x hx).ne_blk hc (by decide))), h.lead, gr.below h.bel h.bel.size (by intro a ha; injection ha with ha; subst ha; exact h.ge s g hg)⟩
  unfold setT
  rw [getD_set _ _ _ _ _ (by rw [hq.len]; exact hs')]
  by_cases e : i = s
  · subst e
    rw [hg] at hg'
    injection hg' with hg'
    injection hg' with hg'
    subst hg'
    rw [if_pos rfl, List.map_set]
    exact hk
  · rw [if_neg e]
    exact hb (h.row i g' hi hg') (fun e2 => by subst e2; exact e (h.inj i s g' hg' hg))
theorem Rnd.weak {d : Mach} {D E : Nat} {B0 B : List (List Bool)} {ag : Bool} {p q : Nat → Nat → Nat → Prop} (h : Rnd d D E B0 B ag p) (hpq : ∀ s t e, s < D → t < D → e < E → gb B s t = false → q s t e → p s t e) : Rnd d D E B0 B ag q := by
  rcases h with ⟨h1, h2, h3⟩ | h
  · exact .inl ⟨h1, h2, fun s t e hs ht he hq hb => h3 s t e hs ht he (hpq s t e hs ht he hb hq) hb⟩
  · exact .inr h
theorem Rnd.hit {d : Mach} {D E : Nat} {B0 B : List (List Bool)} {ag : Bool} {p q : Nat → Nat → Nat → Prop} (h : Rnd d D E B0 B ag p) (hq : Sq D B) {s t : Nat} (hs : s < D) (ht : t < D) (hb : gb B s t = false) : Rnd d D E B0 (setT B s t) true q := by
  have h1 := cF_set hq hs ht hb
  rcases h with ⟨_, rfl, _⟩ | ⟨_, h2⟩
  · exact .inr ⟨rfl, h1⟩
  · exact .inr ⟨rfl, by omega⟩
theorem Rnd.miss {d : Mach} {D E : Nat} {B0 B : List (List Bool)} {ag : Bool} {p q : Nat → Nat → Nat → Prop} (h : Rnd d D E B0 B ag p) {s t e : Nat} (hx : gb B (dl d E s e) (dl d E t e) = false) (hpq : ∀ s' t' e', q s' t' e' → p s' t' e' ∨ (s' = s ∧ t' = t ∧ e' = e)) : Rnd d D E B0 B ag q := by
  rcases h with ⟨h1, h2, h3⟩ | h
  · refine .inl ⟨h1, h2, fun s' t' e' hs ht he hq hb => ?_⟩
    rcases hpq s' t' e' hq with h4 | ⟨rfl, rfl, rfl⟩
    · exact h3 s' t' e' hs ht he h4 hb
    · exact hx
  · exact .inr h
theorem ref8_Apart {w : World} {a : MV} {m : Mach} {L : List (List Int)} {ar : List Arr} (hD : Det m L ar) (h : IsM (· < w.heap.size) w a (detOf m L ar)) :
    Cal Tryd.prog 65 [a.val (detOf m L ar)] w fun v w' => ∃ (gT : Nat) (os : List (Option Nat)) (B : List (List Bool)), v = .slice (some ⟨gT, 0, none⟩) L.length L.length ∧ w.heap.size ≤ gT ∧ Blk w' gT 100 (os.map (slO L.length)) ∧ os.length = L.length ∧ B.length = L.length ∧ Below w.heap.size w w' ∧
      (∀ s, s < L.length → ∃ g, os[s]? = some (some g) ∧ w.heap.size ≤ g ∧ Blk w' g 4 ((B.getD s []).map Value.bool) ∧ (B.getD s []).length = L.length) ∧
      ∀ s t, s < L.length → t < L.length → (gb B s t = false ↔ eqA m.events.toNat (dl (detOf m L ar) m.events.toNat) (dfin (detOf m L ar)) s t) := by
  have hDM := DM.of hD
  have hst := hDM.st
  have hev := hDM.ev
  have hd0 := hDM.d0
  have hdn := hDM.dn
  have he8 := hDM.e8
  have hto : ∀ {w' : World}, IsM (· < w'.heap.size) w' a (detOf m L ar) → ∀ {s e : Nat}, s < L.length → e < m.events.toNat → Cal Tryd.prog 66 [a.val (detOf m L ar), .int .i64 s, .int .i64 e] w' fun v w2 => v = .int .i64 (dl (detOf m L ar) m.events.toNat s e : Int) ∧ Below w'.heap.size w' w2 := @fun w' hI s e hs he => ref8_to hD hI hs he
  generalize hdd : detOf m L ar = d at *
  generalize hE : m.events.toNat = E at *
  generalize hDl : L.length = D at *
  refine cal_ref8_Apart (by simp) 100000 fun Q hQ => ?_
  simp (disch := first | with_reducible assumption | omega) only [push_cast, x_blk, x_cd, ↓reduceIte, Nat.reduceEqDiff, List.map_cons, List.map_nil, Int.reduceEq, Int.lt_irrefl, F_ref8_Apart]
  refine blk_of (box_agg _ (a.cells d)) ?_
  intro w1 k1 b1 z1
  simp (disch := first | with_reducible assumption | omega) only [push_cast, x_blk, x_cd, ↓reduceIte, Nat.reduceEqDiff, List.map_cons, List.map_nil, Int.reduceEq, Int.lt_irrefl, k1.m0 ty_ag_3, hst, e_makeSlice']
  refine mk_one (z := .slice none 0 0) slT_97 (by decide) (by kernel_rfl) rfl D hdn ?_
  intro w2 k2 b2
  replace k1 := k1.below b2 k1.lt
  have bb := b1.trans (b2.mono b1.size)
  have gTl := k2.lt
  simp (disch := first | with_reducible assumption | omega) only [push_cast, x_blk, x_cd, ↓reduceIte, Nat.reduceEqDiff, List.map_cons, List.map_nil, Int.reduceEq, Int.lt_irrefl, k1.m0 ty_ag_3, hst, e_makeSlice']
  refine mk_one (z := .slice none 0 0) slT_44 (by decide) (by kernel_rfl) rfl D hdn ?_
  intro w3 k3 b3
  replace k1 := k1.below b3 k1.lt
  replace k2 := k2.below b3 k2.lt
  replace bb := bb.trans (b3.mono bb.size)
  have gll := k3.lt
  have z3 := b3.size
  have hA1 : A1 w d D E w1.heap.size w2.heap.size 0 (List.replicate D none) (List.replicate D nilHd) w3 := by
    refine ⟨by rw [List.map_replicate]; exact k2, by rw [List.map_replicate]; exact k3, by simp, by simp, fun i g hi => absurd hi (by omega), fun i hi => absurd hi (by omega), fun i g hg => ?_, fun i j g hg => ?_, fun i _ hi => ?_, fun x hx => ?_, fun i x hi => absurd hi (by omega), bb, by omega, by omega⟩
    · rw [List.getElem?_replicate] at hg; split at hg <;> cases hg
    · rw [List.getElem?_replicate] at hg; split at hg <;> cases hg
    · rw [List.getElem?_replicate, List.getElem?_replicate, if_pos hi, if_pos hi]; exact ⟨rfl, rfl⟩
    · rw [(List.mem_replicate.1 hx).2]; exact Own.nil _ _ _ _
  have hsT : (some (⟨w1.heap.size, 0, none⟩ : Addr)).isSome = true := rfl
  have hsL : (some (⟨w2.heap.size, 0, none⟩ : Addr)).isSome = true := rfl
  have hgT0 : w.heap.size < w1.heap.size := by omega
  generalize hgT : w1.heap.size = gT at *
  generalize hgl : w2.heap.size = gl at *
  clear b1 b2 b3 k2 k3 z1 z3 bb gTl gll
  simp (disch := first | with_reducible assumption | omega) only [push_cast, x_blk, x_cd, ↓reduceIte, Nat.reduceEqDiff, List.map_cons, List.map_nil, Int.reduceEq, Int.lt_irrefl]
  refine loop_rule (fun f w' => ∃ (s : Nat) (os : List (Option Nat)) (hs : List Hd), s ≤ D ∧ (f 1 = .pointer (some ⟨w.heap.size, 0, none⟩) ∧ f 3 = .slice (some ⟨gT, 0, none⟩) D D ∧ f 4 = .slice (some ⟨gl, 0, none⟩) D D ∧ f 5 = .int .i64 s) ∧
      Blk w' w.heap.size 25 (a.cells d) ∧ A1 w d D E gT gl s os hs w')
    (fun f _ => D - (intOf (f 5)).toNat) ⟨0, _, _, by omega, ⟨(by simp only [push_cast, ↓reduceIte, Nat.reduceEqDiff, Int.reduceEq]), rfl, rfl, rfl⟩, k1, hA1⟩ ?_
  clear hA1 k1 hgT hgl
  rintro f w1 ⟨s, os, hs, hsD, fr, k1, hA⟩ J hJ
  by_cases hlt : (s : Int) < (D : Int)
  case neg =>
    have hse : s = D := by omega
    rw [hse] at hA
    have hA3 := hA.whole
    have hTb := tabA_tb d D E
    have hlo := hA.lo
    simp (disch := first | with_reducible assumption | omega) only [push_cast, x_blk, x_cd, ↓reduceIte, Nat.reduceEqDiff, List.map_cons, List.map_nil, Int.reduceEq, Int.lt_irrefl, L_ref8_Apart_6, fr, hlt, Int.lt_irrefl, k1.m0 ty_ag_3, hst]
    clear hA hJ
    generalize tabA d D = B1 at *
    refine loop_ix (fun n f w' => ∃ (B : List (List Bool)) (ag : Bool), n = 2 * cF D B + (if ag then 1 else 0) ∧ Tb d D E B ∧ (f 1 = .pointer (some ⟨w.heap.size, 0, none⟩) ∧ f 3 = .slice (some ⟨gT, 0, none⟩) D D ∧ f 4 = .slice (some ⟨gl, 0, none⟩) D D ∧ f 9 = .bool ag) ∧
        (ag = false → ∀ s t, s < D → t < D → gb B s t = false → ∀ e, e < E → gb B (dl d E s e) (dl d E t e) = false) ∧ Blk w' w.heap.size 25 (a.cells d) ∧ A3 w d D E gT gl os hs B w')
      (n0 := 2 * cF D B1 + 1) ⟨B1, true, rfl, hTb, (by simp only [push_cast, ↓reduceIte, Nat.reduceEqDiff, true_and, and_true, and_self, eq_self, fr]), (fun hh => by cases hh), k1, hA3⟩ ?_
    clear hA3 hTb k1 fr hlt hse hsD
    rintro n f w1 ⟨B, ag, rfl, hTb, fr, hstab, k1, hA⟩ J hJ
    cases ag
    case false =>
      simp (disch := first | with_reducible assumption | omega) only [push_cast, x_blk, x_cd, ↓reduceIte, Nat.reduceEqDiff, List.map_cons, List.map_nil, Int.reduceEq, Int.lt_irrefl, L_ref8_Apart_3, fr]
      exact fin_1 (hQ _ _ ⟨gT, os, B, (by simp only [push_cast, ↓reduceIte, Nat.reduceEqDiff, Int.reduceEq, fr]), hlo.1, hA.tb, hA.ol, hTb.sq.len, hA.bel, fun s hs => by
        obtain ⟨g, hg⟩ := hA.some_ s hs
        exact ⟨g, hg, hA.ge s g hg, hA.row s g hs hg, hTb.sq.row s hs⟩, fun s t hs ht => hTb.done hDM (hstab rfl) hs ht⟩)
    simp (disch := first | with_reducible assumption | omega) only [push_cast, x_blk, x_cd, ↓reduceIte, Nat.reduceEqDiff, List.map_cons, List.map_nil, Int.reduceEq, Int.lt_irrefl, L_ref8_Apart_3, fr]
    have hR0 : Rnd d D E B B false (fun s' _ _ => s' < 0) := .inl ⟨rfl, rfl, fun s t e _ _ _ h0 => absurd h0 (by omega)⟩
    refine loop_rule (fun f w' => ∃ (s : Nat) (B2 : List (List Bool)) (ag : Bool), s ≤ D ∧ Tb d D E B2 ∧ Rnd d D E B B2 ag (fun s' _ _ => s' < s) ∧ (f 1 = .pointer (some ⟨w.heap.size, 0, none⟩) ∧ f 3 = .slice (some ⟨gT, 0, none⟩) D D ∧ f 4 = .slice (some ⟨gl, 0, none⟩) D D ∧ f 9 = .bool ag ∧ f 10 = .int .i64 s) ∧
        Blk w' w.heap.size 25 (a.cells d) ∧ A3 w d D E gT gl os hs B2 w')
      (fun f _ => D - (intOf (f 10)).toNat) ⟨0, B, false, by omega, hTb, hR0, (by simp only [push_cast, ↓reduceIte, Nat.reduceEqDiff, true_and, and_true, and_self, eq_self, fr]), k1, hA⟩ ?_
    clear hA hTb k1 fr hR0 hstab
    rintro f w1 ⟨s, B2, ag, hsD, hTb, hR, fr, k1, hA⟩ J1 hJ1
    by_cases hlt : (s : Int) < (D : Int)
    case neg =>
      have hse : s = D := by omega
      rw [hse] at hR
      simp (disch := first | with_reducible assumption | omega) only [push_cast, x_blk, x_cd, ↓reduceIte, Nat.reduceEqDiff, List.map_cons, List.map_nil, Int.reduceEq, Int.lt_irrefl, L_ref8_Apart_2, fr, hlt, hse, Int.lt_irrefl, k1.m0 ty_ag_3, hst]
      rcases hR with ⟨rfl, rfl, h3⟩ | ⟨rfl, h3⟩
      · exact hJ _ _ _ ⟨B2, false, rfl, hTb, (by simp only [push_cast, ↓reduceIte, Nat.reduceEqDiff, true_and, and_true, and_self, eq_self, fr]), (fun _ s t hs ht hb e he => h3 s t e hs ht he hs hb), k1, hA⟩ (by simp)
      · exact hJ _ _ _ ⟨B2, true, rfl, hTb, (by simp only [push_cast, ↓reduceIte, Nat.reduceEqDiff, true_and, and_true, and_self, eq_self, fr]), (fun hh => by cases hh), k1, hA⟩ (by simp; omega)
    have hsl : s < D := by omega
    have hmu : D - (intOf (f 10)).toNat = D - s := by rw [fr.2.2.2.2]; simp [intOf]
    rw [hmu] at hJ1
    simp (disch := first | with_reducible assumption | omega) only [push_cast, x_blk, x_cd, ↓reduceIte, Nat.reduceEqDiff, List.map_cons, List.map_nil, Int.reduceEq, Int.lt_irrefl, L_ref8_Apart_2, fr, hlt, hsl, k1.m0 ty_ag_3, hst]
    have hR0 : Rnd d D E B B2 ag (fun s' t' _ => s' < s ∨ (s' = s ∧ t' < 0)) := hR.weak fun _ _ _ _ _ _ _ h0 => h0.elim id fun hh => absurd hh.2 (by omega)
    refine loop_rule (fun f w' => ∃ (t : Nat) (B2 : List (List Bool)) (ag : Bool), t ≤ D ∧ Tb d D E B2 ∧ Rnd d D E B B2 ag (fun s' t' _ => s' < s ∨ (s' = s ∧ t' < t)) ∧ (f 1 = .pointer (some ⟨w.heap.size, 0, none⟩) ∧ f 3 = .slice (some ⟨gT, 0, none⟩) D D ∧ f 4 = .slice (some ⟨gl, 0, none⟩) D D ∧ f 9 = .bool ag ∧ f 10 = .int .i64 s ∧ f 11 = .int .i64 t) ∧
        Blk w' w.heap.size 25 (a.cells d) ∧ A3 w d D E gT gl os hs B2 w')
      (fun f _ => D - (intOf (f 11)).toNat) ⟨0, B2, ag, by omega, hTb, hR0, (by simp only [push_cast, ↓reduceIte, Nat.reduceEqDiff, true_and, and_true, and_self, eq_self, fr]), k1, hA⟩ ?_
    clear hA hTb k1 fr hR0 hR hmu hlt
    clear ag B2
    rintro f w1 ⟨t, B2, ag, htD, hTb, hR, fr, k1, hA⟩ J2 hJ2
    by_cases hlt : (t : Int) < (D : Int)
    case neg =>
      have hte : t = D := by omega
      rw [hte] at hR
      simp (disch := first | with_reducible assumption | omega) only [push_cast, x_blk, x_cd, ↓reduceIte, Nat.reduceEqDiff, List.map_cons, List.map_nil, Int.reduceEq, Int.lt_irrefl, L_ref8_Apart_1, fr, hlt, hte, Int.lt_irrefl, k1.m0 ty_ag_3, hst]
      exact hJ1 _ _ ⟨s + 1, B2, ag, by omega, hTb, hR.weak fun s' t' e' _ ht' _ _ h0 => by omega, (by simp only [push_cast, ↓reduceIte, Nat.reduceEqDiff, true_and, and_true, and_self, eq_self, fr]), k1, hA⟩ (by simp only [push_cast, ↓reduceIte, Nat.reduceEqDiff, intOf, fr]; omega)
    have htl : t < D := by omega
    have hmu : D - (intOf (f 11)).toNat = D - t := by rw [fr.2.2.2.2.2]; simp [intOf]
    rw [hmu] at hJ2
    simp (disch := first | with_reducible assumption | omega) only [push_cast, x_blk, x_cd, ↓reduceIte, Nat.reduceEqDiff, List.map_cons, List.map_nil, Int.reduceEq, Int.lt_irrefl, L_ref8_Apart_1, fr, hlt, htl, k1.m0 ty_ag_3, hst]
    have hR0 : Rnd d D E B B2 ag (fun s' t' e' => s' < s ∨ (s' = s ∧ (t' < t ∨ (t' = t ∧ e' < 0)))) := hR.weak fun _ _ _ _ _ _ _ h0 => by omega
    refine loop_rule (fun f w' => ∃ (e : Nat) (B2 : List (List Bool)) (ag : Bool), e ≤ E ∧ Tb d D E B2 ∧ Rnd d D E B B2 ag (fun s' t' e' => s' < s ∨ (s' = s ∧ (t' < t ∨ (t' = t ∧ e' < e)))) ∧ (f 1 = .pointer (some ⟨w.heap.size, 0, none⟩) ∧ f 3 = .slice (some ⟨gT, 0, none⟩) D D ∧ f 4 = .slice (some ⟨gl, 0, none⟩) D D ∧ f 9 = .bool ag ∧ f 10 = .int .i64 s ∧ f 11 = .int .i64 t ∧ f 12 = .int .i64 e) ∧
        Blk w' w.heap.size 25 (a.cells d) ∧ A3 w d D E gT gl os hs B2 w')
      (fun f _ => E - (intOf (f 12)).toNat) ⟨0, B2, ag, by omega, hTb, hR0, (by simp only [push_cast, ↓reduceIte, Nat.reduceEqDiff, true_and, and_true, and_self, eq_self, fr]), k1, hA⟩ ?_
    clear hA hTb k1 fr hR0 hR hmu hlt
    clear ag B2
    rintro f w1 ⟨e, B2, ag, heE, hTb, hR, fr, k1, hA⟩ J3 hJ3
    by_cases hle : (e : Int) < (E : Int)
    case neg =>
      have hee : e = E := by omega
      rw [hee] at hR
      simp (disch := first | with_reducible assumption | omega) only [push_cast, x_blk, x_cd, ↓reduceIte, Nat.reduceEqDiff, List.map_cons, List.map_nil, Int.reduceEq, Int.lt_irrefl, L_ref8_Apart_0, fr, hle, hee, Int.lt_irrefl, k1.m1 ty_ag_3, hev]
      exact hJ2 _ _ ⟨t + 1, B2, ag, by omega, hTb, hR.weak fun s' t' e' _ _ he' _ h0 => by omega, (by simp only [push_cast, ↓reduceIte, Nat.reduceEqDiff, true_and, and_true, and_self, eq_self, fr]), k1, hA⟩ (by simp only [push_cast, ↓reduceIte, Nat.reduceEqDiff, intOf, fr]; omega)
    have hel : e < E := by omega
    obtain ⟨g, hg⟩ := hA.some_ s hsl
    have hsg : (some (⟨g, 0, none⟩ : Addr)).isSome = true := rfl
    have hrow := hA.row s g hsl hg
    have hlen : s < (os.map (slO D)).length := by rw [List.length_map, hA.ol]; exact hsl
    have hgd : (os.map (slO D)).getD s undef = .slice (some ⟨g, 0, none⟩) D D := by rw [List.getD_eq_getElem?_getD, List.getElem?_map, hg]; rfl
    have hrl : t < ((B2.getD s []).map Value.bool).length := by rw [List.length_map, hTb.sq.row s hsl]; exact htl
    have hrd : ((B2.getD s []).map Value.bool).getD t undef = .bool (gb B2 s t) := by
      rw [List.length_map] at hrl
      unfold gb
      exact getD_map _ _ _ _ _ hrl
    have htb := hA.tb
    cases hb : gb B2 s t
    case true =>
      rw [hb] at hrd
      simp (disch := first | with_reducible assumption | omega) only [push_cast, x_blk, x_cd, ↓reduceIte, Nat.reduceEqDiff, List.map_cons, List.map_nil, Int.reduceEq, Int.lt_irrefl, L_ref8_Apart_0, fr, hle, hsl, htl, hsT, hsg, Int.natCast_nonneg, eA_zero, k1.m1 ty_ag_3, hev, htb.ld ty_ag_100 s hlen, hgd, hrow.ld ty_ag_4 t hrl, hrd]
      exact hJ2 _ _ ⟨t + 1, B2, ag, by omega, hTb, hR.weak fun s' t' e' _ _ he' hb' h0 => by
        by_cases c : s' = s ∧ t' = t
        · rw [c.1, c.2, hb] at hb'; cases hb'
        · omega, (by simp only [push_cast, ↓reduceIte, Nat.reduceEqDiff, true_and, and_true, and_self, eq_self, fr]), k1, hA⟩ (by simp only [push_cast, ↓reduceIte, Nat.reduceEqDiff, intOf, fr]; omega)
    rw [hb] at hrd
    have bd : Below w1.heap.size w1 w1.drew := (Same.refl w1).drew.below _
    have hA2 := hA.same bd
    have k1d := k1.below bd k1.lt
    obtain ⟨xs, hxs⟩ : ∃ x, hs[s]? = some x := ⟨_, List.getElem?_eq_getElem (by rw [hA.hl]; exact hsl)⟩
    obtain ⟨xt, hxt⟩ : ∃ x, hs[t]? = some x := ⟨_, List.getElem?_eq_getElem (by rw [hA.hl]; exact htl)⟩
    have lxs := hA.lead s xs hsl hxs
    have lxt := hA.lead t xt htl hxt
    have oxs := OwnI.ints (hA2.own xs (List.mem_of_getElem? hxs))
    have oxt := OwnI.ints (hA2.own xt (List.mem_of_getElem? hxt))
    have nxs : e < xs.l.length := by rw [lxs, leadA_len]; exact hel
    have nxt : e < xt.l.length := by rw [lxt, leadA_len]; exact hel
    have ixs := oxs.isSome (by omega)
    have ixt := oxt.isSome (by omega)
    have axs : xs.l.getD e 0 = (dl d E s e : Int) := by rw [lxs]; exact leadA_at hel
    have axt : xt.l.getD e 0 = (dl d E t e : Int) := by rw [lxt]; exact leadA_at hel
    have ms : s < (hs.map hdS).length := by rw [List.length_map, hA.hl]; exact hsl
    have mt : t < (hs.map hdS).length := by rw [List.length_map, hA.hl]; exact htl
    have gs' : (hs.map hdS).getD s undef = .slice xs.A xs.l.length xs.c := by rw [List.getD_eq_getElem?_getD, List.getElem?_map, hxs]; rfl
    have gt' : (hs.map hdS).getD t undef = .slice xt.A xt.l.length xt.c := by rw [List.getD_eq_getElem?_getD, List.getElem?_map, hxt]; rfl
    have dls := hDM.dl_lt hsl hel
    have dlt := hDM.dl_lt htl hel
    have hhit := hR.hit (q := fun s' t' e' => s' < s ∨ (s' = s ∧ (t' < t ∨ (t' = t ∧ e' < e + 1)))) hTb.sq hsl htl hb
    have hmis := fun hx => hR.miss (s := s) (t := t) (e := e) (q := fun s' t' e' => s' < s ∨ (s' = s ∧ (t' < t ∨ (t' = t ∧ e' < e + 1)))) hx (fun s' t' e' h0 => by omega)
    have hadd := fun hx => hTb.add hDM hsl htl hel hx
    generalize dl d E s e = u1 at *
    generalize dl d E t e = u2 at *
    obtain ⟨g1, hg1⟩ := hA.some_ u1 dls
    have hsg1 : (some (⟨g1, 0, none⟩ : Addr)).isSome = true := rfl
    have hrow1 := hA2.row u1 g1 dls hg1
    have hlen1 : u1 < (os.map (slO D)).length := by rw [List.length_map, hA.ol]; exact dls
    have hgd1 : (os.map (slO D)).getD u1 undef = .slice (some ⟨g1, 0, none⟩) D D := by rw [List.getD_eq_getElem?_getD, List.getElem?_map, hg1]; rfl
    have hrl1 : u2 < ((B2.getD u1 []).map Value.bool).length := by rw [List.length_map, hTb.sq.row u1 dls]; exact dlt
    have hrd1 : ((B2.getD u1 []).map Value.bool).getD u2 undef = .bool (gb B2 u1 u2) := by
      have h1 := hrl1
      rw [List.length_map] at h1
      unfold gb
      exact getD_map _ _ _ _ _ h1
    have htb2 := hA2.tb
    have hld2 := hA2.ld
    simp (disch := first | with_reducible assumption | omega) only [push_cast, x_blk, x_cd, ↓reduceIte, Nat.reduceEqDiff, List.map_cons, List.map_nil, Int.reduceEq, Int.lt_irrefl, L_ref8_Apart_0, fr, hle, hsl, htl, hsT, hsg, Int.natCast_nonneg, eA_zero, k1.m1 ty_ag_3, hev, htb.ld ty_ag_100 s hlen, hgd, hrow.ld ty_ag_4 t hrl, hrd, hsL, hld2.ld ty_ag_22 s ms, hld2.ld ty_ag_22 t mt, gs', gt', ixs, ixt, nxs, nxt, oxs.ld ty_ag_3 e nxs, oxt.ld ty_ag_3 e nxt, axs, axt, dls, dlt, hsg1, htb2.ld ty_ag_100 u1 hlen1, hgd1, hrow1.ld ty_ag_4 u2 hrl1, hrd1]
    cases hx : gb B2 u1 u2
    case false =>
      simp (disch := first | with_reducible assumption | omega) only [push_cast, x_blk, x_cd, ↓reduceIte, Nat.reduceEqDiff, List.map_cons, List.map_nil, Int.reduceEq, Int.lt_irrefl, fr]
      exact hJ3 _ _ ⟨e + 1, B2, ag, by omega, hTb, hmis hx, (by simp only [push_cast, ↓reduceIte, Nat.reduceEqDiff, true_and, and_true, and_self, eq_self, fr]), k1d, hA2⟩ (by simp only [push_cast, ↓reduceIte, Nat.reduceEqDiff, intOf, fr]; omega)
    have hrow2 := hA2.row s g hsl hg
    simp (disch := first | with_reducible assumption | omega) only [push_cast, x_blk, x_cd, ↓reduceIte, Nat.reduceEqDiff, List.map_cons, List.map_nil, Int.reduceEq, Int.lt_irrefl, fr, hsl, htl, hsT, hsg, Int.natCast_nonneg, eA_zero, htb2.ld ty_ag_100 s hlen, hgd]
    refine sto_bool hrow2 (by kernel_rfl) t hrl true ?_
    intro w7 k7 g7 z7
    have hA7 := hA2.set hTb.sq hsl hg k7 g7
    have k17 := k1d.grown g7.by_ (by
      have := k1d.ne hrow2 (by decide)
      simpa using this)
    simp (disch := first | with_reducible assumption | omega) only [push_cast, x_blk, x_cd, ↓reduceIte, Nat.reduceEqDiff, List.map_cons, List.map_nil, Int.reduceEq, Int.lt_irrefl, fr]
    exact hJ3 _ _ ⟨e + 1, _, true, by omega, hadd hx, hhit, (by simp only [push_cast, ↓reduceIte, Nat.reduceEqDiff, true_and, and_true, and_self, eq_self, fr]), k17, hA7⟩ (by simp only [push_cast, ↓reduceIte, Nat.reduceEqDiff, intOf, fr]; omega)
  have hsl : s < D := by omega
  have hmu : D - (intOf (f 5)).toNat = D - s := by rw [fr.2.2.2]; simp [intOf]
  rw [hmu] at hJ
  simp (disch := first | with_reducible assumption | omega) only [push_cast, x_blk, x_cd, ↓reduceIte, Nat.reduceEqDiff, List.map_cons, List.map_nil, Int.reduceEq, Int.lt_irrefl, L_ref8_Apart_6, fr, hlt, k1.m0 ty_ag_3, hst, e_makeSlice']
  refine mk_one (z := .bool false) slT_100 (by decide) (by kernel_rfl) rfl D hdn ?_
  intro w2 k2 b2
  have hge := hA.ge
  have hw0 := hA.bel.size
  have hk1l := k1.lt
  replace k1 := k1.below b2 k1.lt
  replace hA := hA.below b2
  have hwl := hA.bel.size
  simp (disch := first | with_reducible assumption | omega) only [push_cast, x_blk, x_cd, ↓reduceIte, Nat.reduceEqDiff, List.map_cons, List.map_nil, Int.reduceEq, Int.lt_irrefl, fr, hsl, hsT, Int.natCast_nonneg, eA_zero]
  refine sto_slice hA.tb (by kernel_rfl) s (by rw [List.length_map, hA.ol]; exact hsl) _ _ _ ?_
  intro w3 k3 g3 z3
  have hA2 := hA.open_ (g := w1.heap.size) hsl (r := rowA d D s 0) (by rw [rowA_zero, List.map_replicate]; exact k2) hw0 (fun i g' hg' e => by
    have := (hge i g' hg').2
    omega) k3 g3
  replace k1 := k1.grown g3.by_ (by simp; omega)
  generalize w1.heap.size = g at *
  generalize hos : os.set s (some g) = os2 at *
  clear hA hge k2 k3 g3 z3 b2 hw0 hk1l
  simp (disch := first | with_reducible assumption | omega) only [push_cast, x_blk, x_cd, ↓reduceIte, Nat.reduceEqDiff, List.map_cons, List.map_nil, Int.reduceEq, Int.lt_irrefl, fr]
  refine loop_rule (fun f w' => ∃ (e : Nat) (cur : Hd), e ≤ E ∧ cur.l = leadA d E s e ∧ (f 1 = .pointer (some ⟨w.heap.size, 0, none⟩) ∧ f 3 = .slice (some ⟨gT, 0, none⟩) D D ∧ f 4 = .slice (some ⟨gl, 0, none⟩) D D ∧ f 5 = .int .i64 s ∧ f 6 = .int .i64 e) ∧
      Blk w' w.heap.size 25 (a.cells d) ∧ A2 w d D E gT gl s g os2 hs cur (rowA d D s 0) w')
    (fun f _ => E - (intOf (f 6)).toNat) ⟨0, nilHd, by omega, rfl, (by simp only [push_cast, ↓reduceIte, Nat.reduceEqDiff, true_and, and_true, and_self, eq_self, fr]), k1, hA2⟩ ?_
  clear hA2 k1 hmu
  rintro f w4 ⟨e, cur, heE, hcl, fr, k1, hA⟩ J2 hJ2
  by_cases hle : (e : Int) < (E : Int)
  · have hee : e < E := by omega
    have hIM := h.up hA.bel
    simp (disch := first | with_reducible assumption | omega) only [push_cast, x_blk, x_cd, ↓reduceIte, Nat.reduceEqDiff, List.map_cons, List.map_nil, Int.reduceEq, Int.lt_irrefl, L_ref8_Apart_5, fr, hle, k1.m1 ty_ag_3, hev, k1.mA ty_ag_25 ty_sz_25]
    refine call_of (hto hIM hsl hee) ?_
    rintro v w5 ⟨rfl, b5⟩
    replace k1 := k1.below b5 k1.lt
    replace hA := hA.below b5
    have hcs : ((hs.set s cur).map hdS)[s]? = some (hdS cur) := by rw [List.getElem?_map, List.getElem?_set, if_pos rfl, if_pos (by rw [hA.hl]; exact hsl)]; rfl
    have hlc := hA.ld.lt
    have hlen : s < ((hs.set s cur).map hdS).length := by rw [List.length_map, List.length_set, hA.hl]; exact hsl
    have hgd : ((hs.set s cur).map hdS).getD s undef = hdS cur := by rw [List.getD_eq_getElem?_getD, hcs]; rfl
    have hld := hA.ld
    have hcn := leadA_len d E s e
    have hcn2 : cur.l.length = e := by rw [hcl, hcn]
    simp (disch := first | with_reducible assumption | omega) only [push_cast, x_blk, x_cd, ↓reduceIte, Nat.reduceEqDiff, List.map_cons, List.map_nil, Int.reduceEq, Int.lt_irrefl, fr, hsl, hsL, Int.natCast_nonneg, eA_zero, hld.ld ty_ag_22 s hlen, hgd, hdS]
    refine app_int slT_22 hA.ownc (dl d E s e : Int) (by omega) hA.bel.size ?_
    intro A' c' w6 o6 g6 hA6 hs6 hz6
    have hld6 := hld.grown g6.by_ (fun e => hA.ownc.ne_blk hld (by decide) e.symm)
    simp (disch := first | with_reducible assumption | omega) only [push_cast, x_blk, x_cd, ↓reduceIte, Nat.reduceEqDiff, List.map_cons, List.map_nil, Int.reduceEq, Int.lt_irrefl, fr, hsl, hsL, Int.natCast_nonneg, eA_zero]
    refine sto_slice hld6 (by kernel_rfl) s hlen _ _ _ ?_
    intro w7 k7 g7 z7
    have hA7 := hA.more hsl (l' := cur.l ++ [(dl d E s e : Int)]) o6 g6 hA6 (by
      have k := k7
      unfold hdS at k ⊢
      simp only [List.length_append, List.length_cons, List.length_nil, Nat.zero_add] at k ⊢
      exact k) g7
    have k17 := (k1.grown g6.by_ (fun e => hA.ownc.ne_blk k1 (by decide) e.symm)).grown g7.by_ (by
      have := (k1.grown g6.by_ (fun e => hA.ownc.ne_blk k1 (by decide) e.symm)).ne hld6 (by decide)
      simpa using this)
    simp (disch := first | with_reducible assumption | omega) only [push_cast, x_blk, x_cd, ↓reduceIte, Nat.reduceEqDiff, List.map_cons, List.map_nil, Int.reduceEq, Int.lt_irrefl, fr]
    exact hJ2 _ _ ⟨e + 1, _, by omega, by rw [hcl, ← leadA_succ], (by simp only [push_cast, ↓reduceIte, Nat.reduceEqDiff, true_and, and_true, and_self, eq_self, fr]), k17, hA7⟩ (by simp only [push_cast, ↓reduceIte, Nat.reduceEqDiff, intOf, fr]; omega)
  have hee : e = E := by omega
  rw [hee] at hcl
  simp (disch := first | with_reducible assumption | omega) only [push_cast, x_blk, x_cd, ↓reduceIte, Nat.reduceEqDiff, List.map_cons, List.map_nil, Int.reduceEq, Int.lt_irrefl, L_ref8_Apart_5, fr, hle, hee, Int.lt_irrefl, k1.m1 ty_ag_3, hev]
  refine loop_rule (fun f w' => ∃ t : Nat, t ≤ D ∧ (f 1 = .pointer (some ⟨w.heap.size, 0, none⟩) ∧ f 3 = .slice (some ⟨gT, 0, none⟩) D D ∧ f 4 = .slice (some ⟨gl, 0, none⟩) D D ∧ f 5 = .int .i64 s ∧ f 8 = .int .i64 t) ∧
      Blk w' w.heap.size 25 (a.cells d) ∧ A2 w d D E gT gl s g os2 hs cur (rowA d D s t) w')
    (fun f _ => D - (intOf (f 8)).toNat) ⟨0, by omega, (by simp only [push_cast, ↓reduceIte, Nat.reduceEqDiff, true_and, and_true, and_self, eq_self, fr]), k1, hA⟩ ?_
  clear hA k1 fr hle
  rintro f w4 ⟨t, htD, fr, k1, hA⟩ J2 hJ2
  by_cases hle : (t : Int) < (D : Int)
  case neg =>
    have hte : t = D := by omega
    rw [hte] at hA
    simp (disch := first | with_reducible assumption | omega) only [push_cast, x_blk, x_cd, ↓reduceIte, Nat.reduceEqDiff, List.map_cons, List.map_nil, Int.reduceEq, Int.lt_irrefl, L_ref8_Apart_4, fr, hle, hte, Int.lt_irrefl, k1.m0 ty_ag_3, hst]
    exact hJ _ _ ⟨s + 1, _, _, by omega, (by simp only [push_cast, ↓reduceIte, Nat.reduceEqDiff, true_and, and_true, and_self, eq_self, fr]), k1, hA.close hsl hcl⟩ (by simp only [push_cast, ↓reduceIte, Nat.reduceEqDiff, intOf, fr]; omega)
  have htl : t < D := by omega
  have bd : Below w4.heap.size w4 w4.drew := (Same.refl w4).drew.below _
  have k1d := k1.below bd k1.lt
  replace hA := hA.below bd
  have hIE := (h.up hA.bel).ends
  have hrl := row_lenH hDM.ends
  have hcs : (os2.map (slO D))[s]? = some (.slice (some ⟨g, 0, none⟩) D D) := by rw [List.getElem?_map, hA.at_]; rfl
  have hlen : s < (os2.map (slO D)).length := by rw [List.length_map, hA.ol]; exact hsl
  have hgd : (os2.map (slO D)).getD s undef = .slice (some ⟨g, 0, none⟩) D D := by rw [List.getD_eq_getElem?_getD, hcs]; rfl
  have hsg : (some (⟨g, 0, none⟩ : Addr)).isSome = true := rfl
  have htb := hA.tb
  simp (disch := first | with_reducible assumption | omega) only [push_cast, x_blk, x_cd, ↓reduceIte, Nat.reduceEqDiff, List.map_cons, List.map_nil, Int.reduceEq, Int.lt_irrefl, L_ref8_Apart_4, fr, hle, hsl, htl, hsT, hsg, Int.natCast_nonneg, eA_zero, htb.ld ty_ag_100 s hlen, hgd, k1.m0 ty_ag_3, hst, k1d.m4 ty_ag_22]
  refine call_of (ref1_Has hIE a.ce (s : Int) (by omega)) ?_
  rintro v w5 ⟨rfl, s5⟩
  have htb2 : Tryd.prog.underlying 4 = some .bool := Tryd.underlying4
  have hnb := fun {K : Fr → World → Prop} (u : World) (f : Fr) (d : Option Nat) (w : World) (xo yo : Operand) (a b : Bool) => bin_neb (P := Tryd.prog) (K := K) u f d w 4 xo yo htb2 a b
  simp (disch := first | with_reducible assumption | omega) only [push_cast, x_blk, x_cd, ↓reduceIte, Nat.reduceEqDiff, List.map_cons, List.map_nil, Int.reduceEq, Int.lt_irrefl]
  refine ⟨s5.below _, ?_⟩
  refine call_of (ref1_Has (hIE.same s5) a.ce (t : Int) (by omega)) ?_
  rintro v w6 ⟨rfl, s6⟩
  have s56 := s5.trans s6
  replace hA := hA.below (s56.below _)
  have k16 := k1d.below (s56.below _) k1d.lt
  have hrl2 : t < ((rowA d D s t).map Value.bool).length := by rw [List.length_map, rowA_len]; exact htl
  simp (disch := first | with_reducible assumption | omega) only [push_cast, x_blk, x_cd, ↓reduceIte, Nat.reduceEqDiff, List.map_cons, List.map_nil, Int.reduceEq, Int.lt_irrefl, hnb, hsg, htl, Int.natCast_nonneg, eA_zero]
  refine ⟨s56.below _, ?_⟩
  refine sto_bool hA.cu (by kernel_rfl) t hrl2 _ ?_
  intro w7 k7 g7 z7
  have hrs : ((rowA d D s t).map Value.bool).set t (.bool (decide ((s : Int) ∈ d.ends) != decide ((t : Int) ∈ d.ends))) = (rowA d D s (t + 1)).map Value.bool := by
    rw [← rowA_set htl, List.map_set]
  rw [hrs] at k7
  have k17 := k16.grown g7.by_ (by
    have := k16.ne hA.cu (by decide)
    simpa using this)
  replace hA := hA.cell k7 g7
  have b47 : Below w.heap.size w w7 := hA.bel
  simp (disch := first | with_reducible assumption | omega) only [push_cast, x_blk, x_cd, ↓reduceIte, Nat.reduceEqDiff, List.map_cons, List.map_nil, Int.reduceEq, Int.lt_irrefl, fr]
  exact hJ2 _ _ ⟨t + 1, by omega, (by simp only [push_cast, ↓reduceIte, Nat.reduceEqDiff, true_and, and_true, and_self, eq_self, fr]), k17, hA⟩ (by simp only [push_cast, ↓reduceIte, Nat.reduceEqDiff, intOf, fr]; omega)

structure LV (wB : World) (go gS E : Nat) (fs : List Nat) (ao : List Arr) (en : List Int) (A Aa Ae : Option Addr) (c ca ce : Nat) (w' : World) : Prop where
  mac : Blk w' go 25 (MV.cells ⟨some ⟨gS, 0, none⟩, 1, Aa, ca, Ae, ce⟩ ⟨0, E, [0], ao, en⟩)
  s0 : OwnI wB.heap.size 3 w' (some ⟨gS, 0, none⟩) 1 [0]
  fo : OwnI wB.heap.size 3 w' A c (ni fs)
  eo : OwnI wB.heap.size 3 w' Ae ce en
  ar : OwnR arrCells wB.heap.size 85 3 w' Aa ca ao
  sf : Far (some ⟨gS, 0, none⟩) A
  se : Far (some ⟨gS, 0, none⟩) Ae
  fe : Far A Ae
  bel : Below wB.heap.size wB w'
  go0 : wB.heap.size ≤ go
section
variable {wB : World} {go gS E : Nat} {fs : List Nat} {ao : List Arr} {en : List Int} {A Aa Ae A' Aa' Ae' : Option Addr} {c ca ce c' ca' ce' : Nat} {w w1 w2 : World}
theorem LV.below (h : LV wB go gS E fs ao en A Aa Ae c ca ce w) (b : Below w.heap.size w w1) : LV wB go gS E fs ao en A Aa Ae c ca ce w1 :=
  ⟨h.mac.below b h.mac.lt, h.s0.below b (Nat.le_refl _), h.fo.below b (Nat.le_refl _), h.eo.below b (Nat.le_refl _), h.ar.below b (Nat.le_refl _), h.sf, h.se, h.fe, h.bel.trans (b.mono h.bel.size), h.go0⟩
theorem LV.arr (h : LV wB go gS E fs ao en A Aa Ae c ca ce w) {ao' : List Arr} (ho : OwnR arrCells wB.heap.size 85 3 w1 Aa' ca' ao') (g : Grew w w1 Aa) (hb1 : Blk w1 go 25 (MV.cells ⟨some ⟨gS, 0, none⟩, 1, Aa, ca, Ae, ce⟩ ⟨0, E, [0], ao, en⟩))
    (hk : Blk w2 go 25 (MV.cells ⟨some ⟨gS, 0, none⟩, 1, Aa', ca', Ae, ce⟩ ⟨0, E, [0], ao', en⟩)) (g2 : Grew w1 w2 (some ⟨go, 0, none⟩)) : LV wB go gS E fs ao' en A Aa' Ae c ca' ce w2 := by
  have o1 := h.s0.grew g (Own.apart h.s0 h.ar (by decide))
  have o2 := h.fo.grew g (Own.apart h.fo h.ar (by decide))
  have o3 := h.eo.grew g (Own.apart h.eo h.ar (by decide))
  have bl := g.below h.bel h.bel.size h.ar.geB
  exact ⟨hk, o1.grew g2 (.inr (o1.ne_blk hb1 (by decide))), o2.grew g2 (.inr (o2.ne_blk hb1 (by decide))), o3.grew g2 (.inr (o3.ne_blk hb1 (by decide))), ho.grew g2 (.inr (ho.ne_blk hb1 (by decide))), h.sf, h.se, h.fe, g2.below bl bl.size (by intro a ha; injection ha with ha; subst ha; exact h.go0), h.go0⟩
theorem LV.ends (h : LV wB go gS E fs ao en A Aa Ae c ca ce w) {en' : List Int} (ho : OwnI wB.heap.size 3 w1 Ae' ce' en') (g : Grew w w1 Ae) (hA : Ae'.map (·.block) = Ae.map (·.block) ∨ ∃ g, Ae'.map (·.block) = some g ∧ w.heap.size ≤ g) (hb1 : Blk w1 go 25 (MV.cells ⟨some ⟨gS, 0, none⟩, 1, Aa, ca, Ae, ce⟩ ⟨0, E, [0], ao, en⟩))
    (hk : Blk w2 go 25 (MV.cells ⟨some ⟨gS, 0, none⟩, 1, Aa, ca, Ae', ce'⟩ ⟨0, E, [0], ao, en'⟩)) (g2 : Grew w1 w2 (some ⟨go, 0, none⟩)) : LV wB go gS E fs ao en' A Aa Ae' c ca ce' w2 := by
  have o1 := h.s0.grew g h.se
  have o2 := h.fo.grew g h.fe
  have o3 := h.ar.grew g (Own.apart h.ar h.eo (by decide))
  have bl := g.below h.bel h.bel.size h.eo.geB
  exact ⟨hk, o1.grew g2 (.inr (o1.ne_blk hb1 (by decide))), o2.grew g2 (.inr (o2.ne_blk hb1 (by decide))), ho.grew g2 (.inr (ho.ne_blk hb1 (by decide))), o3.grew g2 (.inr (o3.ne_blk hb1 (by decide))), h.sf, Own.far h.s0 h.eo h.se hA, Own.far h.fo h.eo h.fe hA, g2.below bl bl.size (by intro a ha; injection ha with ha; subst ha; exact h.go0), h.go0⟩
theorem LV.new (h : LV wB go gS E fs ao en A Aa Ae c ca ce w) {t : Nat} (ho : OwnI wB.heap.size 3 w2 A' c' (ni (fs ++ [t]))) (g2 : Grew w w2 A) (hA : A'.map (·.block) = A.map (·.block) ∨ ∃ g, A'.map (·.block) = some g ∧ w.heap.size ≤ g) : LV wB go gS E (fs ++ [t]) ao en A' Aa Ae c' ca ce w2 :=
  ⟨h.mac.grown g2.by_ (fun e => h.fo.ne_blk h.mac (by decide) e.symm), h.s0.grew g2 h.sf, ho, h.eo.grew g2 h.fe.symm, h.ar.grew g2 (Own.apart h.ar h.fo (by decide)), Own.far h.s0 h.fo h.sf hA, h.se, far_symm (Own.far h.eo h.fo h.fe.symm hA), g2.below h.bel h.bel.size h.fo.geB, h.go0⟩
end
end Go.Proofs.YtcjedgiglimipaaDoor
