/-
  Chapter 5: the program's wide: where each state leads to while nothing is seen: rows of sets in one block, each set changed in place: by its contract; and what is seen of a word.
-/
import Derived.Test.YtcjedgiglimipaaDoorZHideR
import Derived.Test.YtcjedgiglimipaaDoorZJoin
import Derived.Test.YtcjedgiglimipaaDoorZWar
namespace Go.Proofs.YtcjedgiglimipaaDoor
set_option linter.unusedSimpArgs false
set_option linter.unusedVariables false
set_option linter.unusedSectionVars false
open Go.RowKit

section
variable {P : Program} {K : Fr → World → Prop} {f : Fr} {d : Option Nat} {u w w' : World} {g : Nat} {t ty e bytes : Nat}
theorem e_makeSlice' (t : TypeId) (l c : Operand) : EffX P K (.makeSlice t l c) ty f d w = Eff1 P K (Instr.makeSlice t (ev f l) (ev f c)) f d w := by simp [EffX, valOf]
theorem made_same (z : Value) (n : Nat) : (madeCells #[z, z, z, z] n).toList = List.replicate n z := by
  apply List.ext_getElem?
  intro j
  by_cases hj : j < n
  · have h4 : j % 4 < 4 := Nat.mod_lt _ (by decide)
    have : j % 4 = 0 ∨ j % 4 = 1 ∨ j % 4 = 2 ∨ j % 4 = 3 := by omega
    rcases this with h | h | h | h <;> simp [madeCells, hj, h]
  · simp [madeCells, hj]
theorem sets_nil (n : Nat) : (List.replicate n ([] : List Int)).flatMap setC = List.replicate (n * 4) (.int .u64 0) := by
  induction n with
  | zero => rfl
  | succ n ih =>
    rw [List.replicate_succ, List.flatMap_cons, ih, show (n + 1) * 4 = 4 + n * 4 by omega, ← List.replicate_append_replicate]
    rfl
theorem mk_sets (hT : SlT P t e 4 bytes) (hb : bytes ≤ 1000) (hz : (P.info? e).bind (·.zero) = some (.agg #[.int .u64 0, .int .u64 0, .int .u64 0, .int .u64 0])) (n : Nat) (hn : n ≤ 256)
    (hk : ∀ w', Blk w' w.heap.size e ((List.replicate n ([] : List Int)).flatMap setC) → Below w.heap.size w w' → K (updO f d (.slice (some ⟨w.heap.size, 0, none⟩) n n)) w') :
    Eff1 P K (Instr.makeSlice t (.int .i64 (n : Int)) (.int .i64 (n : Int))) f d w := by
  obtain ⟨i, z, hi, hz', hsz, hby, hc⟩ := hT.get
  have hz0 : z = .agg #[.int .u64 0, .int .u64 0, .int .u64 0, .int .u64 0] := by rw [hi] at hz; simp [hz'] at hz; exact hz
  subst hz0
  obtain ⟨w', hr, ho, hg⟩ := run_makeSlice_full (P := P) (w := w) w.heap.size t e i _ 4 hT.under hi hz' hsz .i64 .i64 n (by omega) (by
    rw [hby]
    have : bytes * n ≤ 1000 * 256 := Nat.mul_le_mul hb hn
    omega) (by unfold maxLen; omega) (Nat.le_refl _)
  rw [eff1_of hr]
  refine hk w' ?_ ?_
  · have hl : (madeCells (Value.agg #[.int .u64 0, .int .u64 0, .int .u64 0, .int .u64 0]).cells (n * 4)).toList = (List.replicate n ([] : List Int)).flatMap setC := by
      rw [sets_nil]
      exact made_same _ _
    rw [hl] at ho
    rcases ho.2 with ⟨h1, _⟩ | ⟨g, cap, cur, h1, _, h3, _, _, h6, h7⟩
    · cases h1
    · injection h1 with h8 h9 h10
      injection h8 with h8
      injection h8 with h8
      subst h8 h10
      rw [← Array.length_toList] at h6
      rw [← h6, List.take_length] at h7
      show w'.heap[w.heap.size]? = _
      rw [h3, ← h7]
  · exact (Below.refl _ _).grown hg (Nat.le_refl _) (fun k hk => by cases hk)
end
theorem sets_len (L : List (List Int)) : (L.flatMap setC).length = L.length * 4 := by
  induction L with
  | nil => rfl
  | cons x L ih => rw [List.flatMap_cons, List.length_append, ih, setCells_4, List.length_cons]; omega
theorem sets_at {L : List (List Int)} {i : Nat} {l : List Int} (h : L[i]? = some l) : L.flatMap setC = (L.take i).flatMap setC ++ (setC l ++ (L.drop (i + 1)).flatMap setC) ∧ ((L.take i).flatMap setC).length = i * 4 := by
  obtain ⟨hi, hl⟩ := List.getElem?_eq_some_iff.1 h
  constructor
  · rw [← List.flatMap_cons, ← hl, ← List.drop_eq_getElem_cons hi, ← List.flatMap_append, List.take_append_drop]
  · rw [sets_len, List.length_take]; congr 1; omega
theorem sets_set {L : List (List Int)} {i : Nat} {l : List Int} (h : L[i]? = some l) (l' : List Int) : (L.set i l').flatMap setC = (L.take i).flatMap setC ++ (setC l' ++ (L.drop (i + 1)).flatMap setC) := by
  obtain ⟨hi, hl⟩ := List.getElem?_eq_some_iff.1 h
  rw [List.set_eq_take_append_cons_drop, if_pos hi, List.flatMap_append, List.flatMap_cons]

section
variable {P : Program} {K : Fr → World → Prop} {f : Fr} {d : Option Nat} {u w w' : World} {g : Nat} {t ty : Nat} {ws : List Nat} {L1 L2 : List Value}
theorem Blk.wordAt (h : Blk u g t (L1 ++ (setCells ws ++ L2))) (hw : Words ws) (ht : tyAgg P ty = some false) (j : Nat) (hj : j < 4) {o : Nat} (ho : L1.length = o) {x : Nat} (hx : ws.getD j 0 = x) :
    Val1 P K (Instr.loadAt ty (.pointer (some ⟨g, o + j, none⟩))) u f d w = K (updO f d (.int .u64 x)) w := by
  subst hx ho
  have h4 : (setCells ws).length = 4 := by rw [setCells_len, hw.1]
  have hl : L1.length + j < (L1 ++ (setCells ws ++ L2)).length := by rw [List.length_append, List.length_append, h4]; omega
  have := h.ld (P := P) (K := K) (f := f) (d := d) (w := w) ht (L1.length + j) hl
  have e : (L1 ++ (setCells ws ++ L2)).getD (L1.length + j) undef = .int .u64 ((ws.getD j 0 : Nat) : Int) := by
    rw [List.getD_eq_getElem?_getD, List.getElem?_append_right (by omega), show L1.length + j - L1.length = j by omega, List.getElem?_append_left (by omega), ← List.getD_eq_getElem?_getD]
    exact getD_map _ _ _ _ _ (by rw [hw.1]; exact hj)
  rw [e] at this
  exact this
theorem set_amid {j : Nat} {v : Value} (h4 : j < (setCells ws).length) {o : Nat} (ho : L1.length = o) : (L1 ++ (setCells ws ++ L2)).set (o + j) v = L1 ++ ((setCells ws).set j v ++ L2) := by
  subst ho
  rw [List.set_append_right _ _ (by omega), show L1.length + j - L1.length = j by omega, List.set_append_left _ _ h4]
end
theorem set_AddAt {ws : List Nat} (hw : Words ws) (n : Nat) (hn : n < 256) {w : World} {g o t : Nat} {L1 L2 : List Value} (ho : L1.length = o) (hk : Blk w g t (L1 ++ (setCells ws ++ L2))) :
    Cal Tryd.prog 95 [.pointer (some ⟨g, o, none⟩), .int .i64 n] w fun v w' => v = .tuple #[] ∧ Blk w' g t (L1 ++ (setCells (setAdd ws n) ++ L2)) ∧ Grew w w' (some ⟨g, 0, none⟩) ∧ w'.heap.size = w.heap.size := by
  refine cal_machine_Set_Add (by simp) 100000 fun Q hQ => ?_
  have hd : n / 64 < 4 := by omega
  have hm : n % 64 < 64 := Nat.mod_lt _ (by decide)
  have hx := hw.2 (n / 64)
  have hy : 2 ^ (n % 64) < 2 ^ 64 := Nat.pow_lt_pow_right (by decide) hm
  have e : (setCells ws).set (n / 64) (.int .u64 ((ws.getD (n / 64) 0 ||| 2 ^ (n % 64) : Nat) : Int)) = setCells (setAdd ws n) := by simp [setCells, setAdd, List.map_set]
  generalize hq : n / 64 = q at *
  generalize hr : n % 64 = s at *
  generalize hv : ws.getD q 0 = v at *
  generalize hp : 2 ^ s = y at *
  generalize hz : v ||| y = z at *
  have hk2 := hk.drew
  have h4 : q < (setCells ws).length := by rw [setCells_len, hw.1]; exact hd
  simp (disch := first | with_reducible assumption | omega) only [push_cast, x_blk, x_cd, ↓reduceIte, Nat.reduceEqDiff, List.map_cons, List.map_nil, Int.reduceEq, Int.lt_irrefl, F_machine_Set_Add, bin_quo64' hq (by omega), bin_rem64' hr, bin_shl1' hp hm, bin_or' hz hx hy, Int.natCast_nonneg, hk2.wordAt hw ty_ag_74 q hd ho hv]
  refine sto_cell hk2 ty_sz_u64 (o + q) (by rw [List.length_append, List.length_append]; omega) _ _ ?_
  intro w2 k2 g2 z2
  simp (disch := first | with_reducible assumption | omega) only [push_cast, x_blk, x_cd, ↓reduceIte, Nat.reduceEqDiff, List.map_cons, List.map_nil, Int.reduceEq, Int.lt_irrefl]
  rw [set_amid h4 ho, e] at k2
  exact fin_0 (hQ _ _ ⟨rfl, k2, ⟨⟨g2.by_.os, g2.by_.tape, g2.by_.output, g2.by_.size, g2.by_.block⟩⟩, z2⟩)
theorem set_JoinAt {l l2 : List Int} {w : World} {g o t : Nat} {L1 L2 : List Value} (ho : L1.length = o) (hk : Blk w g t (L1 ++ (setC l ++ L2))) :
    Cal Tryd.prog 96 [.pointer (some ⟨g, o, none⟩), setV l2] w fun v w' => v = .tuple #[] ∧ Blk w' g t (L1 ++ (setC (l ++ l2) ++ L2)) ∧ Grew w w' (some ⟨g, 0, none⟩) := by
  refine cal_machine_Set_Join (by simp) 100000 fun Q hQ => ?_
  have hgl := hk.lt
  simp (disch := first | with_reducible assumption | omega) only [push_cast, x_blk, x_cd, ↓reduceIte, Nat.reduceEqDiff, List.map_cons, List.map_nil, Int.reduceEq, Int.lt_irrefl, F_machine_Set_Join]
  refine blk_of (box_agg _ (setCells (wordsOf l2))) ?_
  intro w1 k1 b1 z1
  have k0 := hk.below b1 hk.lt
  simp (disch := first | with_reducible assumption | omega) only [push_cast, x_blk, x_cd, ↓reduceIte, Nat.reduceEqDiff, List.map_cons, List.map_nil, Int.reduceEq, Int.lt_irrefl]
  refine loop_rule (fun f w' => ∃ (i : Nat) (ws : List Nat), i ≤ 4 ∧ (f 0 = .pointer (some ⟨g, o, none⟩) ∧ f 3 = .pointer (some ⟨w.heap.size, 0, none⟩) ∧ f 5 = .int .i64 i) ∧ OrAt (wordsOf l) (wordsOf l2) i ws ∧
      Blk w' g t (L1 ++ (setCells ws ++ L2)) ∧ Blk w' w.heap.size 76 (setCells (wordsOf l2)) ∧ Grew w w' (some ⟨g, 0, none⟩))
    (fun f _ => 4 - (intOf (f 5)).toNat) ⟨0, wordsOf l, by omega, ⟨rfl, rfl, rfl⟩, OrAt.start (wordsOf_words l).1 _, k0, k1, Grew.of_below b1 _⟩ ?_
  rintro f w2 ⟨i, ws, hi, fr, hw, kg, kb, gr⟩ J hJ
  by_cases hlt : (i : Int) < 4
  case neg =>
    have hie : i = 4 := by omega
    have hd := (hie ▸ hw : OrAt _ _ 4 ws).done
    subst hd
    simp (disch := first | with_reducible assumption | omega) only [push_cast, x_blk, x_cd, ↓reduceIte, Nat.reduceEqDiff, List.map_cons, List.map_nil, Int.reduceEq, Int.lt_irrefl, L_machine_Set_Join_0, fr, hlt]
    exact fin_0 (hQ _ _ ⟨rfl, kg, gr⟩)
  have hi4 : i < 4 := by omega
  have kgd := kg.drew
  have kbd := kb.drew
  have hx : ws.getD i 0 < 2 ^ 64 := hw.words.2 i
  have hy := (wordsOf_words l2).2 i
  have hstp := hw.step hi4
  have hww := hw.words
  have h4 : i < (setCells ws).length := by rw [setCells_len, hw.len]; exact hi4
  generalize hu : ws.getD i 0 = x at *
  generalize hv : (wordsOf l2).getD i 0 = y at *
  generalize hz : x ||| y = z at *
  simp (disch := first | with_reducible assumption | omega) only [push_cast, x_blk, x_cd, ↓reduceIte, Nat.reduceEqDiff, List.map_cons, List.map_nil, Int.reduceEq, Int.lt_irrefl, L_machine_Set_Join_0, fr, hlt, Int.natCast_nonneg, bin_or' hz hx hy, kgd.wordAt hww ty_ag_74 i hi4 ho hu, kbd.word' (wordsOf_words l2) ty_ag_74 i hi4 hv]
  refine sto_cell kgd (by kernel_rfl) (o + i) (by rw [List.length_append, List.length_append]; omega) .u64 (z : Int) ?_
  intro w5 k5 g5 z5
  rw [set_amid h4 ho, cells_set] at k5
  simp (disch := first | with_reducible assumption | omega) only [push_cast, x_blk, x_cd, ↓reduceIte, Nat.reduceEqDiff, List.map_cons, List.map_nil, Int.reduceEq, Int.lt_irrefl, fr]
  exact hJ _ _ ⟨i + 1, _, by omega, (by simp only [push_cast, ↓reduceIte, Nat.reduceEqDiff, true_and, and_true, and_self, eq_self, fr]), hstp, k5, kbd.grown g5.by_ (by simp; omega), (gr.trans' (Grew.of_below ((Same.refl w2).drew.below _) _)).trans' g5⟩ (by simp only [push_cast, ↓reduceIte, Nat.reduceEqDiff, intOf, fr]; omega)
theorem set_AddIn {L : List (List Int)} {i : Nat} {l : List Int} (hL : L[i]? = some l) (x : Int) (h0 : 0 ≤ x) (h1 : x < 256) {w : World} {g t : Nat} (hk : Blk w g t (L.flatMap setC)) :
    Cal Tryd.prog 95 [.pointer (some ⟨g, i * 4, none⟩), .int .i64 x] w fun v w' => v = .tuple #[] ∧ Blk w' g t ((L.set i (l ++ [x])).flatMap setC) ∧ Grew w w' (some ⟨g, 0, none⟩) ∧ w'.heap.size = w.heap.size := by
  obtain ⟨n, rfl⟩ : ∃ n : Nat, x = n := ⟨x.toNat, by omega⟩
  obtain ⟨e1, e2⟩ := sets_at hL
  rw [e1] at hk
  have := set_AddAt (wordsOf_words l) n (by omega) e2 hk
  rw [sets_set hL]
  rwa [wordsOf_snoc l (by omega)] at this
theorem set_JoinIn {L : List (List Int)} {i : Nat} {l l2 : List Int} (hL : L[i]? = some l) {w : World} {g t : Nat} (hk : Blk w g t (L.flatMap setC)) :
    Cal Tryd.prog 96 [.pointer (some ⟨g, i * 4, none⟩), setV l2] w fun v w' => v = .tuple #[] ∧ Blk w' g t ((L.set i (l ++ l2)).flatMap setC) ∧ Grew w w' (some ⟨g, 0, none⟩) := by
  obtain ⟨e1, e2⟩ := sets_at hL
  rw [e1] at hk
  rw [sets_set hL]
  exact set_JoinAt e2 hk

def idL (n k : Nat) : List (List Int) := (List.range n).map fun s => if s < k then [(s : Int)] else []
theorem idL_len (n k : Nat) : (idL n k).length = n := by simp [idL]
theorem idL_at {n k s : Nat} (h : s < n) : (idL n k)[s]? = some (if s < k then [(s : Int)] else []) := by simp [idL, h]
theorem idL_zero (n : Nat) : idL n 0 = List.replicate n [] := by
  apply List.ext_getElem?
  intro i
  by_cases h : i < n
  · rw [idL_at h, if_neg (by omega), List.getElem?_replicate, if_pos h]
  · rw [List.getElem?_eq_none (by rw [idL_len]; omega), List.getElem?_eq_none (by simp; omega)]
theorem idL_succ {n k : Nat} (h : k < n) : (idL n k).set k ([] ++ [(k : Int)]) = idL n (k + 1) := by
  apply List.ext_getElem?
  intro i
  rw [List.getElem?_set]
  by_cases hi : i < n
  · rw [idL_at hi, idL_at hi]
    by_cases e : k = i
    · subst e
      rw [if_pos rfl, if_pos (by rw [idL_len]; exact h), if_pos (by omega)]; rfl
    · rw [if_neg e]
      by_cases c : i < k
      · rw [if_pos c, if_pos (by omega)]
      · rw [if_neg c, if_neg (by omega)]
  · rw [if_neg (by omega), List.getElem?_eq_none (by rw [idL_len]; omega), List.getElem?_eq_none (by rw [idL_len]; omega)]
def edL1 (seen : List Int) (L : List (List Int)) (a : Arr) : List (List Int) := if a.evt ∈ seen then L else L.set a.frm.toNat (L.getD a.frm.toNat [] ++ [a.to_])
def edL (seen : List Int) (ar : List Arr) (L : List (List Int)) : List (List Int) := ar.foldl (edL1 seen) L
theorem edL1_len (seen : List Int) (L : List (List Int)) (a : Arr) : (edL1 seen L a).length = L.length := by unfold edL1; split <;> simp
theorem edL_len (seen : List Int) : ∀ (ar : List Arr) (L : List (List Int)), (edL seen ar L).length = L.length
  | [], _ => rfl
  | a :: ar, L => (edL_len seen ar _).trans (edL1_len seen L a)
theorem edL_snoc (seen : List Int) (ar : List Arr) (a : Arr) (L : List (List Int)) : edL seen (ar ++ [a]) L = edL1 seen (edL seen ar L) a := by unfold edL; rw [List.foldl_append]; rfl
theorem mw_edL1 {seen : List Int} {L : List (List Int)} {a : Arr} (h0 : 0 ≤ a.frm) (h1 : a.frm < L.length) (s : Nat) (t : Int) : Mw (edL1 seen L a) s t ↔ (Mw L s t ∨ (a.evt ∉ seen ∧ a.frm = s ∧ a.to_ = t)) := by
  unfold edL1
  by_cases h : a.evt ∈ seen
  · rw [if_pos h]
    exact ⟨.inl, fun hh => hh.resolve_right fun h2 => h2.1 h⟩
  · rw [if_neg h, mw_set (by omega)]
    by_cases e : s = a.frm.toNat
    · subst e
      rw [if_pos rfl, List.mem_append, List.mem_singleton]
      exact ⟨fun hh => hh.imp id fun h2 => ⟨h, by omega, h2.symm⟩, fun hh => hh.imp id fun h2 => h2.2.2.symm⟩
    · rw [if_neg e]
      exact ⟨.inl, fun hh => hh.resolve_right fun h2 => e (by omega)⟩
theorem mw_edL {seen : List Int} : ∀ (ar : List Arr) {L : List (List Int)}, (∀ a ∈ ar, 0 ≤ a.frm ∧ a.frm < L.length) → ∀ (s : Nat) (t : Int), Mw (edL seen ar L) s t ↔ (Mw L s t ∨ ∃ a ∈ ar, a.evt ∉ seen ∧ a.frm = s ∧ a.to_ = t)
  | [], L, _, s, t => by simp [edL]
  | a :: ar, L, h, s, t => by
    show Mw (edL seen ar (edL1 seen L a)) s t ↔ _
    have ha := h a (List.mem_cons_self ..)
    rw [mw_edL ar (fun b hb => by rw [edL1_len]; exact h b (List.mem_cons_of_mem _ hb)), mw_edL1 ha.1 ha.2, or_assoc]
    exact or_congr Iff.rfl ⟨fun hh => hh.elim (fun h => ⟨a, List.mem_cons_self .., h⟩) fun ⟨b, hb, hc⟩ => ⟨b, List.mem_cons_of_mem _ hb, hc⟩, fun ⟨b, hb, hc⟩ => (List.mem_cons.1 hb).elim (fun e => .inl (e ▸ hc)) fun hb => .inr ⟨b, hb, hc⟩⟩
/-- All of it. -/
noncomputable def wideR (m : Mach) (seen : List Int) : List (List Int) := war (edL seen m.arrows (idL m.states.toNat m.states.toNat)) m.states.toNat m.states.toNat
theorem wideR_len (m : Mach) (seen : List Int) : (wideR m seen).length = m.states.toNat := by unfold wideR; rw [war_len, edL_len, idL_len]
theorem mem_wideR {m : Mach} (hm : m.May) {seen : List Int} {s : Nat} (hs : (s : Int) < m.states) {t : Int} : t ∈ (wideR m seen).getD s [] ↔ t ∈ wideL m seen [(s : Int)] := by
  have hn := hm.1
  have hl : (edL seen m.arrows (idL m.states.toNat m.states.toNat)).length = m.states.toNat := by rw [edL_len, idL_len]
  have hE : ∀ (s : Nat) (t : Int), Mw (edL seen m.arrows (idL m.states.toNat m.states.toNat)) s t ↔ ((s < m.states.toNat ∧ t = s) ∨ ∃ a ∈ m.arrows, a.evt ∉ seen ∧ a.frm = s ∧ a.to_ = t) := fun s t => by
    rw [mw_edL m.arrows (fun a ha => by rw [idL_len]; have := (May.arr hm ha).1; omega)]
    refine or_congr ?_ Iff.rfl
    unfold Mw
    rw [List.getD_eq_getElem?_getD]
    by_cases c : s < m.states.toNat
    · rw [idL_at c, if_pos c]; simp [c]
    · rw [List.getElem?_eq_none (by rw [idL_len]; omega)]; simp [c]
  have ha : ∀ {a : Arr}, a ∈ m.arrows → a.evt ∉ seen → (a.frm, a.to_) ∈ unE m seen := fun {a} ha hn => mem_eds.2 ⟨a, ha, by simp [unA, hn], rfl⟩
  have key := war_clos (L := edL seen m.arrows (idL m.states.toNat m.states.toNat)) (E := unE m seen)
    (fun s t h => by
      rw [hl]
      rcases (hE s t).1 h with ⟨h1, rfl⟩ | ⟨a, h1, _, h3, rfl⟩
      · omega
      · have := (May.arr hm h1).2.1; omega)
    (fun s t h => by
      rcases (hE s t).1 h with ⟨h1, rfl⟩ | ⟨a, h1, h2, h3, rfl⟩
      · exact .base _ (by simp)
      · exact .step _ (ha h1 h2) (.base _ (by simp [h3])))
    (fun s h => (hE s s).2 (.inl ⟨by rw [hl] at h; exact h, rfl⟩))
    (fun e he => by
      obtain ⟨a, h1, h2, rfl⟩ := mem_eds.1 he
      have h4 := (May.arr hm h1).1
      refine ⟨a.frm.toNat, by show a.frm = _; omega, by rw [hl]; omega, (hE _ _).2 (.inr ⟨a, h1, by simpa [unA] using h2, by omega, rfl⟩)⟩)
    s (by rw [hl]; omega) t
  rw [hl] at key
  rw [mem_wideL hm (fun x hx => by rw [List.mem_singleton.1 hx]; omega)]
  exact key

theorem warB_succ (L : List (List Int)) (b k : Nat) : warB L b (k + 1) = warS (warB L b k) b k := rfl
theorem mw_iff {L : List (List Int)} {s : Nat} {l : List Int} (h : L[s]? = some l) (t : Int) : Mw L s t ↔ t ∈ l := by unfold Mw; rw [List.getD_eq_getElem?_getD, h]; rfl
theorem sets_blk {w : World} {g : Nat} {L : List (List Int)} {t : Nat} (h : Blk w g t (L.flatMap setC)) {ok : Nat → Prop} (hg : ok g) : Recs setC 4 ok w (some ⟨g, 0, none⟩) L := by
  refine ⟨fun _ => rfl, fun _ => hg, fun i a hi j v hv => ?_⟩
  obtain ⟨e1, e2⟩ := sets_at hi
  have hj : j < (setC a).length := (List.getElem?_eq_some_iff.1 hv).1
  rw [eA_zero, h.cell, e1, List.getElem?_append_right (by omega), show i * 4 + j - ((L.take i).flatMap setC).length = j by omega, List.getElem?_append_left hj, hv]
theorem hide_wide {w : World} {a : MV} {m : Mach} (h : IsM (· < w.heap.size) w a m) (hm : m.May) {A : Option Addr} {c : Nat} {seen : List Int} (hs : Ints (· < w.heap.size) w A seen) (ns : seen.length ≤ 17592186043904) :
    Cal Tryd.prog 50 [a.val m, .slice A seen.length c] w fun v w' => ∃ g : Nat, v = .slice (some ⟨g, 0, none⟩) m.states.toNat m.states.toNat ∧ w.heap.size ≤ g ∧ Blk w' g 76 ((wideR m seen).flatMap setC) ∧ Below w.heap.size w w' := by
  refine cal_hide_wide (by simp) 100000 fun Q hQ => ?_
  simp (disch := first | with_reducible assumption | omega) only [push_cast, x_blk, x_cd, ↓reduceIte, Nat.reduceEqDiff, List.map_cons, List.map_nil, Int.reduceEq, Int.lt_irrefl, F_hide_wide]
  refine blk_of (box_agg _ (a.cells m)) ?_
  intro w1 k1 b1 z1
  have hn0 := hm.1
  have hn1 := hm.2.1
  have nA := hm.2.2.2.2.1
  obtain ⟨n, hn⟩ : ∃ n : Nat, m.states = n := ⟨m.states.toNat, by omega⟩
  have hnt : m.states.toNat = n := by omega
  simp (disch := first | with_reducible assumption | omega) only [push_cast, x_blk, x_cd, ↓reduceIte, Nat.reduceEqDiff, List.map_cons, List.map_nil, Int.reduceEq, Int.lt_irrefl, k1.m0 ty_ag_3, hn, e_makeSlice']
  refine mk_sets slT_72 (by decide) (by kernel_rfl) n (by omega) ?_
  intro w2 k2 b2
  replace k1 := k1.below b2 k1.lt
  have z2 := b2.size
  have g2 := k2.lt
  have k1s := k1
  have bbs := b1.trans (b2.mono b1.size)
  rw [← idL_zero] at k2
  generalize hgA : w1.heap.size = gA at *
  have hbw : w.heap.size < gA := by omega
  have hsm : (some (⟨gA, 0, none⟩ : Addr)).isSome = true := rfl
  simp (disch := first | with_reducible assumption | omega) only [push_cast, x_blk, x_cd, ↓reduceIte, Nat.reduceEqDiff, List.map_cons, List.map_nil, Int.reduceEq, Int.lt_irrefl, k1.m0 ty_ag_3, hn]
  have hGr : ∀ {w' w'' : World}, Grew w' w'' (some ⟨gA, 0, none⟩) → Below gA w2 w' → Below gA w2 w'' := fun g b => g.below b (by have := b.size; omega) (by intro a ha; injection ha with ha; subst ha; exact Nat.le_refl _)
  refine loop_rule (fun f w' => ∃ k : Nat, k ≤ n ∧ (f 1 = .slice A seen.length c ∧ f 2 = .pointer (some ⟨w.heap.size, 0, none⟩) ∧ f 5 = .slice (some ⟨gA, 0, none⟩) n n ∧ f 15 = .int .i64 n ∧ f 16 = .int .i64 k) ∧
      Blk w' gA 76 ((idL n k).flatMap setC) ∧ Below gA w2 w')
    (fun f _ => n - (intOf (f 16)).toNat) ⟨0, by omega, ⟨rfl, rfl, rfl, rfl, rfl⟩, k2, Below.refl _ _⟩ ?_
  rintro f w3 ⟨k, hk, fr, kA, b3⟩ J hJ
  by_cases hlt : (k : Int) < (n : Int)
  · have hkn : k < n := by omega
    have hat := idL_at hkn (k := k)
    rw [if_neg (by omega)] at hat
    simp (disch := first | with_reducible assumption | omega) only [push_cast, x_blk, x_cd, ↓reduceIte, Nat.reduceEqDiff, List.map_cons, List.map_nil, Int.reduceEq, Int.lt_irrefl, L_hide_wide_3, fr, hlt, hkn, Int.natCast_nonneg, hsm, eA_zero]
    refine call_of (set_AddIn hat (k : Int) (by omega) (by omega) kA) ?_
    rintro v w4 ⟨rfl, k4, g4, z4⟩
    rw [idL_succ hkn] at k4
    simp (disch := first | with_reducible assumption | omega) only [push_cast, x_blk, x_cd, ↓reduceIte, Nat.reduceEqDiff, List.map_cons, List.map_nil, Int.reduceEq, Int.lt_irrefl, fr]
    exact hJ _ _ ⟨k + 1, by omega, (by simp only [push_cast, ↓reduceIte, Nat.reduceEqDiff, true_and, and_true, and_self, eq_self, fr]), k4, hGr g4 b3⟩ (by simp only [push_cast, ↓reduceIte, Nat.reduceEqDiff, intOf, fr]; omega)
  obtain rfl : k = n := by omega
  clear k1 k2 hJ
  have k1 := k1s.below b3 hbw
  simp (disch := first | with_reducible assumption | omega) only [push_cast, x_blk, x_cd, ↓reduceIte, Nat.reduceEqDiff, List.map_cons, List.map_nil, Int.reduceEq, Int.lt_irrefl, L_hide_wide_3, fr, hlt, Int.lt_irrefl, k1.m3 ty_ag_23]
  clear k1
  refine loop_rule (fun f w' => ∃ i : Nat, i ≤ m.arrows.length ∧ (f 1 = .slice A seen.length c ∧ f 2 = .pointer (some ⟨w.heap.size, 0, none⟩) ∧ f 5 = .slice (some ⟨gA, 0, none⟩) k k ∧ f 26 = .slice a.Aa m.arrows.length a.ca ∧ f 27 = .int .i64 m.arrows.length ∧ f 28 = .int .i64 i) ∧
      Blk w' gA 76 ((edL seen (m.arrows.take i) (idL k k)).flatMap setC) ∧ Below gA w2 w')
    (fun f _ => m.arrows.length - (intOf (f 28)).toNat) ⟨0, by omega, (by simp only [push_cast, ↓reduceIte, Nat.reduceEqDiff, true_and, and_true, and_self, eq_self, fr]), kA, b3⟩ ?_
  clear kA b3 fr hlt
  rintro f w3 ⟨i, hi, fr, kA, b3⟩ J hJ
  have z3 := b3.size
  by_cases hlt : (i : Int) < (m.arrows.length : Int)
  · have hin : i < m.arrows.length := by omega
    have hAr := (h.up (bbs.trans (b3.mono (by omega)))).arrows
    have hAs := hAr.isSome (by omega)
    have hat := May.arr hm (getD_mem m.arrows default i hin)
    have hsn := edL_snoc seen (m.arrows.take i) (m.arrows.getD i default) (idL k k)
    rw [← take_snoc _ _ _ hin] at hsn
    have hll : (edL seen (m.arrows.take i) (idL k k)).length = k := by rw [edL_len, idL_len]
    simp (disch := first | with_reducible assumption | omega) only [push_cast, x_blk, x_cd, ↓reduceIte, Nat.reduceEqDiff, List.map_cons, List.map_nil, Int.reduceEq, Int.lt_irrefl, L_hide_wide_2, fr, hlt, hin, hAs, Int.natCast_nonneg, hAr.ldA ty_ag_85 ty_sz_85 i hin]
    refine blk_of al_85 ?_
    intro w13 k13 b13 z13
    simp (disch := first | with_reducible assumption | omega) only [push_cast, x_blk, x_cd, ↓reduceIte, Nat.reduceEqDiff, List.map_cons, List.map_nil, Int.reduceEq, Int.lt_irrefl]
    refine sto_blk k13 (cs := arrCells (m.arrows.getD i default)) ty_sz_85 rfl (by simp [arrCells, Value.oneCell']) ?_
    intro w14 k14 g14 z14
    generalize hy : m.arrows.getD i default = y at *
    have b14 : Below w3.heap.size w3 w14 := g14.below b13 b13.size (by intro a ha; injection ha with ha; subst ha; exact Nat.le_refl _)
    replace kA := kA.below b14 kA.lt
    replace b3 := b3.trans (b14.mono (by omega))
    clear hAr hAs
    simp (disch := first | with_reducible assumption | omega) only [push_cast, x_blk, x_cd, ↓reduceIte, Nat.reduceEqDiff, List.map_cons, List.map_nil, Int.reduceEq, Int.lt_irrefl, k14.a1 ty_ag_3, fr]
    refine call_of (row_Has (hs.up (bbs.trans (b3.mono (by omega)))) c y.evt (by omega)) ?_
    rintro v w15 ⟨rfl, s15⟩
    replace k14 := k14.same s15
    replace kA := kA.same s15
    replace b3 := b3.trans (s15.below _)
    unfold edL1 at hsn
    by_cases q1 : y.evt ∈ seen
    · rw [if_pos q1] at hsn
      simp (disch := first | with_reducible assumption | omega) only [push_cast, x_blk, x_cd, ↓reduceIte, Nat.reduceEqDiff, List.map_cons, List.map_nil, Int.reduceEq, Int.lt_irrefl, q1, fr]
      exact hJ _ _ ⟨i + 1, by omega, (by simp only [push_cast, ↓reduceIte, Nat.reduceEqDiff, true_and, and_true, and_self, eq_self, fr]), by rw [hsn]; exact kA, b3⟩ (by simp only [push_cast, ↓reduceIte, Nat.reduceEqDiff, intOf, fr]; omega)
    rw [if_neg q1] at hsn
    obtain ⟨p, hp⟩ : ∃ p : Nat, y.frm = p := ⟨y.frm.toNat, by have := hat.1; omega⟩
    have hpk : p < k := by have := hat.1; omega
    have hpt : y.frm.toNat = p := by omega
    rw [hpt] at hsn
    obtain ⟨l, hl⟩ : ∃ l, (edL seen (m.arrows.take i) (idL k k))[p]? = some l := ⟨_, List.getElem?_eq_getElem (by omega)⟩
    have hgl : (edL seen (m.arrows.take i) (idL k k)).getD p [] = l := by rw [List.getD_eq_getElem?_getD, hl]; rfl
    rw [hgl] at hsn
    have k14d := k14.drew
    have kAd := kA.drew
    have bd : Below w15.heap.size w15 w15.drew := (Same.refl w15).drew.below _
    have f1 := hat.2.1
    simp (disch := first | with_reducible assumption | omega) only [push_cast, x_blk, x_cd, ↓reduceIte, Nat.reduceEqDiff, List.map_cons, List.map_nil, Int.reduceEq, Int.lt_irrefl, q1, fr, k14d.a0 ty_ag_3, k14d.a2 ty_ag_3, hp, hpk, Int.natCast_nonneg, hsm, eA_zero]
    refine call_of (set_AddIn hl y.to_ (by omega) (by omega) kAd) ?_
    rintro v w16 ⟨rfl, k16, g16, z16⟩
    rw [← hsn] at k16
    simp (disch := first | with_reducible assumption | omega) only [push_cast, x_blk, x_cd, ↓reduceIte, Nat.reduceEqDiff, List.map_cons, List.map_nil, Int.reduceEq, Int.lt_irrefl, fr]
    exact hJ _ _ ⟨i + 1, by omega, (by simp only [push_cast, ↓reduceIte, Nat.reduceEqDiff, true_and, and_true, and_self, eq_self, fr]), k16, hGr g16 (b3.trans (bd.mono (by have := kA.lt; omega)))⟩ (by simp only [push_cast, ↓reduceIte, Nat.reduceEqDiff, intOf, fr]; omega)
  obtain rfl : i = m.arrows.length := by omega
  rw [List.take_length] at kA
  clear hJ
  have k1 := k1s.below b3 hbw
  have hll : (edL seen m.arrows (idL k k)).length = k := by rw [edL_len, idL_len]
  have hwr : wideR m seen = war (edL seen m.arrows (idL k k)) k k := by unfold wideR; rw [hnt]
  rw [hnt, hwr] at hQ
  generalize edL seen m.arrows (idL k k) = L0 at *
  simp (disch := first | with_reducible assumption | omega) only [push_cast, x_blk, x_cd, ↓reduceIte, Nat.reduceEqDiff, List.map_cons, List.map_nil, Int.reduceEq, Int.lt_irrefl, L_hide_wide_2, fr, hlt, Int.lt_irrefl, k1.m0 ty_ag_3, hn]
  clear k1
  refine loop_rule (fun f w' => ∃ b : Nat, b ≤ k ∧ (f 2 = .pointer (some ⟨w.heap.size, 0, none⟩) ∧ f 5 = .slice (some ⟨gA, 0, none⟩) k k ∧ f 46 = .int .i64 k ∧ f 47 = .int .i64 b) ∧
      Blk w' gA 76 ((war L0 k b).flatMap setC) ∧ Below gA w2 w')
    (fun f _ => k - (intOf (f 47)).toNat) ⟨0, by omega, (by simp only [push_cast, ↓reduceIte, Nat.reduceEqDiff, true_and, and_true, and_self, eq_self, fr]), kA, b3⟩ ?_
  clear kA b3 fr hlt z3
  rintro f w3 ⟨b, hb, fr, kA, b3⟩ J1 hJ1
  by_cases hlt : (b : Int) < (k : Int)
  case neg =>
    have hbk : b = k := by omega
    rw [hbk] at kA
    simp (disch := first | with_reducible assumption | omega) only [push_cast, x_blk, x_cd, ↓reduceIte, Nat.reduceEqDiff, List.map_cons, List.map_nil, Int.reduceEq, Int.lt_irrefl, L_hide_wide_1, fr, hlt, Int.lt_irrefl]
    exact fin_1 (hQ _ _ ⟨gA, (by simp only [push_cast, ↓reduceIte, Nat.reduceEqDiff, Int.reduceEq]), by omega, kA, bbs.trans (b3.mono (by omega))⟩)
  have hbk : b < k := by omega
  have k1 := k1s.below b3 hbw
  have hmu : k - (intOf (f 47)).toNat = k - b := by rw [fr.2.2.2]; rfl
  rw [hmu] at hJ1
  simp (disch := first | with_reducible assumption | omega) only [push_cast, x_blk, x_cd, ↓reduceIte, Nat.reduceEqDiff, List.map_cons, List.map_nil, Int.reduceEq, Int.lt_irrefl, L_hide_wide_1, fr, hlt, hbk, k1.m0 ty_ag_3, hn]
  clear k1
  have hwb : war L0 k (b + 1) = warB (war L0 k b) b k := rfl
  have hwl : (war L0 k b).length = k := by rw [war_len]; exact hll
  generalize war L0 k b = L1 at *
  refine loop_rule (fun f w' => ∃ s : Nat, s ≤ k ∧ (f 2 = .pointer (some ⟨w.heap.size, 0, none⟩) ∧ f 5 = .slice (some ⟨gA, 0, none⟩) k k ∧ f 9 = .int .i64 b ∧ f 46 = .int .i64 k ∧ f 47 = .int .i64 b ∧ f 51 = .int .i64 k ∧ f 52 = .int .i64 s) ∧
      Blk w' gA 76 ((warB L1 b s).flatMap setC) ∧ Below gA w2 w')
    (fun f _ => k - (intOf (f 52)).toNat) ⟨0, by omega, (by simp only [push_cast, ↓reduceIte, Nat.reduceEqDiff, true_and, and_true, and_self, eq_self, fr]), kA, b3⟩ ?_
  clear kA b3 fr hlt hmu
  rintro f w3 ⟨s, hs', fr, kA, b3⟩ J2 hJ2
  by_cases hlt : (s : Int) < (k : Int)
  case neg =>
    have hsk : s = k := by omega
    rw [hsk, ← hwb] at kA
    simp (disch := first | with_reducible assumption | omega) only [push_cast, x_blk, x_cd, ↓reduceIte, Nat.reduceEqDiff, List.map_cons, List.map_nil, Int.reduceEq, Int.lt_irrefl, L_hide_wide_0, fr, hlt, Int.lt_irrefl]
    exact hJ1 _ _ ⟨b + 1, by omega, (by simp only [push_cast, ↓reduceIte, Nat.reduceEqDiff, true_and, and_true, and_self, eq_self, fr]), kA, b3⟩ (by simp only [push_cast, ↓reduceIte, Nat.reduceEqDiff, intOf, fr]; omega)
  have hsk : s < k := by omega
  have hsn := warB_succ L1 b s
  have hbl : (warB L1 b s).length = k := by rw [warB_len]; exact hwl
  generalize warB L1 b s = L2 at *
  obtain ⟨ls, hls⟩ : ∃ l, L2[s]? = some l := ⟨_, List.getElem?_eq_getElem (by omega)⟩
  obtain ⟨lb, hlb⟩ : ∃ l, L2[b]? = some l := ⟨_, List.getElem?_eq_getElem (by omega)⟩
  have hR := sets_blk kA kA.lt (ok := (· < w3.heap.size))
  have hld := fun {K : Fr → World → Prop} {f : Fr} {d : Option Nat} {w' : World} => hR.ldAll (P := Tryd.prog) (K := K) (f := f) (d := d) (w := w') setEnc ty_ag_76 hls ty_sz_76
  rw [eA_zero] at hld
  simp (disch := first | with_reducible assumption | omega) only [push_cast, x_blk, x_cd, ↓reduceIte, Nat.reduceEqDiff, List.map_cons, List.map_nil, Int.reduceEq, Int.lt_irrefl, L_hide_wide_0, fr, hlt, hsk, hsm, hld, eA_zero]
  clear hld hR
  refine call_of (set_Has' ls (b : Int) (by omega) (by omega) w3) ?_
  rintro v w4 ⟨rfl, b4⟩
  replace kA := kA.below b4 kA.lt
  replace b3 := b3.trans (b4.mono (by have := kA.lt; have := b3.size; omega))
  have hmw := mw_iff hls (b : Int)
  unfold warS at hsn
  by_cases q : (b : Int) ∈ ls
  case neg =>
    rw [if_neg (fun hh => q (hmw.1 hh))] at hsn
    simp (disch := first | with_reducible assumption | omega) only [push_cast, x_blk, x_cd, ↓reduceIte, Nat.reduceEqDiff, List.map_cons, List.map_nil, Int.reduceEq, Int.lt_irrefl, q, fr]
    exact hJ2 _ _ ⟨s + 1, by omega, (by simp only [push_cast, ↓reduceIte, Nat.reduceEqDiff, true_and, and_true, and_self, eq_self, fr]), by rw [hsn]; exact kA, b3⟩ (by simp only [push_cast, ↓reduceIte, Nat.reduceEqDiff, intOf, fr]; omega)
  have hgs : L2.getD s [] = ls := by rw [List.getD_eq_getElem?_getD, hls]; rfl
  have hgb : L2.getD b [] = lb := by rw [List.getD_eq_getElem?_getD, hlb]; rfl
  rw [if_pos (hmw.2 q), hgs, hgb] at hsn
  have kAd := kA.drew
  have bd : Below w4.heap.size w4 w4.drew := (Same.refl w4).drew.below _
  have hR := sets_blk kAd kAd.lt (ok := (· < w4.drew.heap.size))
  have hld := fun {K : Fr → World → Prop} {f : Fr} {d : Option Nat} {w' : World} => hR.ldAll (P := Tryd.prog) (K := K) (f := f) (d := d) (w := w') setEnc ty_ag_76 hlb ty_sz_76
  rw [eA_zero] at hld
  simp (disch := first | with_reducible assumption | omega) only [push_cast, x_blk, x_cd, ↓reduceIte, Nat.reduceEqDiff, List.map_cons, List.map_nil, Int.reduceEq, Int.lt_irrefl, q, fr, hsk, hbk, hsm, hld, eA_zero]
  refine call_of (set_JoinIn (l2 := lb) hls kAd) ?_
  rintro v w5 ⟨rfl, k5, g5⟩
  rw [← hsn] at k5
  simp (disch := first | with_reducible assumption | omega) only [push_cast, x_blk, x_cd, ↓reduceIte, Nat.reduceEqDiff, List.map_cons, List.map_nil, Int.reduceEq, Int.lt_irrefl, fr]
  exact hJ2 _ _ ⟨s + 1, by omega, (by simp only [push_cast, ↓reduceIte, Nat.reduceEqDiff, true_and, and_true, and_self, eq_self, fr]), k5, hGr g5 (b3.trans (bd.mono (by have := kA.lt; omega)))⟩ (by simp only [push_cast, ↓reduceIte, Nat.reduceEqDiff, intOf, fr]; omega)
end Go.Proofs.YtcjedgiglimipaaDoor
