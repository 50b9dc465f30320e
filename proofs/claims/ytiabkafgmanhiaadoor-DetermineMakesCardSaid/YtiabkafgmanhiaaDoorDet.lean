/-
  Chapter 6: the program's Sets goes over all sets that steps lead to, as they are found: by its contract.
-/
import Derived.Test.YtiabkafgmanhiaaDoorWords
namespace Go.Proofs.YtiabkafgmanhiaaDoor
set_option linter.unusedSimpArgs false
set_option linter.unusedVariables false
set_option linter.unusedSectionVars false
open Go.RowKit

def U1 (s : List Int) : Prop := Strict s ∧ Small s
theorem setV_inj {s t : List Int} (hs : U1 s) (ht : U1 t) (h : setV s = setV t) : s = t := wordsOf_inj hs.1 ht.1 hs.2 ht.2 (setV_eq.1 h)
abbrev setC (s : List Int) : List Value := setCells (wordsOf s)
theorem setEnc : Enc setC 4 := ⟨fun s => setCells_4 s, fun s u hu => List.all_eq_true.1 (setCells_one _) u hu⟩
theorem arrEnc : Enc arrCells 3 := ⟨fun _ => rfl, fun a u hu => by
  unfold arrCells at hu
  rcases List.mem_cons.1 hu with rfl | hu
  · rfl
  · rcases List.mem_cons.1 hu with rfl | hu
    · rfl
    · rw [List.mem_singleton.1 hu]; rfl⟩
theorem blt_arrow : builtPl Tryd.prog 75 = some ([(0, 1), (1, 1), (2, 1)], [.int .i64 0, .int .i64 0, .int .i64 0]) := by kernel_rfl
theorem bl_arrow {K : Fr → World → Prop} {u : World} {f : Fr} {d : Option Nat} {w : World} (x y z : Int) :
    Val1 Tryd.prog K (Instr.build 75 #[(0, .int .i64 x), (1, .int .i64 y), (2, .int .i64 z)]) u f d w = K (updO f d (.agg (arrCells ⟨x, y, z⟩).toArray)) w := by
  have := bld_3 (P := Tryd.prog) (K := K) (u := u) (f := f) (d := d) (w := w) blt_arrow rfl rfl rfl rfl (v0 := .int .i64 x) (v1 := .int .i64 y) (v2 := .int .i64 z) rfl rfl rfl
  rw [this]
  simp [arrCells, Value.cells]
theorem Own.apart {B e e' sz sz' : Nat} {w : World} {A A' : Option Addr} {c c' n n' : Nat} {xs xs' : List Value} (h : Own B e sz w A c n xs) (h' : Own B e' sz' w A' c' n' xs') (hne : e ≠ e') : A = none ∨ A.map (·.block) ≠ A'.map (·.block) := by
  rcases h.own.2 with ⟨h0, _⟩ | ⟨g, cap, cur, hv, hB, hh, _⟩
  · injection h0 with h0; exact .inl h0
  · refine .inr ?_
    injection hv with hv
    subst hv
    rcases h'.own.2 with ⟨h0, _⟩ | ⟨g', cap', cur', hv', hB', hh', _⟩
    · injection h0 with h0; subst h0; simp
    · injection hv' with hv'
      subst hv'
      simp only [Option.map_some, ne_eq, Option.some.injEq]
      rintro rfl
      rw [hh] at hh'
      injection hh' with hh'
      injection hh' with _ ht
      exact hne ht

/-- From which place, by which event, in order: all of the first k places, and j events from the next one. -/
def prs (es : List Int) (k j : Nat) : List (Int × Int) := (List.range k).flatMap (fun (i : Nat) => es.map fun e => ((i : Int), e)) ++ (es.take j).map fun e => ((k : Int), e)
theorem prs_all (es : List Int) (k : Nat) : prs es k es.length = prs es (k + 1) 0 := by simp [prs, List.range_succ]
theorem prs_succ (es : List Int) (k j : Nat) (h : j < es.length) : prs es k (j + 1) = prs es k j ++ [((k : Int), es.getD j 0)] := by
  unfold prs
  rw [take_snoc es 0 j h, List.map_append, List.append_assoc]; rfl
theorem prs_len (es : List Int) (k j : Nat) (h : j ≤ es.length) : (prs es k j).length = k * es.length + j := by
  unfold prs
  rw [List.length_append, List.length_map, List.length_take, Nat.min_eq_left h]
  congr 1
  induction k with
  | zero => simp
  | succ k ih => rw [List.range_succ, List.flatMap_append, List.length_append, ih]; simp [Nat.succ_mul]
/-- An arrow from place to place, as the step leads. -/
def Led {S : Type} (step : S → Int → S) (L : List S) (a : Arr) : Prop := ∃ (i j : Nat) (s : S), a.frm = i ∧ a.to_ = j ∧ L[i]? = some s ∧ L[j]? = some (step s a.evt)
theorem Led.snoc {S : Type} {step : S → Int → S} {L : List S} {a : Arr} (h : Led step L a) (t : S) : Led step (L ++ [t]) a := by
  obtain ⟨i, j, s, h1, h2, h3, h4⟩ := h
  have up : ∀ {i : Nat} {r : S}, L[i]? = some r → (L ++ [t])[i]? = some r := fun {i r} hr => by
    rw [List.getElem?_append_left (by rcases Nat.lt_or_ge i L.length with c | c; exact c; rw [List.getElem?_eq_none c] at hr; cases hr)]
    exact hr
  exact ⟨i, j, s, h1, h2, up h3, up h4⟩
/-- All places, and all arrows between them. -/
def Arrows {S : Type} (step : S → Int → S) (es : List Int) (k j : Nat) (L : List S) (ar : List Arr) : Prop := ar.map (fun a => (a.frm, a.evt)) = prs es k j ∧ ∀ a ∈ ar, Led step L a
theorem Arrows.len {S : Type} {step : S → Int → S} {es : List Int} {k j : Nat} {L : List S} {ar : List Arr} (h : Arrows step es k j L ar) (hj : j ≤ es.length) : ar.length = k * es.length + j := by
  rw [← prs_len es k j hj, ← h.1, List.length_map]
theorem Arrows.add {S : Type} {step : S → Int → S} {es : List Int} {k j i : Nat} {L : List S} {ar : List Arr} (h : Arrows step es k j L ar) (hj : j < es.length) {s : S} (hk : L[k]? = some s) (hi : L[i]? = some (step s (es.getD j 0))) : Arrows step es k (j + 1) L (ar ++ [⟨k, es.getD j 0, i⟩]) := by
  refine ⟨by rw [List.map_append, h.1, prs_succ es k j hj]; rfl, fun a ha => ?_⟩
  rcases List.mem_append.1 ha with ha | ha
  · exact h.2 a ha
  · rw [List.mem_singleton.1 ha]; exact ⟨k, i, s, rfl, rfl, hk, hi⟩
theorem Arrows.more {S : Type} {step : S → Int → S} {es : List Int} {k j : Nat} {L : List S} {ar : List Arr} (h : Arrows step es k j L ar) (t : S) : Arrows step es k j (L ++ [t]) ar := ⟨h.1, fun a ha => (h.2 a ha).snoc t⟩
def kvOf (L : List (List Int)) : List (Value × Value) := L.zipIdx.map fun p => (setV p.1, .int .i64 (p.2 : Int))
theorem kvOf_snoc (L : List (List Int)) (s : List Int) : kvOf (L ++ [s]) = kvOf L ++ [(setV s, .int .i64 (L.length : Int))] := by
  unfold kvOf
  rw [List.zipIdx_append, List.map_append]
  simp
theorem kvOf_mem {L : List (List Int)} {p : Value × Value} (h : p ∈ kvOf L) : ∃ (i : Nat) (t : List Int), L[i]? = some t ∧ p = (setV t, .int .i64 (i : Int)) := by
  obtain ⟨⟨t, i⟩, hm, he⟩ := List.mem_map.1 h
  exact ⟨i, t, List.mk_mem_zipIdx_iff_getElem?.1 hm, he.symm⟩
theorem kvOf_has {L : List (List Int)} {i : Nat} {t : List Int} (h : L[i]? = some t) : (setV t, Value.int .i64 (i : Int)) ∈ kvOf L := List.mem_map.2 ⟨(t, i), List.mk_mem_zipIdx_iff_getElem?.2 h, rfl⟩

/-- What going over all sets makes. -/
def SetsRes (step : List Int → Int → List Int) (es : List Int) (first : List Int) (ok : Bool) (L : List (List Int)) (ar : List Arr) : Prop :=
  (ok = true ∧ ∃ k, k ≤ 256 ∧ (bIter step es first k).length = k ∧ L = (bIter step es first k).map (·.1) ∧ Arrows step es k 0 L ar) ∨
  (ok = false ∧ L = [] ∧ ar = [] ∧ ∃ k, 256 < (bIter step es first k).length)

theorem determine_Sets {w : World} {first : List Int} {n : Nat} {g : FuncId} {cap : Array Value} {step : List Int → Int → List Int} (h0 : U1 first) (hn : n ≤ 8)
    (hU : ∀ s, U1 s → ∀ e ∈ evs n, U1 (step s e))
    (hstep : ∀ w', Below w.heap.size w w' → ∀ s, U1 s → ∀ e : Int, 0 ≤ e → e < n → Cal Tryd.prog g ([setV s, .int .i64 e] ++ cap.toList) w' fun v w2 => v = setV (step s e) ∧ Below w'.heap.size w' w2) :
    Cal Tryd.prog 67 [setV first, .int .i64 n, .func (.func g) #[] cap] w fun v w' =>
      ∃ A c L A2 c2 ar b, v = .tuple #[.slice A L.length c, .slice A2 ar.length c2, .bool b] ∧ OwnR setC w.heap.size 69 4 w' A c L ∧ OwnR arrCells w.heap.size 75 3 w' A2 c2 ar ∧ Below w.heap.size w w' ∧ SetsRes step (evs n) first b L ar := by
  have hmt : Tryd.prog.underlying 123 = some (.map 69 3) := Tryd.underlying123
  have hzi : (Tryd.prog.info? 3).map (·.zero) = some (some (.int .i64 0)) := by kernel_rfl
  refine cal_determine_Sets (by simp) 100000 fun Q hQ => ?_
  simp (disch := first | with_reducible assumption | omega) only [push_cast, x_blk, x_cd, ↓reduceIte, Nat.reduceEqDiff, List.map_cons, List.map_nil, Int.reduceEq, Int.lt_irrefl, F_determine_Sets]
  refine blk_of (box_agg _ (setCells (wordsOf first))) ?_
  intro w1 k1 b1 z1
  simp (disch := first | with_reducible assumption | omega) only [push_cast, x_blk, x_cd, ↓reduceIte, Nat.reduceEqDiff, List.map_cons, List.map_nil, Int.reduceEq, Int.lt_irrefl, e_makeMap]
  refine map_made (k := 69) _ ?_
  intro w2 m2 b2 z2
  have k2 := k1.below b2 (by omega)
  have b2 := b1.trans (b2.mono b1.size)
  simp (disch := first | with_reducible assumption | omega) only [push_cast, x_blk, x_cd, ↓reduceIte, Nat.reduceEqDiff, List.map_cons, List.map_nil, Int.reduceEq, Int.lt_irrefl, e_insert, k2.ldAll ty_ag_69 (by rw [setCells_4]; exact ty_sz_69)]
  refine map_new keyed_set hmt m2 (key_set _) (by simp) _ ?_
  intro w3 m3 g3 z3
  have k3 := k2.grown g3.by_ (by simp; omega)
  have b3 := g3.below b2 b2.size (by intro a ha; injection ha with ha; subst ha; show w.heap.size ≤ w1.heap.size; omega)
  simp (disch := first | with_reducible assumption | omega) only [push_cast, x_blk, x_cd, ↓reduceIte, Nat.reduceEqDiff, List.map_cons, List.map_nil, Int.reduceEq, Int.lt_irrefl, k3.ldAll ty_ag_69 (by rw [setCells_4]; exact ty_sz_69), bs_rec setEnc slT_81 _ (by decide)]
  have o4 := own_rec setEnc w3 first 69
  have b4 : Below w3.heap.size w3 (w3.alloc (.cells (setC first).toArray 69)) := (Below.refl _ _).alloc (Nat.le_refl _) _
  generalize w3.alloc (.cells (setC first).toArray 69) = w4 at *
  have m4 := m3.below b4 m3.lt
  have z3' := b3.size
  replace b4 := b3.trans (b4.mono b3.size)
  replace o4 := o4.base (B' := w.heap.size) z3'
  refine loop_rule (fun f w' => ∃ (k : Nat) (L : List (List Int)) (A : Option Addr) (c : Nat) (ar : List Arr) (A2 : Option Addr) (c2 : Nat), k ≤ L.length ∧
      (f 1 = .int .i64 n ∧ f 2 = .func (.func g) #[] cap ∧ f 9 = .map (some w1.heap.size) ∧ f 10 = .slice A L.length c ∧ f 11 = .slice A2 ar.length c2 ∧ f 12 = .int .i64 k) ∧
      L = (bIter step (evs n) first k).map (·.1) ∧ L.length ≤ 256 ∧ Arrows step (evs n) k 0 L ar ∧
      OwnR setC w.heap.size 69 4 w' A c L ∧ OwnR arrCells w.heap.size 75 3 w' A2 c2 ar ∧ MapIs Tryd.prog 69 w' w1.heap.size (kvOf L) ∧ Below w.heap.size w w')
    (fun f _ => 257 - (intOf (f 12)).toNat) ⟨0, [first], _, 1, [], none, 0, by simp, ⟨rfl, rfl, rfl, rfl, rfl, rfl⟩, rfl, by simp, ⟨rfl, by simp⟩, o4, Own.nil _ _ _ _, m4, b4⟩ ?_
  clear o4 m4 b4 k3 m3 b3 g3 k2 m2 b2 k1 b1
  rintro f w5 ⟨k, L, A, c, ar, A2, c2, hk, fr, hL, hL2, har, ho, hoa, hm, b5⟩ J hJ
  have hmu : (intOf (f 12)).toNat = k := by rw [fr.2.2.2.2.2]; simp [intOf]
  have hlb : L.length = (bIter step (evs n) first k).length := by rw [hL, List.length_map]
  by_cases hlt : k < L.length
  case neg =>
    have hke : k = L.length := by omega
    simp (disch := first | with_reducible assumption | omega) only [push_cast, x_blk, x_cd, ↓reduceIte, Nat.reduceEqDiff, List.map_cons, List.map_nil, Int.reduceEq, Int.lt_irrefl, L_determine_Sets_1, fr, hlt]
    exact fin_3 (hQ _ _ ⟨A, c, L, A2, c2, ar, true, (by simp only [push_cast, ↓reduceIte, Nat.reduceEqDiff, Int.reduceEq]), ho, hoa, b5, .inl ⟨rfl, k, by omega, by omega, hL, har⟩⟩)
  have hpk : (bIter step (evs n) first k)[k]? = some ((bIter step (evs n) first k)[k]'(by omega)) := List.getElem?_eq_getElem _
  generalize (bIter step (evs n) first k)[k]'(by omega) = q at hpk
  have hUq : U1 q.1 := (bIter_good (step := step) (es := evs n) hU h0 k).univ q (List.mem_of_getElem? hpk)
  simp (disch := first | with_reducible assumption | omega) only [push_cast, x_blk, x_cd, ↓reduceIte, Nat.reduceEqDiff, List.map_cons, List.map_nil, Int.reduceEq, Int.lt_irrefl, L_determine_Sets_1, fr, hlt]
  refine loop_rule (fun f' w' => ∃ (j : Nat) (L : List (List Int)) (A : Option Addr) (c : Nat) (ar : List Arr) (A2 : Option Addr) (c2 : Nat), j ≤ n ∧
      (f' 1 = .int .i64 n ∧ f' 2 = .func (.func g) #[] cap ∧ f' 9 = .map (some w1.heap.size) ∧ f' 10 = .slice A L.length c ∧ f' 11 = .slice A2 ar.length c2 ∧ f' 12 = .int .i64 k ∧ f' 28 = .int .i64 n ∧ f' 29 = .int .i64 j) ∧
      L = (bPart step (evs n) first k j).map (·.1) ∧ L.length ≤ 256 + j ∧ Arrows step (evs n) k j L ar ∧
      OwnR setC w.heap.size 69 4 w' A c L ∧ OwnR arrCells w.heap.size 75 3 w' A2 c2 ar ∧ MapIs Tryd.prog 69 w' w1.heap.size (kvOf L) ∧ Below w.heap.size w w')
    (fun f' _ => n - (intOf (f' 29)).toNat) ⟨0, L, A, c, ar, A2, c2, Nat.zero_le _, (by simp only [push_cast, ↓reduceIte, Nat.reduceEqDiff, true_and, and_true, and_self, eq_self, fr]), hL, by omega, har, ho, hoa, hm, b5⟩ ?_
  have hpre := bPart_prefix (step := step) (es := evs n) first k
  clear hm ho hoa har hlt hk b5
  have hk256 : k ≤ 256 := by
    rcases Nat.lt_or_ge k (bIter step (evs n) first k).length with c | c
    · omega
    · rw [List.getElem?_eq_none c] at hpk; cases hpk
  have hkl0 : k < (bIter step (evs n) first k).length := by
    rcases Nat.lt_or_ge k (bIter step (evs n) first k).length with c | c
    · exact c
    · rw [List.getElem?_eq_none c] at hpk; cases hpk
  clear hL hL2 hlb fr
  rintro f w5 ⟨j, L, A, c, ar, A2, c2, hj, fr, hL, hL2, har, ho, hoa, hm, b5⟩ J2 hJ2
  have hel := evs_len n
  have hal := har.len (by omega)
  have hkn : k * (evs n).length ≤ 256 * 8 := Nat.mul_le_mul hk256 (by omega)
  have hq2 : (bPart step (evs n) first k j)[k]? = some q := by rw [prefix_getElem? (hpre j) hkl0]; exact hpk
  have hlb : L.length = (bPart step (evs n) first k j).length := by rw [hL, List.length_map]
  have hlt : k < L.length := by have := (hpre j).length_le; omega
  by_cases hjt : j < n
  case neg =>
    obtain rfl : j = n := by omega
    have hall := bPart_all (step := step) (es := evs j) first k
    rw [hel] at hall
    rw [hall] at hL hlb
    have har' : Arrows step (evs j) (k + 1) 0 L ar := ⟨by rw [← prs_all, hel]; exact har.1, har.2⟩
    by_cases hbig : (256 : Int) < (L.length : Int)
    · simp (disch := first | with_reducible assumption | omega) only [push_cast, x_blk, x_cd, ↓reduceIte, Nat.reduceEqDiff, List.map_cons, List.map_nil, Int.reduceEq, Int.lt_irrefl, L_determine_Sets_0, fr, Nat.lt_irrefl, hbig]
      exact fin_3 (hQ _ _ ⟨none, 0, [], none, 0, [], false, (by simp only [push_cast, ↓reduceIte, Nat.reduceEqDiff, Int.reduceEq, List.length_nil]), Own.nil _ _ _ _, Own.nil _ _ _ _, b5, .inr ⟨rfl, rfl, rfl, k + 1, by omega⟩⟩)
    · simp (disch := first | with_reducible assumption | omega) only [push_cast, x_blk, x_cd, ↓reduceIte, Nat.reduceEqDiff, List.map_cons, List.map_nil, Int.reduceEq, Int.lt_irrefl, L_determine_Sets_0, fr, Nat.lt_irrefl, hbig]
      exact hJ _ _ ⟨k + 1, L, A, c, ar, A2, c2, by omega, (by simp only [push_cast, ↓reduceIte, Nat.reduceEqDiff, true_and, and_true, and_self, eq_self, fr]), hL, by omega, har', ho, hoa, hm, b5⟩ (by rw [hmu]; simp only [push_cast, ↓reduceIte, Nat.reduceEqDiff, intOf, fr]; omega)
  have hLk : L[k]? = some q.1 := by rw [hL, List.getElem?_map, hq2]; rfl
  have hA := ho.isSome (by omega)
  have hR := Recs.lt setEnc (by decide) (OwnR.recs ho setEnc (by decide))
  have hldp := fun {K : Fr → World → Prop} {f : Fr} {d : Option Nat} {w' : World} => Recs.ldAll (P := Tryd.prog) (K := K) (f := f) (d := d) (w := w') hR setEnc ty_ag_69 hLk ty_sz_69
  simp (disch := first | with_reducible assumption | omega) only [push_cast, x_blk, x_cd, ↓reduceIte, Nat.reduceEqDiff, List.map_cons, List.map_nil, Int.reduceEq, Int.lt_irrefl, L_determine_Sets_0, fr, hjt, hlt, hldp]
  refine call_of (hstep w5 b5 q.1 hUq j (by omega) (by omega)) ?_
  rintro v w6 ⟨rfl, b56⟩
  have ho6 := ho.below b56 (Nat.le_refl _)
  have hoa6 := hoa.below b56 (Nat.le_refl _)
  have hm6 := hm.below b56 hm.lt
  have b6 := b5.trans (b56.mono b5.size)
  have hUs : U1 (step q.1 j) := hU _ hUq _ (evs_mem.2 ⟨by omega, by omega⟩)
  have hej := evs_at n j hjt
  generalize hs : step q.1 j = s at *
  simp (disch := first | with_reducible assumption | omega) only [push_cast, x_blk, x_cd, ↓reduceIte, Nat.reduceEqDiff, List.map_cons, List.map_nil, Int.reduceEq, Int.lt_irrefl, fr]
  refine blk_of (cs := setCells (wordsOf [])) al_69 ?_
  intro w7 k7 b7 z7
  have ho7 := ho6.below b7 (Nat.le_refl _)
  have hoa7 := hoa6.below b7 (Nat.le_refl _)
  have hm7 := hm6.below b7 hm6.lt
  have z6 := b6.size
  have b7 := b6.trans (b7.mono b6.size)
  have hfr8 : ∀ a, A = some a → a.block < w6.heap.size := fun a ha => by
    have := ho6.block (A := A) hA
    subst ha
    exact this.2
  simp (disch := first | with_reducible assumption | omega) only [push_cast, x_blk, x_cd, ↓reduceIte, Nat.reduceEqDiff, List.map_cons, List.map_nil, Int.reduceEq, Int.lt_irrefl]
  refine sto_blk k7 (cs := setCells (wordsOf s)) (by rw [setCells_4]; exact ty_sz_69) (by rw [setCells_4, setCells_4]) (setCells_one _) ?_
  intro w8 k8 g8 z8
  have ho8 := ho7.grew g8 (.inr (by
    intro e
    cases A with
    | none => cases hA
    | some a => injection e with e; have := hfr8 a rfl; simp at e; omega))
  have hoa8 := hoa7.grew g8 (.inr (hoa7.ne_blk k7 (by decide)))
  have hm8 := hm7.grown g8.by_ (by have := hm6.lt; simp; omega)
  have b8 := g8.below b7 b7.size (by intro a ha; injection ha with ha; subst ha; exact z6)
  have hl8 := fun {K : Fr → World → Prop} {f : Fr} {d : Option Nat} {w' : World} => Blk.ldAll (P := Tryd.prog) (K := K) (f := f) (d := d) (w := w') k8 ty_ag_69 (by rw [setCells_4]; exact ty_sz_69)
  simp (disch := first | with_reducible assumption | omega) only [push_cast, x_blk, x_cd, ↓reduceIte, Nat.reduceEqDiff, List.map_cons, List.map_nil, Int.reduceEq, Int.lt_irrefl, fr, hl8, v_lookup]
  have hsucc := bPart_succ step (evs n) first k j (by rw [evs_len]; exact hjt)
  rw [hej] at hsucc
  have hgoodj := bPart_good (step := step) (es := evs n) hU h0 k j
  have hadd : ∀ {i : Nat} {L' : List (List Int)}, Arrows step (evs n) k j L' ar → L'[k]? = some q.1 → L'[i]? = some s → Arrows step (evs n) k (j + 1) L' (ar ++ [⟨k, j, i⟩]) := fun {i L'} h1 h2 h3 => by
    have := h1.add (i := i) (by omega) h2 (by rw [hej, hs]; exact h3)
    rwa [hej] at this
  refine map_look keyed_set hmt hzi true hm8 (key_set _) (fun v hv => ?_) fun hno => ?_
  · obtain ⟨i, t, hit, hte⟩ := kvOf_mem hv
    injection hte with hte hvi
    subst hvi
    have hti : t ∈ L := List.mem_of_getElem? hit
    have htU : U1 t := by
      rw [hL] at hti
      obtain ⟨r, hr, rfl⟩ := List.mem_map.1 hti
      exact hgoodj.univ r hr
    obtain rfl := setV_inj htU hUs hte.symm
    rw [bAdd_old hq2 (by rw [hs, ← hL]; exact hti)] at hsucc
    have hoL := ho8
    have hoA := hoa8
    have mN := hm8
    have bN := b8
    simp (disch := first | with_reducible assumption | omega) only [push_cast, x_blk, x_cd, ↓reduceIte, Nat.reduceEqDiff, List.map_cons, List.map_nil, Int.reduceEq, Int.lt_irrefl, fr, bl_arrow, bs_rec arrEnc slT_23 _ (by decide)]
    refine app_rec arrEnc slT_23 hoA (⟨(k : Int), (j : Int), (i : Int)⟩ : Arr) (by omega) (by omega) bN.size ?_
    intro A2' c2' w12 hoA' hg12 hA12 hs12 hz12
    have hoL' := hoL.grew hg12 (Own.apart hoL hoA (by decide))
    have mE := mN.grown hg12.by_ (mN.ne_own hoA)
    have bE := hg12.below bN bN.size hoA.geB
    simp (disch := first | with_reducible assumption | omega) only [push_cast, x_blk, x_cd, ↓reduceIte, Nat.reduceEqDiff, List.map_cons, List.map_nil, Int.reduceEq, Int.lt_irrefl, fr]
    exact hJ2 _ _ ⟨j + 1, L, A, c, ar ++ [⟨k, j, i⟩], A2', c2', hjt, (by simp only [push_cast, ↓reduceIte, Nat.reduceEqDiff, true_and, and_true, and_self, eq_self, fr, List.length_append, List.length_cons, List.length_nil]), by rw [hsucc]; exact hL, by omega, hadd har hLk hit, hoL', hoA', mE, bE⟩ (by simp only [push_cast, ↓reduceIte, Nat.reduceEqDiff, intOf, fr]; omega)
  · have hnin : s ∉ L := fun hin => by
      obtain ⟨i, hi⟩ := List.mem_iff_getElem?.1 hin
      exact hno _ (kvOf_has hi) rfl
    rw [bAdd_new hq2 (by rw [hs, ← hL]; exact hnin), hs] at hsucc
    simp (disch := first | with_reducible assumption | omega) only [push_cast, x_blk, x_cd, ↓reduceIte, Nat.reduceEqDiff, List.map_cons, List.map_nil, Int.reduceEq, Int.lt_irrefl, fr, hl8, e_mapUpdate]
    refine map_new keyed_set hmt hm8 (key_set _) hno _ ?_
    intro w9 m9 g9 z9
    have ho9 := ho8.grew g9 (.inr fun e => hm8.ne_own ho8 e.symm)
    have hoa9 := hoa8.grew g9 (.inr fun e => hm8.ne_own hoa8 e.symm)
    have k9 := k8.grown g9.by_ (by have := hm6.lt; simp; omega)
    have b9 := g9.below b8 b8.size (by intro a ha; injection ha with ha; subst ha; show w.heap.size ≤ w1.heap.size; omega)
    have hl9 := fun {K : Fr → World → Prop} {f : Fr} {d : Option Nat} {w' : World} => Blk.ldAll (P := Tryd.prog) (K := K) (f := f) (d := d) (w := w') k9 ty_ag_69 (by rw [setCells_4]; exact ty_sz_69)
    simp (disch := first | with_reducible assumption | omega) only [push_cast, x_blk, x_cd, ↓reduceIte, Nat.reduceEqDiff, List.map_cons, List.map_nil, Int.reduceEq, Int.lt_irrefl, fr, hl9, bs_rec setEnc slT_81 _ (by decide)]
    refine app_rec setEnc slT_81 ho9 s (by omega) (by omega) b9.size ?_
    intro A' c' w10 hoL hg10 hA10 hs10 hz10
    have hoA := hoa9.grew hg10 (Own.apart hoa9 ho9 (by decide))
    have mN := m9.grown hg10.by_ (m9.ne_own ho9)
    have bN := hg10.below b9 b9.size ho9.geB
    rw [← kvOf_snoc] at mN
    simp (disch := first | with_reducible assumption | omega) only [push_cast, x_blk, x_cd, ↓reduceIte, Nat.reduceEqDiff, List.map_cons, List.map_nil, Int.reduceEq, Int.lt_irrefl, fr, bl_arrow, bs_rec arrEnc slT_23 _ (by decide)]
    refine app_rec arrEnc slT_23 hoA (⟨(k : Int), (j : Int), (L.length : Int)⟩ : Arr) (by omega) (by omega) bN.size ?_
    intro A2' c2' w12 hoA' hg12 hA12 hs12 hz12
    have hoL' := hoL.grew hg12 (Own.apart hoL hoA (by decide))
    have mE := mN.grown hg12.by_ (mN.ne_own hoA)
    have bE := hg12.below bN bN.size hoA.geB
    simp (disch := first | with_reducible assumption | omega) only [push_cast, x_blk, x_cd, ↓reduceIte, Nat.reduceEqDiff, List.map_cons, List.map_nil, Int.reduceEq, Int.lt_irrefl, fr]
    exact hJ2 _ _ ⟨j + 1, L ++ [s], A', c', ar ++ [⟨k, j, L.length⟩], A2', c2', hjt, (by simp only [push_cast, ↓reduceIte, Nat.reduceEqDiff, true_and, and_true, and_self, eq_self, fr, List.length_append, List.length_cons, List.length_nil]), by rw [hsucc, List.map_append, hL]; rfl, by simp; omega, hadd (har.more s) (by rw [List.getElem?_append_left hlt]; exact hLk) (by simp), hoL', hoA', mE, bE⟩ (by simp only [push_cast, ↓reduceIte, Nat.reduceEqDiff, intOf, fr]; omega)
end Go.Proofs.YtiabkafgmanhiaaDoor
