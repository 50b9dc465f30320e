/-
  Chapter 6: the program's Sets goes over all sets that steps lead to, as they are found: by its contract.
  Chapter 6: the program's Make makes the machine of the sets: by its contract.
-/
import Derived.Test.YtcjinmgieiebbaaDoorZWords
import Derived.Test.YtcjinmgieiebbaaDoorZSetAll
import Derived.Test.YtcjinmgieiebbaaDoorZSet
namespace Go.Proofs.YtcjinmgieiebbaaDoor
set_option linter.unusedSimpArgs false
set_option linter.unusedVariables false
set_option linter.unusedSectionVars false
section
open Go.RowKit

def U1 (s : List Int) : Prop := Strict s ∧ Small s
theorem setV_inj {s t : List Int} (hs : U1 s) (ht : U1 t) (h : setV s = setV t) : s = t := wordsOf_inj hs.1 ht.1 hs.2 ht.2 (setV_eq.1 h)
abbrev setC (s : List Int) : List Value := setCells (wordsOf s)
theorem setEnc : Enc setC 4 := ⟨fun s => setCells_4 s, fun s u hu => List.all_eq_true.1 (setCells_one _) u hu⟩
theorem arrEnc : Enc arrCells 3 := ⟨fun _ => rfl, fun a u hu => by
  unfold arrCells at hu
  rcases List.mem_cons.1 hu with rfl | hu
  · rfl
  · rcases List.mem_cons.1 hu with rfl | hu
    · rfl
    · rw [List.mem_singleton.1 hu]; rfl⟩
theorem blt_arrow : builtPl Tryd.prog 91 = some ([(0, 1), (1, 1), (2, 1)], [.int .i64 0, .int .i64 0, .int .i64 0]) := by kernel_rfl
theorem bl_arrow {K : Fr → World → Prop} {u : World} {f : Fr} {d : Option Nat} {w : World} (x y z : Int) :
    Val1 Tryd.prog K (Instr.build 91 #[(0, .int .i64 x), (1, .int .i64 y), (2, .int .i64 z)]) u f d w = K (updO f d (.agg (arrCells ⟨x, y, z⟩).toArray)) w := by
  have := bld_3 (P := Tryd.prog) (K := K) (u := u) (f := f) (d := d) (w := w) blt_arrow rfl rfl rfl rfl (v0 := .int .i64 x) (v1 := .int .i64 y) (v2 := .int .i64 z) rfl rfl rfl
  rw [this]
  simp [arrCells, Value.cells]
theorem Own.apart {B e e' sz sz' : Nat} {w : World} {A A' : Option Addr} {c c' n n' : Nat} {xs xs' : List Value} (h : Own B e sz w A c n xs) (h' : Own B e' sz' w A' c' n' xs') (hne : e ≠ e') : A = none ∨ A.map (·.block) ≠ A'.map (·.block) := by
  rcases h.own.2 with ⟨h0, _⟩ | ⟨g, cap, cur, hv, hB, hh, _⟩
  · injection h0 with h0; exact .inl h0
  · refine .inr ?_
    injection hv with hv
    subst hv
    rcases h'.own.2 with ⟨h0, _⟩ | ⟨g', cap', cur', hv', hB', hh', _⟩
    · injection h0 with h0; subst h0; simp
    · injection hv' with hv'
      subst hv'
      simp only [Option.map_some, ne_eq, Option.some.injEq]
      rintro rfl
      rw [hh] at hh'
      injection hh' with hh'
      injection hh' with _ ht
      exact hne ht

/-- From which place, by which event, in order: all of the first k places, and j events from the next one. -/
def prs (es : List Int) (k j : Nat) : List (Int × Int) := (List.range k).flatMap (fun (i : Nat) => es.map fun e => ((i : Int), e)) ++ (es.take j).map fun e => ((k : Int), e)
theorem prs_all (es : List Int) (k : Nat) : prs es k es.length = prs es (k + 1) 0 := by simp [prs, List.range_succ]
theorem prs_succ (es : List Int) (k j : Nat) (h : j < es.length) : prs es k (j + 1) = prs es k j ++ [((k : Int), es.getD j 0)] := by
  unfold prs
  rw [take_snoc es 0 j h, List.map_append, List.append_assoc]; rfl
theorem prs_len (es : List Int) (k j : Nat) (h : j ≤ es.length) : (prs es k j).length = k * es.length + j := by
  unfold prs
  rw [List.length_append, List.length_map, List.length_take, Nat.min_eq_left h]
  congr 1
  induction k with
  | zero => simp
  | succ k ih => rw [List.range_succ, List.flatMap_append, List.length_append, ih]; simp [Nat.succ_mul]
/-- An arrow from place to place, as the step leads. -/
def Led {S : Type} (step : S → Int → S) (L : List S) (a : Arr) : Prop := ∃ (i j : Nat) (s : S), a.frm = i ∧ a.to_ = j ∧ L[i]? = some s ∧ L[j]? = some (step s a.evt)
theorem Led.snoc {S : Type} {step : S → Int → S} {L : List S} {a : Arr} (h : Led step L a) (t : S) : Led step (L ++ [t]) a := by
  obtain ⟨i, j, s, h1, h2, h3, h4⟩ := h
  have up : ∀ {i : Nat} {r : S}, L[i]? = some r → (L ++ [t])[i]? = some r := fun {i r} hr => by
    rw [List.getElem?_append_left (by rcases Nat.lt_or_ge i L.length with c | c; exact c; rw [List.getElem?_eq_none c] at hr; cases hr)]
    exact hr
  exact ⟨i, j, s, h1, h2, up h3, up h4⟩
/-- All places, and all arrows between them. -/
def Arrows {S : Type} (step : S → Int → S) (es : List Int) (k j : Nat) (L : List S) (ar : List Arr) : Prop := ar.map (fun a => (a.frm, a.evt)) = prs es k j ∧ ∀ a ∈ ar, Led step L a
theorem Arrows.len {S : Type} {step : S → Int → S} {es : List Int} {k j : Nat} {L : List S} {ar : List Arr} (h : Arrows step es k j L ar) (hj : j ≤ es.length) : ar.length = k * es.length + j := by
  rw [← prs_len es k j hj, ← h.1, List.length_map]
theorem Arrows.add {S : Type} {step : S → Int → S} {es : List Int} {k j i : Nat} {L : List S} {ar : List Arr} (h : Arrows step es k j L ar) (hj : j < es.length) {s : S} (hk : L[k]? = some s) (hi : L[i]? = some (step s (es.getD j 0))) : Arrows step es k (j + 1) L (ar ++ [⟨k, es.getD j 0, i⟩]) := by
  refine ⟨by rw [List.map_append, h.1, prs_succ es k j hj]; rfl, fun a ha => ?_⟩
  rcases List.mem_append.1 ha with ha | ha
  · exact h.2 a ha
  · rw [List.mem_singleton.1 ha]; exact ⟨k, i, s, rfl, rfl, hk, hi⟩
theorem Arrows.more {S : Type} {step : S → Int → S} {es : List Int} {k j : Nat} {L : List S} {ar : List Arr} (h : Arrows step es k j L ar) (t : S) : Arrows step es k j (L ++ [t]) ar := ⟨h.1, fun a ha => (h.2 a ha).snoc t⟩
def kvOf (L : List (List Int)) : List (Value × Value) := L.zipIdx.map fun p => (setV p.1, .int .i64 (p.2 : Int))
theorem kvOf_snoc (L : List (List Int)) (s : List Int) : kvOf (L ++ [s]) = kvOf L ++ [(setV s, .int .i64 (L.length : Int))] := by
  unfold kvOf
  rw [List.zipIdx_append, List.map_append]
  simp
theorem kvOf_mem {L : List (List Int)} {p : Value × Value} (h : p ∈ kvOf L) : ∃ (i : Nat) (t : List Int), L[i]? = some t ∧ p = (setV t, .int .i64 (i : Int)) := by
  obtain ⟨⟨t, i⟩, hm, he⟩ := List.mem_map.1 h
  exact ⟨i, t, List.mk_mem_zipIdx_iff_getElem?.1 hm, he.symm⟩
theorem kvOf_has {L : List (List Int)} {i : Nat} {t : List Int} (h : L[i]? = some t) : (setV t, Value.int .i64 (i : Int)) ∈ kvOf L := List.mem_map.2 ⟨(t, i), List.mk_mem_zipIdx_iff_getElem?.2 h, rfl⟩

/-- What going over all sets makes. -/
def SetsRes (step : List Int → Int → List Int) (es : List Int) (first : List Int) (ok : Bool) (L : List (List Int)) (ar : List Arr) : Prop :=
  (ok = true ∧ ∃ k, k ≤ 256 ∧ (bIter step es first k).length = k ∧ L = (bIter step es first k).map (·.1) ∧ Arrows step es k 0 L ar) ∨
  (ok = false ∧ L = [] ∧ ar = [] ∧ ∃ k, 256 < (bIter step es first k).length)

theorem determine_Sets {w : World} {first : List Int} {n : Nat} {g : FuncId} {cap : Array Value} {step : List Int → Int → List Int} (h0 : U1 first) (hn : n ≤ 8)
    (hU : ∀ s, U1 s → ∀ e ∈ evs n, U1 (step s e))
    (hstep : ∀ w', Below w.heap.size w w' → ∀ s, U1 s → ∀ e : Int, 0 ≤ e → e < n → Cal Tryd.prog g ([setV s, .int .i64 e] ++ cap.toList) w' fun v w2 => v = setV (step s e) ∧ Below w'.heap.size w' w2) :
    Cal Tryd.prog 94 [setV first, .int .i64 n, .func (.func g) #[] cap] w fun v w' =>
      ∃ A c L A2 c2 ar b, v = .tuple #[.slice A L.length c, .slice A2 ar.length c2, .bool b] ∧ OwnR setC w.heap.size 64 4 w' A c L ∧ OwnR arrCells w.heap.size 91 3 w' A2 c2 ar ∧ Below w.heap.size w w' ∧ SetsRes step (evs n) first b L ar := by
  have hmt : Tryd.prog.underlying 122 = some (.map 64 3) := Tryd.underlying122
  have hzi : (Tryd.prog.info? 3).map (·.zero) = some (some (.int .i64 0)) := by kernel_rfl
  refine cal_determine_Sets (by simp) 100000 fun Q hQ => ?_
  simp (disch := first | with_reducible assumption | omega) only [push_cast, x_blk, x_cd, ↓reduceIte, Nat.reduceEqDiff, List.map_cons, List.map_nil, Int.reduceEq, Int.lt_irrefl, F_determine_Sets]
  refine blk_of (box_agg _ (setCells (wordsOf first))) ?_
  intro w1 k1 b1 z1
  simp (disch := first | with_reducible assumption | omega) only [push_cast, x_blk, x_cd, ↓reduceIte, Nat.reduceEqDiff, List.map_cons, List.map_nil, Int.reduceEq, Int.lt_irrefl, e_makeMap]
  refine map_made (k := 64) _ ?_
  intro w2 m2 b2 z2
  have k2 := k1.below b2 (by omega)
  have b2 := b1.trans (b2.mono b1.size)
  simp (disch := first | with_reducible assumption | omega) only [push_cast, x_blk, x_cd, ↓reduceIte, Nat.reduceEqDiff, List.map_cons, List.map_nil, Int.reduceEq, Int.lt_irrefl, e_insert, k2.ldAll ty_ag_64 (by rw [setCells_4]; exact ty_sz_64)]
  refine map_new keyed_set hmt m2 (key_set _) (by simp) _ ?_
  intro w3 m3 g3 z3
  have k3 := k2.grown g3.by_ (by simp; omega)
  have b3 := g3.below b2 b2.size (by intro a ha; injection ha with ha; subst ha; show w.heap.size ≤ w1.heap.size; omega)
  simp (disch := first | with_reducible assumption | omega) only [push_cast, x_blk, x_cd, ↓reduceIte, Nat.reduceEqDiff, List.map_cons, List.map_nil, Int.reduceEq, Int.lt_irrefl, k3.ldAll ty_ag_64 (by rw [setCells_4]; exact ty_sz_64), bs_rec setEnc slT_125 _ (by decide)]
  have o4 := own_rec setEnc w3 first 64
  have b4 : Below w3.heap.size w3 (w3.alloc (.cells (setC first).toArray 64)) := (Below.refl _ _).alloc (Nat.le_refl _) _
  generalize w3.alloc (.cells (setC first).toArray 64) = w4 at *
  have m4 := m3.below b4 m3.lt
  have z3' := b3.size
  replace b4 := b3.trans (b4.mono b3.size)
  replace o4 := o4.base (B' := w.heap.size) z3'
  refine loop_rule (fun f w' => ∃ (k : Nat) (L : List (List Int)) (A : Option Addr) (c : Nat) (ar : List Arr) (A2 : Option Addr) (c2 : Nat), k ≤ L.length ∧
      (f 1 = .int .i64 n ∧ f 2 = .func (.func g) #[] cap ∧ f 9 = .map (some w1.heap.size) ∧ f 10 = .slice A L.length c ∧ f 11 = .slice A2 ar.length c2 ∧ f 12 = .int .i64 k) ∧
      L = (bIter step (evs n) first k).map (·.1) ∧ L.length ≤ 256 ∧ Arrows step (evs n) k 0 L ar ∧
      OwnR setC w.heap.size 64 4 w' A c L ∧ OwnR arrCells w.heap.size 91 3 w' A2 c2 ar ∧ MapIs Tryd.prog 64 w' w1.heap.size (kvOf L) ∧ Below w.heap.size w w')
    (fun f _ => 257 - (intOf (f 12)).toNat) ⟨0, [first], _, 1, [], none, 0, by simp, ⟨rfl, rfl, rfl, rfl, rfl, rfl⟩, rfl, by simp, ⟨rfl, by simp⟩, o4, Own.nil _ _ _ _, m4, b4⟩ ?_
  clear o4 m4 b4 k3 m3 b3 g3 k2 m2 b2 k1 b1
  rintro f w5 ⟨k, L, A, c, ar, A2, c2, hk, fr, hL, hL2, har, ho, hoa, hm, b5⟩ J hJ
  have hmu : (intOf (f 12)).toNat = k := by rw [fr.2.2.2.2.2]; simp [intOf]
  have hlb : L.length = (bIter step (evs n) first k).length := by rw [hL, List.length_map]
  by_cases hlt : k < L.length
  case neg =>
    have hke : k = L.length := by omega
    simp (disch := first | with_reducible assumption | omega) only [push_cast, x_blk, x_cd, ↓reduceIte, Nat.reduceEqDiff, List.map_cons, List.map_nil, Int.reduceEq, Int.lt_irrefl, L_determine_Sets_1, fr, hlt]
    exact fin_3 (hQ _ _ ⟨A, c, L, A2, c2, ar, true, (by simp only [push_cast, ↓reduceIte, Nat.reduceEqDiff, Int.reduceEq]), ho, hoa, b5, .inl ⟨rfl, k, by omega, by omega, hL, har⟩⟩)
  have hpk : (bIter step (evs n) first k)[k]? = some ((bIter step (evs n) first k)[k]'(by omega)) := List.getElem?_eq_getElem _
  generalize (bIter step (evs n) first k)[k]'(by omega) = q at hpk
  have hUq : U1 q.1 := (bIter_good (step := step) (es := evs n) hU h0 k).univ q (List.mem_of_getElem? hpk)
  simp (disch := first | with_reducible assumption | omega) only [push_cast, x_blk, x_cd, ↓reduceIte, Nat.reduceEqDiff, List.map_cons, List.map_nil, Int.reduceEq, Int.lt_irrefl, L_determine_Sets_1, fr, hlt]
  refine loop_rule (fun f' w' => ∃ (j : Nat) (L : List (List Int)) (A : Option Addr) (c : Nat) (ar : List Arr) (A2 : Option Addr) (c2 : Nat), j ≤ n ∧
      (f' 1 = .int .i64 n ∧ f' 2 = .func (.func g) #[] cap ∧ f' 9 = .map (some w1.heap.size) ∧ f' 10 = .slice A L.length c ∧ f' 11 = .slice A2 ar.length c2 ∧ f' 12 = .int .i64 k ∧ f' 28 = .int .i64 n ∧ f' 29 = .int .i64 j) ∧
      L = (bPart step (evs n) first k j).map (·.1) ∧ L.length ≤ 256 + j ∧ Arrows step (evs n) k j L ar ∧
      OwnR setC w.heap.size 64 4 w' A c L ∧ OwnR arrCells w.heap.size 91 3 w' A2 c2 ar ∧ MapIs Tryd.prog 64 w' w1.heap.size (kvOf L) ∧ Below w.heap.size w w')
    (fun f' _ => n - (intOf (f' 29)).toNat) ⟨0, L, A, c, ar, A2, c2, Nat.zero_le _, (by simp only [push_cast, ↓reduceIte, Nat.reduceEqDiff, true_and, and_true, and_self, eq_self, fr]), hL, by omega, har, ho, hoa, hm, b5⟩ ?_
  have hpre := bPart_prefix (step := step) (es := evs n) first k
  clear hm ho hoa har hlt hk b5
  have hk256 : k ≤ 256 := by
    rcases Nat.lt_or_ge k (bIter step (evs n) first k).length with c | c
    · omega
    · rw [List.getElem?_eq_none c] at hpk; cases hpk
  have hkl0 : k < (bIter step (evs n) first k).length := by
    rcases Nat.lt_or_ge k (bIter step (evs n) first k).length with c | c
    · exact c
    · rw [List.getElem?_eq_none c] at hpk; cases hpk
  clear hL hL2 hlb fr
  rintro f w5 ⟨j, L, A, c, ar, A2, c2, hj, fr, hL, hL2, har, ho, hoa, hm, b5⟩ J2 hJ2
  have hel := evs_len n
  have hal := har.len (by omega)
  have hkn : k * (evs n).length ≤ 256 * 8 := Nat.mul_le_mul hk256 (by omega)
  have hq2 : (bPart step (evs n) first k j)[k]? = some q := by rw [prefix_getElem? (hpre j) hkl0]; exact hpk
  have hlb : L.length = (bPart step (evs n) first k j).length := by rw [hL, List.length_map]
  have hlt : k < L.length := by have := (hpre j).length_le; omega
  by_cases hjt : j < n
  case neg =>
    obtain rfl : j = n := by omega
    have hall := bPart_all (step := step) (es := evs j) first k
    rw [hel] at hall
    rw [hall] at hL hlb
    have har' : Arrows step (evs j) (k + 1) 0 L ar := ⟨by rw [← prs_all, hel]; exact har.1, har.2⟩
    by_cases hbig : (256 : Int) < (L.length : Int)
    · simp (disch := first | with_reducible assumption | omega) only [push_cast, x_blk, x_cd, ↓reduceIte, Nat.reduceEqDiff, List.map_cons, List.map_nil, Int.reduceEq, Int.lt_irrefl, L_determine_Sets_0, fr, Nat.lt_irrefl, hbig]
      exact fin_3 (hQ _ _ ⟨none, 0, [], none, 0, [], false, (by simp only [push_cast, ↓reduceIte, Nat.reduceEqDiff, Int.reduceEq, List.length_nil]), Own.nil _ _ _ _, Own.nil _ _ _ _, b5, .inr ⟨rfl, rfl, rfl, k + 1, by omega⟩⟩)
    · simp (disch := first | with_reducible assumption | omega) only [push_cast, x_blk, x_cd, ↓reduceIte, Nat.reduceEqDiff, List.map_cons, List.map_nil, Int.reduceEq, Int.lt_irrefl, L_determine_Sets_0, fr, Nat.lt_irrefl, hbig]
      exact hJ _ _ ⟨k + 1, L, A, c, ar, A2, c2, by omega, (by simp only [push_cast, ↓reduceIte, Nat.reduceEqDiff, true_and, and_true, and_self, eq_self, fr]), hL, by omega, har', ho, hoa, hm, b5⟩ (by rw [hmu]; simp only [push_cast, ↓reduceIte, Nat.reduceEqDiff, intOf, fr]; omega)
  have hLk : L[k]? = some q.1 := by rw [hL, List.getElem?_map, hq2]; rfl
  have hA := ho.isSome (by omega)
  have hR := Recs.lt setEnc (by decide) (OwnR.recs ho setEnc (by decide))
  have hldp := fun {K : Fr → World → Prop} {f : Fr} {d : Option Nat} {w' : World} => Recs.ldAll (P := Tryd.prog) (K := K) (f := f) (d := d) (w := w') hR setEnc ty_ag_64 hLk ty_sz_64
  simp (disch := first | with_reducible assumption | omega) only [push_cast, x_blk, x_cd, ↓reduceIte, Nat.reduceEqDiff, List.map_cons, List.map_nil, Int.reduceEq, Int.lt_irrefl, L_determine_Sets_0, fr, hjt, hlt, hldp]
  refine call_of (hstep w5 b5 q.1 hUq j (by omega) (by omega)) ?_
  rintro v w6 ⟨rfl, b56⟩
  have ho6 := ho.below b56 (Nat.le_refl _)
  have hoa6 := hoa.below b56 (Nat.le_refl _)
  have hm6 := hm.below b56 hm.lt
  have b6 := b5.trans (b56.mono b5.size)
  have hUs : U1 (step q.1 j) := hU _ hUq _ (evs_mem.2 ⟨by omega, by omega⟩)
  have hej := evs_at n j hjt
  generalize hs : step q.1 j = s at *
  simp (disch := first | with_reducible assumption | omega) only [push_cast, x_blk, x_cd, ↓reduceIte, Nat.reduceEqDiff, List.map_cons, List.map_nil, Int.reduceEq, Int.lt_irrefl, fr]
  refine blk_of (cs := setCells (wordsOf [])) al_64 ?_
  intro w7 k7 b7 z7
  have ho7 := ho6.below b7 (Nat.le_refl _)
  have hoa7 := hoa6.below b7 (Nat.le_refl _)
  have hm7 := hm6.below b7 hm6.lt
  have z6 := b6.size
  have b7 := b6.trans (b7.mono b6.size)
  have hfr8 : ∀ a, A = some a → a.block < w6.heap.size := fun a ha => by
    have := ho6.block (A := A) hA
    subst ha
    exact this.2
  simp (disch := first | with_reducible assumption | omega) only [push_cast, x_blk, x_cd, ↓reduceIte, Nat.reduceEqDiff, List.map_cons, List.map_nil, Int.reduceEq, Int.lt_irrefl]
  refine sto_blk k7 (cs := setCells (wordsOf s)) (by rw [setCells_4]; exact ty_sz_64) (by rw [setCells_4, setCells_4]) (setCells_one _) ?_
  intro w8 k8 g8 z8
  have ho8 := ho7.grew g8 (.inr (by
    intro e
    cases A with
    | none => cases hA
    | some a => injection e with e; have := hfr8 a rfl; simp at e; omega))
  have hoa8 := hoa7.grew g8 (.inr (hoa7.ne_blk k7 (by decide)))
  have hm8 := hm7.grown g8.by_ (by have := hm6.lt; simp; omega)
  have b8 := g8.below b7 b7.size (by intro a ha; injection ha with ha; subst ha; exact z6)
  have hl8 := fun {K : Fr → World → Prop} {f : Fr} {d : Option Nat} {w' : World} => Blk.ldAll (P := Tryd.prog) (K := K) (f := f) (d := d) (w := w') k8 ty_ag_64 (by rw [setCells_4]; exact ty_sz_64)
  simp (disch := first | with_reducible assumption | omega) only [push_cast, x_blk, x_cd, ↓reduceIte, Nat.reduceEqDiff, List.map_cons, List.map_nil, Int.reduceEq, Int.lt_irrefl, fr, hl8, v_lookup]
  have hsucc := bPart_succ step (evs n) first k j (by rw [evs_len]; exact hjt)
  rw [hej] at hsucc
  have hgoodj := bPart_good (step := step) (es := evs n) hU h0 k j
  have hadd : ∀ {i : Nat} {L' : List (List Int)}, Arrows step (evs n) k j L' ar → L'[k]? = some q.1 → L'[i]? = some s → Arrows step (evs n) k (j + 1) L' (ar ++ [⟨k, j, i⟩]) := fun {i L'} h1 h2 h3 => by
    have := h1.add (i := i) (by omega) h2 (by rw [hej, hs]; exact h3)
    rwa [hej] at this
  refine map_look keyed_set hmt hzi true hm8 (key_set _) (fun v hv => ?_) fun hno => ?_
  · obtain ⟨i, t, hit, hte⟩ := kvOf_mem hv
    injection hte with hte hvi
    subst hvi
    have hti : t ∈ L := List.mem_of_getElem? hit
    have htU : U1 t := by
      rw [hL] at hti
      obtain ⟨r, hr, rfl⟩ := List.mem_map.1 hti
      exact hgoodj.univ r hr
    obtain rfl := setV_inj htU hUs hte.symm
    rw [bAdd_old hq2 (by rw [hs, ← hL]; exact hti)] at hsucc
    have hoL := ho8
    have hoA := hoa8
    have mN := hm8
    have bN := b8
    simp (disch := first | with_reducible assumption | omega) only [push_cast, x_blk, x_cd, ↓reduceIte, Nat.reduceEqDiff, List.map_cons, List.map_nil, Int.reduceEq, Int.lt_irrefl, fr, bl_arrow, bs_rec arrEnc slT_23 _ (by decide)]
    refine app_rec arrEnc slT_23 hoA (⟨(k : Int), (j : Int), (i : Int)⟩ : Arr) (by omega) (by omega) bN.size ?_
    intro A2' c2' w12 hoA' hg12 hA12 hs12 hz12
    have hoL' := hoL.grew hg12 (Own.apart hoL hoA (by decide))
    have mE := mN.grown hg12.by_ (mN.ne_own hoA)
    have bE := hg12.below bN bN.size hoA.geB
    simp (disch := first | with_reducible assumption | omega) only [push_cast, x_blk, x_cd, ↓reduceIte, Nat.reduceEqDiff, List.map_cons, List.map_nil, Int.reduceEq, Int.lt_irrefl, fr]
    exact hJ2 _ _ ⟨j + 1, L, A, c, ar ++ [⟨k, j, i⟩], A2', c2', hjt, (by simp only [push_cast, ↓reduceIte, Nat.reduceEqDiff, true_and, and_true, and_self, eq_self, fr, List.length_append, List.length_cons, List.length_nil]), by rw [hsucc]; exact hL, by omega, hadd har hLk hit, hoL', hoA', mE, bE⟩ (by simp only [push_cast, ↓reduceIte, Nat.reduceEqDiff, intOf, fr]; omega)
  · have hnin : s ∉ L := fun hin => by
      obtain ⟨i, hi⟩ := List.mem_iff_getElem?.1 hin
      exact hno _ (kvOf_has hi) rfl
    rw [bAdd_new hq2 (by rw [hs, ← hL]; exact hnin), hs] at hsucc
    simp (disch := first | with_reducible assumption | omega) only [push_cast, x_blk, x_cd, ↓reduceIte, Nat.reduceEqDiff, List.map_cons, List.map_nil, Int.reduceEq, Int.lt_irrefl, fr, hl8, e_mapUpdate]
    refine map_new keyed_set hmt hm8 (key_set _) hno _ ?_
    intro w9 m9 g9 z9
    have ho9 := ho8.grew g9 (.inr fun e => hm8.ne_own ho8 e.symm)
    have hoa9 := hoa8.grew g9 (.inr fun e => hm8.ne_own hoa8 e.symm)
    have k9 := k8.grown g9.by_ (by have := hm6.lt; simp; omega)
    have b9 := g9.below b8 b8.size (by intro a ha; injection ha with ha; subst ha; show w.heap.size ≤ w1.heap.size; omega)
    have hl9 := fun {K : Fr → World → Prop} {f : Fr} {d : Option Nat} {w' : World} => Blk.ldAll (P := Tryd.prog) (K := K) (f := f) (d := d) (w := w') k9 ty_ag_64 (by rw [setCells_4]; exact ty_sz_64)
    simp (disch := first | with_reducible assumption | omega) only [push_cast, x_blk, x_cd, ↓reduceIte, Nat.reduceEqDiff, List.map_cons, List.map_nil, Int.reduceEq, Int.lt_irrefl, fr, hl9, bs_rec setEnc slT_125 _ (by decide)]
    refine app_rec setEnc slT_125 ho9 s (by omega) (by omega) b9.size ?_
    intro A' c' w10 hoL hg10 hA10 hs10 hz10
    have hoA := hoa9.grew hg10 (Own.apart hoa9 ho9 (by decide))
    have mN := m9.grown hg10.by_ (m9.ne_own ho9)
    have bN := hg10.below b9 b9.size ho9.geB
    rw [← kvOf_snoc] at mN
    simp (disch := first | with_reducible assumption | omega) only [push_cast, x_blk, x_cd, ↓reduceIte, Nat.reduceEqDiff, List.map_cons, List.map_nil, Int.reduceEq, Int.lt_irrefl, fr, bl_arrow, bs_rec arrEnc slT_23 _ (by decide)]
    refine app_rec arrEnc slT_23 hoA (⟨(k : Int), (j : Int), (L.length : Int)⟩ : Arr) (by omega) (by omega) bN.size ?_
    intro A2' c2' w12 hoA' hg12 hA12 hs12 hz12
    have hoL' := hoL.grew hg12 (Own.apart hoL hoA (by decide))
    have mE := mN.grown hg12.by_ (mN.ne_own hoA)
    have bE := hg12.below bN bN.size hoA.geB
    simp (disch := first | with_reducible assumption | omega) only [push_cast, x_blk, x_cd, ↓reduceIte, Nat.reduceEqDiff, List.map_cons, List.map_nil, Int.reduceEq, Int.lt_irrefl, fr]
    exact hJ2 _ _ ⟨j + 1, L ++ [s], A', c', ar ++ [⟨k, j, L.length⟩], A2', c2', hjt, (by simp only [push_cast, ↓reduceIte, Nat.reduceEqDiff, true_and, and_true, and_self, eq_self, fr, List.length_append, List.length_cons, List.length_nil]), by rw [hsucc, List.map_append, hL]; rfl, by simp; omega, hadd (har.more s) (by rw [List.getElem?_append_left hlt]; exact hLk) (by simp), hoL', hoA', mE, bE⟩ (by simp only [push_cast, ↓reduceIte, Nat.reduceEqDiff, intOf, fr]; omega)
end

section
open Go.RowKit

theorem Arrs.of_recs {ok : Nat → Prop} {w : World} {A : Option Addr} {l : List Arr} (h : Recs arrCells 3 ok w A l) : Arrs ok w A l :=
  ⟨h.isSome, h.block, fun i hi j hj => by
    have hl : l[i]? = some (l.getD i default) := by simp [List.getD_eq_getElem?_getD, hi]
    refine h.cell i _ hl j _ ?_
    match j, hj with
    | 0, _ => rfl
    | 1, _ => rfl
    | 2, _ => rfl⟩
theorem fin_c3 {P : Program} {Rc : Value → World → Prop} {a t t' g s r : Nat} {cs : List Value} {f : Fr} {w : World} (hk : Blk w g t' cs) (ht : tyAgg P t = some true) (hs : tySize P t = some cs.length)
    (hf : f a = .pointer (some ⟨g, 0, none⟩)) (h : Rc (.tuple #[.agg cs.toArray, f s, f r]) w) : FinX P #[.cell a t, .tmp s, .tmp r] Rc f w := by
  refine ⟨_, fun fn tmps hr hf' => ?_, h⟩
  have e : tmps.getD a undef = .pointer (some ⟨g, 0, none⟩) := by rw [hf', hf]
  have e2 : tmps[a]?.getD undef = .pointer (some ⟨g, 0, none⟩) := by simpa using e
  have e3 : tmps[s]?.getD undef = f s := by simpa using hf' s
  have e4 : tmps[r]?.getD undef = f r := by simpa using hf' r
  unfold tyAgg at ht
  unfold tySize at hs
  cases hu : P.underlying t with
  | none => simp [hu] at ht
  | some de =>
    cases hi : P.info? t with
    | none => simp [hi] at hs
    | some ie =>
      simp only [hi, Option.map_some, Option.some.injEq] at hs
      simp only [hu, Option.map_some, Option.some.injEq] at ht
      have hr' := run_loadCells_list (P := P) w ⟨g, 0, none⟩ cs (fun j v hv => by rw [addr_add, Nat.zero_add, hk.cell, hv])
      cases de <;> simp at ht <;> simp [results, hr, e2, e3, e4, asAddr, loadVar, isAgg, run_underlying hu, sizeOf, typeInfo, hi, hs, hr']

theorem determine_Make_1 {w : World} {a : MV} {m : Mach} {g : Nat} (hg : Blk w g 25 (a.cells m)) (h : IsM (· < w.heap.size) w a m) (hm : m.May) (s : List Int) (e : Int) :
    Cal Tryd.prog 95 [setV s, .int .i64 e, .pointer (some ⟨g, 0, none⟩)] w fun v w' => v = setV (stepL m s e) ∧ Below w.heap.size w w' := by
  have e4 : ∀ l : List Int, tySize Tryd.prog 64 = some (setCells (wordsOf l)).length := fun l => by rw [setCells_4]; exact ty_sz_64
  refine cal_determine_Make_1 (by simp) 100000 fun Q hQ => ?_
  simp (disch := first | with_reducible assumption | omega) only [push_cast, x_blk, x_cd, ↓reduceIte, Nat.reduceEqDiff, List.map_cons, List.map_nil, Int.reduceEq, Int.lt_irrefl, F_determine_Make_1]
  refine blk_of (box_agg _ (setCells (wordsOf s))) ?_
  intro w1 k1 b1 z1
  simp (disch := first | with_reducible assumption | omega) only [push_cast, x_blk, x_cd, ↓reduceIte, Nat.reduceEqDiff, List.map_cons, List.map_nil, Int.reduceEq, Int.lt_irrefl]
  refine blk_of (cs := setCells (wordsOf [])) al_64 ?_
  intro w2 k2 b2 z2
  have k1 := k1.below b2 k1.lt
  have bb := b1.trans (b2.mono b1.size)
  have kg := hg.below bb hg.lt
  simp (disch := first | with_reducible assumption | omega) only [push_cast, x_blk, x_cd, ↓reduceIte, Nat.reduceEqDiff, List.map_cons, List.map_nil, Int.reduceEq, Int.lt_irrefl, kg.mA ty_ag_25 ty_sz_25, k1.ldAll ty_ag_64 (e4 s)]
  refine call_of (machine_Step ((h.below bb).mono fun b hb => by have := bb.size; omega) hm s e) ?_
  rintro v w3 ⟨rfl, b3⟩
  have k2 := k2.below b3 k2.lt
  have bb := bb.trans (b3.mono bb.size)
  simp (disch := first | with_reducible assumption | omega) only [push_cast, x_blk, x_cd, ↓reduceIte, Nat.reduceEqDiff, List.map_cons, List.map_nil, Int.reduceEq, Int.lt_irrefl]
  refine sto_blk k2 (cs := setCells (wordsOf (stepL m s e))) (e4 _) (by rw [setCells_4, setCells_4]) (setCells_one _) ?_
  intro w4 k4 g4 z4
  simp (disch := first | with_reducible assumption | omega) only [push_cast, x_blk, x_cd, ↓reduceIte, Nat.reduceEqDiff, List.map_cons, List.map_nil, Int.reduceEq, Int.lt_irrefl]
  exact fin_cell k4 ty_ag_64 (e4 _) (by simp only [push_cast, ↓reduceIte, Nat.reduceEqDiff, Int.reduceEq]) (hQ _ _ ⟨rfl, g4.below bb bb.size (by intro a ha; injection ha with ha; subst ha; simp; omega)⟩)

theorem Own.cap {B e sz c n : Nat} {w : World} {A : Option Addr} {xs : List Value} (h : Own B e sz w A c n xs) : n ≤ c := by
  rcases h.own.2 with ⟨h0, _⟩ | ⟨g, cap, cur, hv, _, _, hnc, _⟩
  · injection h0 with _ h1 h2; omega
  · injection hv with _ _ h2; omega
theorem Own.ltB {B e sz c n : Nat} {w : World} {A : Option Addr} {xs : List Value} (h : Own B e sz w A c n xs) {b : Nat} (hb : some b = A.map (·.block)) : b < w.heap.size := by
  rcases h.form with ⟨h0, _⟩ | ⟨g, h0, _, hg⟩
  · subst h0; cases hb
  · subst h0; injection hb with hb; subst hb; exact hg
structure Hd where
  A : Option Addr
  c : Nat
  l : List Int
def Hd.cells (h : Hd) : List Value := [.slice h.A h.l.length h.c]
theorem hdEnc : Enc Hd.cells 1 := ⟨fun _ => rfl, fun h u hu => by
  unfold Hd.cells at hu
  rw [List.mem_singleton.1 hu]; rfl⟩
/-- Where a row may lie: not in what is written to. -/
structure Apt (lo : Nat) (w : World) (g : Nat) (X Y : Option Nat) (b : Nat) : Prop where
  lo : lo < b
  lt : b < w.heap.size
  g : b ≠ g
  x : some b ≠ X
  y : some b ≠ Y
def RowsAt (ok : Nat → Prop) (w : World) (hs : List Hd) : Prop := ∀ h ∈ hs, Ints ok w h.A h.l
theorem RowsAt.keep {ok ok' : Nat → Prop} {w w' : World} {hs : List Hd} (h : RowsAt ok w hs) (hk : ∀ b, ok b → w'.heap[b]? = w.heap[b]? ∧ ok' b) : RowsAt ok' w' hs := fun x hx => ((h x hx).keep fun b hb => (hk b hb).1).mono fun b hb => (hk b hb).2
theorem RowsAt.below {lo : Nat} {w w' : World} {g : Nat} {X Y : Option Nat} {hs : List Hd} (h : RowsAt (Apt lo w g X Y) w hs) (hb : Below w.heap.size w w') : RowsAt (Apt lo w' g X Y) w' hs :=
  h.keep fun b hb' => ⟨hb.block b hb'.lt, hb'.lo, Nat.lt_of_lt_of_le hb'.lt hb.size, hb'.g, hb'.x, hb'.y⟩
theorem RowsAt.grewG {lo : Nat} {w w' : World} {g : Nat} {X Y : Option Nat} {hs : List Hd} (h : RowsAt (Apt lo w g X Y) w hs) {i : Nat} (hg : Grew w w' (some ⟨g, i, none⟩)) : RowsAt (Apt lo w' g X Y) w' hs :=
  h.keep fun b hb' => ⟨hg.by_.block b hb'.lt (by simpa using hb'.g), hb'.lo, Nat.lt_of_lt_of_le hb'.lt hg.by_.size, hb'.g, hb'.x, hb'.y⟩
theorem RowsAt.grewX {lo : Nat} {w w' : World} {g : Nat} {A A' : Option Addr} {Y : Option Nat} {hs : List Hd} (h : RowsAt (Apt lo w g (A.map (·.block)) Y) w hs) (hg : Grew w w' A) (hA : A'.map (·.block) = A.map (·.block) ∨ ∃ g', A'.map (·.block) = some g' ∧ w.heap.size ≤ g') :
    RowsAt (Apt lo w' g (A'.map (·.block)) Y) w' hs :=
  h.keep fun b hb' => ⟨hg.by_.block b hb'.lt hb'.x, hb'.lo, Nat.lt_of_lt_of_le hb'.lt hg.by_.size, hb'.g, by
    rcases hA with e | ⟨g', e, he⟩
    · rw [e]; exact hb'.x
    · rw [e]; intro hh; injection hh with hh; have := hb'.lt; omega, hb'.y⟩
theorem RowsAt.grewY {lo : Nat} {w w' : World} {g : Nat} {A A' : Option Addr} {X : Option Nat} {hs : List Hd} (h : RowsAt (Apt lo w g X (A.map (·.block))) w hs) (hg : Grew w w' A) (hA : A'.map (·.block) = A.map (·.block) ∨ ∃ g', A'.map (·.block) = some g' ∧ w.heap.size ≤ g') :
    RowsAt (Apt lo w' g X (A'.map (·.block))) w' hs :=
  h.keep fun b hb' => ⟨hg.by_.block b hb'.lt hb'.y, hb'.lo, Nat.lt_of_lt_of_le hb'.lt hg.by_.size, hb'.g, hb'.x, by
    rcases hA with e | ⟨g', e, he⟩
    · rw [e]; exact hb'.y
    · rw [e]; intro hh; injection hh with hh; have := hb'.lt; omega⟩
theorem RowsAt.lt {lo : Nat} {w : World} {g : Nat} {X Y : Option Nat} {hs : List Hd} (h : RowsAt (Apt lo w g X Y) w hs) : RowsAt (· < w.heap.size) w hs := fun x hx => (h x hx).mono fun _ hb => hb.lt

theorem Ints.both {ok ok' : Nat → Prop} {w : World} {A : Option Addr} {l : List Int} (h : Ints ok w A l) (h' : Ints ok' w A l) : Ints (fun b => ok b ∧ ok' b) w A l := ⟨h.isSome, fun hl => ⟨h.block hl, h'.block hl⟩, h.cell⟩
theorem Recs.both {α : Type} {enc : α → List Value} {sz : Nat} {ok ok' : Nat → Prop} {w : World} {A : Option Addr} {l : List α} (h : Recs enc sz ok w A l) (h' : Recs enc sz ok' w A l) : Recs enc sz (fun b => ok b ∧ ok' b) w A l := ⟨h.isSome, fun hl => ⟨h.block hl, h'.block hl⟩, h.cell⟩
theorem Arrs.keep' {ok ok' : Nat → Prop} {w w' : World} {A : Option Addr} {l : List Arr} (h : Arrs ok w A l) (hk : ∀ b, ok b → w'.heap[b]? = w.heap[b]? ∧ ok' b) : Arrs ok' w' A l := (h.keep fun b hb => (hk b hb).1).mono fun b hb => (hk b hb).2
theorem Ints.keep' {ok ok' : Nat → Prop} {w w' : World} {A : Option Addr} {l : List Int} (h : Ints ok w A l) (hk : ∀ b, ok b → w'.heap[b]? = w.heap[b]? ∧ ok' b) : Ints ok' w' A l := (h.keep fun b hb => (hk b hb).1).mono fun b hb => (hk b hb).2
theorem Recs.keep' {α : Type} {enc : α → List Value} {sz : Nat} {ok ok' : Nat → Prop} {w w' : World} {A : Option Addr} {l : List α} (h : Recs enc sz ok w A l) (hk : ∀ b, ok b → w'.heap[b]? = w.heap[b]? ∧ ok' b) : Recs enc sz ok' w' A l := (h.keep fun b hb => (hk b hb).1).mono fun b hb => (hk b hb).2
/-- one cell of a block: a slice -/
theorem sto_slice {P : Program} {K : Fr → World → Prop} {w : World} {f : Fr} {d : Option Nat} {g t ty : Nat} {cs : List Value} (hk : Blk w g t cs) (hty : tySize P ty = some 1) (j : Nat) (hj : j < cs.length) (A : Option Addr) (n c : Nat)
    (h : ∀ w', Blk w' g t (cs.set j (.slice A n c)) → Grew w w' (some ⟨g, 0, none⟩) → w'.heap.size = w.heap.size → K (updO f d undef) w') :
    Eff1 P K (do Instr.storeAt ty (.pointer (some ⟨g, j, none⟩)) (.slice A n c); pure undef) f d w := by
  have hc := hk.cell j
  have hf := hk.frozen j
  refine ⟨undef, w.setCell ⟨g, j, none⟩ (.slice A n c), ?_, h _ (hk.set j _) ⟨⟨rfl, rfl, rfl, by simp, fun _ hk' hne => Below.heap_setCell w _ _ _ (by simpa using hne)⟩⟩ (by simp)⟩
  unfold tySize at hty
  cases hi : P.info? ty with
  | none => simp [hi] at hty
  | some ie =>
    simp only [hi, Option.map_some, Option.some.injEq] at hty
    rw [List.getElem?_eq_getElem hj] at hc
    simp [Instr.storeAt, Instr.sureAddr, storeVar, sizeOf, typeInfo, hi, hty, Value.cells, storeCells, addr_add, run_store_slice, stored, hc, hf]

def mach0 : Mach := ⟨0, 0, [], [], []⟩
abbrev mv0 : MV := ⟨none, 0, none, 0, none, 0⟩
theorem mach0_built {K : Fr → World → Prop} {u : World} {f : Fr} {d : Option Nat} {w : World} : Val1 Tryd.prog K (Instr.build 25 #[]) u f d w = K (updO f d (.agg (mv0.cells mach0).toArray)) w := bld_of (by kernel_rfl)
theorem mach0_is (ok : Nat → Prop) (w : World) : IsM ok w mv0 mach0 := ⟨Ints.nil _ _ _, Arrs.nil _ _ _, Ints.nil _ _ _⟩
theorem blt_mach : builtPl Tryd.prog 25 = some ([(0, 1), (1, 1), (2, 1), (3, 1), (4, 1)], [.int .i64 0, .int .i64 0, .slice none 0 0, .slice none 0 0, .slice none 0 0]) := by kernel_rfl
theorem bl_mach4 {K : Fr → World → Prop} {u : World} {f : Fr} {d : Option Nat} {w : World} (x y : Int) (A : Option Addr) (n c : Nat) (A' : Option Addr) (n' c' : Nat) :
    Val1 Tryd.prog K (Instr.build 25 #[(0, .int .i64 x), (1, .int .i64 y), (2, .slice A n c), (3, .slice A' n' c')]) u f d w = K (updO f d (.agg [.int .i64 x, .int .i64 y, .slice A n c, .slice A' n' c', .slice none 0 0].toArray)) w := by
  refine bld_of ?_
  rw [built_of blt_mach]
  rw [fill_cons (off := 0) (size := 1) rfl rfl (by decide), fill_cons (off := 1) (size := 1) rfl rfl (by simp [putL, Value.cells]), fill_cons (off := 2) (size := 1) rfl rfl (by simp [putL, Value.cells]), fill_cons (off := 3) (size := 1) rfl rfl (by simp [putL, Value.cells]), fill_nil]
  simp [putL, Value.cells]

theorem sto_mach {K : Fr → World → Prop} {f : Fr} {d : Option Nat} {w : World} {g : Nat} {old : List Value} (hk : Blk w g 25 old) (ho : old.length = 5) (a : MV) (m : Mach)
    (h : ∀ w', Blk w' g 25 (a.cells m) → Grew w w' (some ⟨g, 0, none⟩) → w'.heap.size = w.heap.size → K (updO f d undef) w') :
    Eff1 Tryd.prog K (do Instr.storeAt 25 (.pointer (some ⟨g, 0, none⟩)) (a.val m); pure undef) f d w :=
  sto_blk hk ty_sz_25 ho rfl h

/-- The places of the sets that meet the ends. -/
def endsUpto (m : Mach) (L : List (List Int)) (k : Nat) : List Int := ((List.range k).filter fun i => decide (MeetL (L.getD i []) m.ends)).map fun (i : Nat) => (i : Int)
theorem endsUpto_succ (m : Mach) (L : List (List Int)) (k : Nat) : endsUpto m L (k + 1) = if MeetL (L.getD k []) m.ends then endsUpto m L k ++ [(k : Int)] else endsUpto m L k := by
  unfold endsUpto
  rw [List.range_succ, List.filter_append, List.map_append]
  by_cases h : MeetL (L.getD k []) m.ends
  · rw [if_pos h, List.filter_cons, if_pos (decide_eq_true h)]; rfl
  · rw [if_neg h, List.filter_cons, if_neg (by simpa using h)]; simp
theorem endsUpto_len (m : Mach) (L : List (List Int)) (k : Nat) : (endsUpto m L k).length ≤ k := by
  unfold endsUpto
  rw [List.length_map]
  exact Nat.le_trans (List.length_filter_le _ _) (by simp)
def detOf (m : Mach) (L : List (List Int)) (ar : List Arr) : Mach := ⟨L.length, m.events, [0], ar, endsUpto m L L.length⟩
def MakeSpec (m : Mach) (d : Mach) (rows : List (List Int)) (e : Int) : Prop :=
  (¬ m.May ∧ d = mach0 ∧ rows = [] ∧ e = 2) ∨
  (m.May ∧ (∃ ar, SetsRes (stepL m) (evs m.events.toNat) m.starts true rows ar ∧ d = detOf m rows ar) ∧ e = 0) ∨
  (m.May ∧ SetsRes (stepL m) (evs m.events.toNat) m.starts false [] [] ∧ d = mach0 ∧ rows = [] ∧ e = 1)
def MakeRes (m : Mach) (w : World) (v : Value) (w' : World) : Prop :=
  ∃ (d : MV) (dm : Mach) (R : Option Addr) (cr : Nat) (hs : List Hd) (e : Int), v = .tuple #[d.val dm, .slice R hs.length cr, .int .i64 e] ∧ IsM (· < w'.heap.size) w' d dm ∧
    Recs Hd.cells 1 (· < w'.heap.size) w' R hs ∧ RowsAt (· < w'.heap.size) w' hs ∧ Below w.heap.size w w' ∧ MakeSpec m dm (hs.map (·.l)) e

theorem determine_Make {w : World} {a : MV} {m : Mach} (ha : IsM (· < w.heap.size) w a m) (hf : m.Fits) (hT : Tab w) :
    Cal Tryd.prog 57 [a.val m] w (MakeRes m w) := by
  have e5 : ∀ (a : MV) (m : Mach), tySize Tryd.prog 25 = some (a.cells m).length := fun a m => ty_sz_25
  have e4 : ∀ l : List Int, tySize Tryd.prog 64 = some (setCells (wordsOf l)).length := fun l => by rw [setCells_4]; exact ty_sz_64
  refine cal_determine_Make (by simp) 100000 fun Q hQ => ?_
  simp (disch := first | with_reducible assumption | omega) only [push_cast, x_blk, x_cd, ↓reduceIte, Nat.reduceEqDiff, List.map_cons, List.map_nil, Int.reduceEq, Int.lt_irrefl, F_determine_Make]
  refine blk_of (box_agg _ (a.cells m)) ?_
  intro w1 k1 b1 z1
  simp (disch := first | with_reducible assumption | omega) only [push_cast, x_blk, x_cd, ↓reduceIte, Nat.reduceEqDiff, List.map_cons, List.map_nil, Int.reduceEq, Int.lt_irrefl]
  refine blk_of (cs := mv0.cells mach0) al_25 ?_
  intro w2 k2 b2 z2
  have k1 := k1.below b2 k1.lt
  have bb := b1.trans (b2.mono b1.size)
  have up : ∀ {w' : World} {c : MV} {mc : Mach}, IsM (· < w.heap.size) w c mc → Below w.heap.size w w' → IsM (· < w'.heap.size) w' c mc := fun {w' c mc} h hb => (h.below hb).mono fun b hl => Nat.lt_of_lt_of_le hl hb.size
  simp (disch := first | with_reducible assumption | omega) only [push_cast, x_blk, x_cd, ↓reduceIte, Nat.reduceEqDiff, List.map_cons, List.map_nil, Int.reduceEq, Int.lt_irrefl, k1.mA ty_ag_25 ty_sz_25]
  refine call_of (machine_May (up ha bb) hf) ?_
  rintro v w3 ⟨rfl, b3⟩
  replace k1 := k1.below b3 k1.lt
  replace k2 := k2.below b3 k2.lt
  replace bb := bb.trans (b3.mono bb.size)
  have z2' : w.heap.size ≤ w1.heap.size := by omega
  by_cases p1 : m.May
  case neg =>
    simp (disch := first | with_reducible assumption | omega) only [push_cast, x_blk, x_cd, ↓reduceIte, Nat.reduceEqDiff, List.map_cons, List.map_nil, Int.reduceEq, Int.lt_irrefl, p1, mach0_built]
    refine sto_blk k2 (cs := mv0.cells mach0) (e5 _ _) rfl (by rfl) ?_
    intro w4 k4 g4 z4
    simp (disch := first | with_reducible assumption | omega) only [push_cast, x_blk, x_cd, ↓reduceIte, Nat.reduceEqDiff, List.map_cons, List.map_nil, Int.reduceEq, Int.lt_irrefl]
    exact fin_c3 k4 ty_ag_25 (e5 _ _) (by simp only [push_cast, ↓reduceIte, Nat.reduceEqDiff, Int.reduceEq]) (hQ _ _ ⟨mv0, mach0, none, 0, [], 2, (by simp only [push_cast, ↓reduceIte, Nat.reduceEqDiff, Int.reduceEq, List.length_nil]), mach0_is _ _, Recs.nil _ _ _, fun x hx => absurd hx (by simp),
      g4.below bb bb.size (by intro a ha; injection ha with ha; subst ha; exact z2'), .inl ⟨p1, rfl, rfl, rfl⟩⟩)
  have ea : ((m.events.toNat : Nat) : Int) = m.events := by have := p1.2.2.1; omega
  have ne : m.events.toNat ≤ 8 := by have := p1.2.2.2.1; omega
  have rs : IsRow m.starts m.states := p1.2.2.2.2.2.1
  have re : IsRow m.ends m.states := p1.2.2.2.2.2.2.1
  have ls := hf.lenS
  have le := hf.lenE
  have a256 : m.states ≤ 256 := p1.2.1
  have hU0 : U1 m.starts := ⟨rs.strict, rs.small a256⟩
  have hUs : ∀ (s : List Int) (e : Int), U1 (stepL m s e) := fun s e => ⟨(stepL_row p1 _ _).strict, (stepL_row p1 _ _).small a256⟩
  have k1d := k1.drew
  have k2d := k2.drew
  generalize hu : w3.drew = u at *
  have s3 : Same w3 u := hu ▸ (Same.refl w3).drew
  have bu := bb.trans (s3.below _)
  have hau := up ha bu
  simp (disch := first | with_reducible assumption | omega) only [push_cast, x_blk, x_cd, ↓reduceIte, Nat.reduceEqDiff, List.map_cons, List.map_nil, Int.reduceEq, Int.lt_irrefl, p1, hu, k1d.m2 ty_ag_22, k1d.m1 ty_ag_3]
  refine call_of (machine_Of' hau.starts _ (by omega) (rs.small a256)) ?_
  rintro v w4 ⟨rfl, b4⟩
  simp (disch := first | with_reducible assumption | omega) only [push_cast, x_blk, x_cd, ↓reduceIte, Nat.reduceEqDiff, List.map_cons, List.map_nil, Int.reduceEq, Int.lt_irrefl]
  refine ⟨b4, ?_⟩
  have k1 := k1d.below b4 k1d.lt
  have k2 := k2d.below b4 k2d.lt
  have bb4 := bu.trans (b4.mono bu.size)
  rw [← ea]
  refine call_of (determine_Sets (step := stepL m) hU0 ne (fun s _ e _ => hUs s e)
    (fun w' hw s hs e h0 h1 => by
      exact determine_Make_1 (k1.below hw k1.lt) (up ha (bb4.trans (hw.mono bb4.size))) p1 s e)) ?_
  rintro v w5 ⟨A, c, L, A2, c2, ar, ok, rfl, hoL, hoA, b5, hres⟩
  have b45 := b4.trans (b5.mono b4.size)
  simp (disch := first | with_reducible assumption | omega) only [push_cast, x_blk, x_cd, ↓reduceIte, Nat.reduceEqDiff, List.map_cons, List.map_nil, Int.reduceEq, Int.lt_irrefl]
  refine ⟨b45, ?_⟩
  have k1 := k1.below b5 k1.lt
  have k2 := k2.below b5 k2.lt
  have bb5 := bb4.trans (b5.mono bb4.size)
  have z45 := b4.size
  have z5 := b5.size
  have zb := bb5.size
  have g1w : w.heap.size < u.heap.size := k1d.lt
  have g2w : w1.heap.size < u.heap.size := k2d.lt
  rcases hres with ⟨rfl, hres⟩ | ⟨rfl, rfl, rfl, hres⟩
  case inr =>
    simp (disch := first | with_reducible assumption | omega) only [push_cast, x_blk, x_cd, ↓reduceIte, Nat.reduceEqDiff, List.map_cons, List.map_nil, Int.reduceEq, Int.lt_irrefl, mach0_built]
    refine sto_blk k2 (cs := mv0.cells mach0) (e5 _ _) rfl (by rfl) ?_
    intro w6 k6 g6 z6
    simp (disch := first | with_reducible assumption | omega) only [push_cast, x_blk, x_cd, ↓reduceIte, Nat.reduceEqDiff, List.map_cons, List.map_nil, Int.reduceEq, Int.lt_irrefl]
    exact fin_c3 k6 ty_ag_25 (e5 _ _) (by simp only [push_cast, ↓reduceIte, Nat.reduceEqDiff, Int.reduceEq]) (hQ _ _ ⟨mv0, mach0, none, 0, [], 1, (by simp only [push_cast, ↓reduceIte, Nat.reduceEqDiff, Int.reduceEq, List.length_nil]), mach0_is _ _, Recs.nil _ _ _, fun x hx => absurd hx (by simp),
      g6.below bb5 bb5.size (by intro a ha; injection ha with ha; subst ha; exact z2'), .inr (.inr ⟨p1, .inr ⟨rfl, rfl, rfl, hres⟩, rfl, rfl, rfl⟩)⟩)
  have hres' : SetsRes (stepL m) (evs m.events.toNat) m.starts true L ar := .inl ⟨rfl, hres⟩
  obtain ⟨kk, hk1, hk2, hL, har⟩ := hres
  have hLl : L.length = kk := by rw [hL, List.length_map, hk2]
  have hel := evs_len m.events.toNat
  have hal := har.len (Nat.zero_le _)
  have hkn : kk * (evs m.events.toNat).length ≤ 256 * 8 := Nat.mul_le_mul hk1 (by omega)
  have hLU : ∀ s ∈ L, U1 s := fun s hs => by
    rw [hL] at hs
    obtain ⟨r, hr, rfl⟩ := List.mem_map.1 hs
    exact (bIter_good (step := stepL m) (es := evs m.events.toNat) (fun s _ e _ => hUs s e) hU0 kk).univ r hr
  have oS := own_int1 w5 0 3
  have bS : Below w5.heap.size w5 (w5.alloc (.cells [.int .i64 0].toArray 3)) := (Below.refl _ _).alloc (Nat.le_refl _) _
  have zS : (w5.alloc (.cells [.int .i64 0].toArray 3)).heap.size = w5.heap.size + 1 := by simp
  simp (disch := first | with_reducible assumption | omega) only [push_cast, x_blk, x_cd, ↓reduceIte, Nat.reduceEqDiff, List.map_cons, List.map_nil, Int.reduceEq, Int.lt_irrefl, k1.m1 ty_ag_3, bs_22]
  generalize w5.alloc (.cells [.int .i64 0].toArray 3) = w6 at *
  replace k1 := k1.below bS k1.lt
  replace k2 := k2.below bS k2.lt
  have bb6 := bb5.trans (bS.mono bb5.size)
  have hoL6 := hoL.below bS (Nat.le_refl _)
  have hoA6 := hoA.below bS (Nat.le_refl _)
  have hIS : Ints (· < w6.heap.size) w6 (some ⟨w5.heap.size, 0, none⟩) [0] := (OwnI.ints oS).lt
  have hIL := Recs.lt setEnc (by decide) (OwnR.recs hoL6 setEnc (by decide))
  have hIA := Arrs.of_recs (Recs.lt arrEnc (by decide) (OwnR.recs hoA6 arrEnc (by decide)))
  have kS : ∀ b, (w5.heap.size ≤ b ∧ (some (⟨w5.heap.size, 0, none⟩ : Addr)).map (·.block) = some b) ∧ b < w6.heap.size → w1.heap.size < b ∧ b < w6.heap.size := fun b hb => ⟨by omega, hb.2⟩
  have hIS : Ints (fun b => w1.heap.size < b ∧ b < w6.heap.size) w6 (some ⟨w5.heap.size, 0, none⟩) [0] := ((OwnI.ints oS).both (OwnI.ints oS).lt).mono kS
  have hIA : Arrs (fun b => w1.heap.size < b ∧ b < w6.heap.size) w6 A2 ar :=
    Arrs.of_recs (((OwnR.recs hoA6 arrEnc (by decide)).both (Recs.lt arrEnc (by decide) (OwnR.recs hoA6 arrEnc (by decide)))).mono fun b hb => ⟨by have := hb.1.1; omega, hb.2⟩)
  simp (disch := first | with_reducible assumption | omega) only [push_cast, x_blk, x_cd, ↓reduceIte, Nat.reduceEqDiff, List.map_cons, List.map_nil, Int.reduceEq, Int.lt_irrefl, k1.m1 ty_ag_3, bl_mach4]
  refine blk_of (cs := mv0.cells mach0) al_25 ?_
  intro w7 k7 b7 z7
  simp (disch := first | with_reducible assumption | omega) only [push_cast, x_blk, x_cd, ↓reduceIte, Nat.reduceEqDiff, List.map_cons, List.map_nil, Int.reduceEq, Int.lt_irrefl]
  refine sto_blk k7 (cs := MV.cells ⟨some ⟨w5.heap.size, 0, none⟩, 1, A2, c2, none, 0⟩ ⟨L.length, m.events, [0], ar, []⟩) (e5 _ _) rfl (by rfl) ?_
  intro w8 k8 g8 z8
  have b8 := g8.below b7 b7.size (by intro a ha; injection ha with ha; subst ha; exact Nat.le_refl _)
  have k1' := k1.below b8 k1.lt
  have bb8 := bb6.trans (b8.mono bb6.size)
  simp (disch := first | with_reducible assumption | omega) only [push_cast, x_blk, x_cd, ↓reduceIte, Nat.reduceEqDiff, List.map_cons, List.map_nil, Int.reduceEq, Int.lt_irrefl, k1'.m4 ty_ag_22]
  refine call_of (machine_Of' (up ha bb8).ends _ (by omega) (re.small a256)) ?_
  rintro v w9 ⟨rfl, b9⟩
  replace k8 := k8.below b9 k8.lt
  replace b8 := b8.trans (b9.mono b8.size)
  simp (disch := first | with_reducible assumption | omega) only [push_cast, x_blk, x_cd, ↓reduceIte, Nat.reduceEqDiff, List.map_cons, List.map_nil, Int.reduceEq, Int.lt_irrefl]
  refine blk_of (cs := setCells (wordsOf [])) al_64 ?_
  intro w10 k10 b10 z10
  replace k8 := k8.below b10 k8.lt
  have z69 := b8.size
  have g89 : w6.heap.size < w9.heap.size := by have := b9.size; omega
  replace b8 := b8.trans (b10.mono b8.size)
  simp (disch := first | with_reducible assumption | omega) only [push_cast, x_blk, x_cd, ↓reduceIte, Nat.reduceEqDiff, List.map_cons, List.map_nil, Int.reduceEq, Int.lt_irrefl]
  refine sto_blk k10 (cs := setCells (wordsOf m.ends)) (e4 _) (by rw [setCells_4, setCells_4]) (setCells_one _) ?_
  intro w11 k11 g11 z11
  replace k8 := k8.grown g11.by_ (by simp; omega)
  replace b8 := g11.below b8 b8.size (by intro a ha; injection ha with ha; subst ha; exact z69)
  simp (disch := first | with_reducible assumption | omega) only [push_cast, x_blk, x_cd, ↓reduceIte, Nat.reduceEqDiff, List.map_cons, List.map_nil, Int.reduceEq, Int.lt_irrefl]
  refine loop_rule (fun f w' => ∃ (k : Nat) (hs : List Hd) (R : Option Addr) (cr : Nat) (Ae : Option Addr) (ce : Nat), k ≤ L.length ∧
      (f 1 = .pointer (some ⟨w.heap.size, 0, none⟩) ∧ f 2 = .pointer (some ⟨w1.heap.size, 0, none⟩) ∧ f 8 = .pointer (some ⟨w6.heap.size, 0, none⟩) ∧ f 9 = .pointer (some ⟨w9.heap.size, 0, none⟩) ∧ f 10 = .slice R hs.length cr ∧
        f 41 = .slice A L.length c ∧ f 42 = .int .i64 (L.length : Int) ∧ f 43 = .int .i64 k) ∧ hs.map (·.l) = L.take k ∧
      Blk w' w6.heap.size 25 (MV.cells ⟨some ⟨w5.heap.size, 0, none⟩, 1, A2, c2, Ae, ce⟩ ⟨L.length, m.events, [0], ar, endsUpto m L k⟩) ∧ Blk w' w9.heap.size 64 (setCells (wordsOf m.ends)) ∧
      OwnR Hd.cells w6.heap.size 22 1 w' R cr hs ∧ OwnI w6.heap.size 3 w' Ae ce (endsUpto m L k) ∧ RowsAt (Apt w1.heap.size w' w6.heap.size (Ae.map (·.block)) (R.map (·.block))) w' hs ∧ Below w6.heap.size w6 w')
    (fun f _ => L.length - (intOf (f 43)).toNat) ⟨0, [], none, 0, none, 0, Nat.zero_le _, ⟨rfl, rfl, rfl, rfl, rfl, rfl, rfl, rfl⟩, rfl, k8, k11, Own.nil _ _ _ _, Own.nil _ _ _ _, fun x hx => absurd hx (by simp), b8⟩ ?_
  clear k8 k11 b8
  rintro f w12 ⟨k, hs, R, cr, Ae, ce, hk, fr, hhs, k8, k9, hoR, hoE, hro, b12⟩ J hJ
  have hlk : hs.length = k := by have := congrArg List.length hhs; rw [List.length_map, List.length_take] at this; omega
  have hle := endsUpto_len m L k
  have z12 := b12.size
  have bb12 := bb6.trans (b12.mono bb6.size)
  by_cases hlt : k < L.length
  case neg =>
    obtain rfl : k = L.length := by omega
    rw [List.take_length] at hhs
    have k2' := k2.below b12 k2.lt
    simp (disch := first | with_reducible assumption | omega) only [push_cast, x_blk, x_cd, ↓reduceIte, Nat.reduceEqDiff, List.map_cons, List.map_nil, Int.reduceEq, Int.lt_irrefl, L_determine_Make_0, fr, Int.lt_irrefl, Nat.lt_irrefl, k8.mA ty_ag_25 ty_sz_25]
    refine sto_blk k2' (cs := MV.cells ⟨some ⟨w5.heap.size, 0, none⟩, 1, A2, c2, Ae, ce⟩ ⟨L.length, m.events, [0], ar, endsUpto m L L.length⟩) (e5 _ _) rfl (by rfl) ?_
    intro w13 k13 g13 z13
    have kp : ∀ b, w1.heap.size < b ∧ b < w12.heap.size → w13.heap[b]? = w12.heap[b]? ∧ b < w13.heap.size := fun b hb => ⟨g13.by_.block b hb.2 (by simp; omega), by omega⟩
    have kp6 : ∀ b, w1.heap.size < b ∧ b < w6.heap.size → w12.heap[b]? = w6.heap[b]? ∧ (w1.heap.size < b ∧ b < w12.heap.size) := fun b hb => ⟨b12.block b hb.2, hb.1, by omega⟩
    have k6g : w1.heap.size < w6.heap.size := by omega
    simp (disch := first | with_reducible assumption | omega) only [push_cast, x_blk, x_cd, ↓reduceIte, Nat.reduceEqDiff, List.map_cons, List.map_nil, Int.reduceEq, Int.lt_irrefl, fr]
    refine fin_c3 k13 ty_ag_25 (e5 _ _) (by simp only [push_cast, ↓reduceIte, Nat.reduceEqDiff, Int.reduceEq, fr]) (hQ _ _ ⟨⟨some ⟨w5.heap.size, 0, none⟩, 1, A2, c2, Ae, ce⟩, ⟨L.length, m.events, [0], ar, endsUpto m L L.length⟩, R, cr, hs, 0, (by simp only [push_cast, ↓reduceIte, Nat.reduceEqDiff, Int.reduceEq, fr]),
      ⟨(hIS.keep' kp6).keep' kp, (hIA.keep' kp6).keep' kp, (((OwnI.ints hoE).both (OwnI.ints hoE).lt).mono fun b hb => (⟨by have := hb.1.1; omega, hb.2⟩ : w1.heap.size < b ∧ b < w12.heap.size)).keep' kp⟩,
      (((OwnR.recs hoR hdEnc (by decide)).both (Recs.lt hdEnc (by decide) (OwnR.recs hoR hdEnc (by decide)))).mono fun b hb => (⟨by have := hb.1.1; omega, hb.2⟩ : w1.heap.size < b ∧ b < w12.heap.size)).keep' kp,
      hro.keep fun b hb => kp b ⟨hb.lo, hb.lt⟩, g13.below bb12 bb12.size (by intro a ha; injection ha with ha; subst ha; exact z2'), .inr (.inl ⟨p1, ⟨ar, ?_, ?_⟩, rfl⟩)⟩)
    · rw [hhs]; exact hres'
    · rw [hhs]; rfl
  have hLk : L[k]? = some (L.getD k []) := by simp [List.getD_eq_getElem?_getD, hlt]
  have hsU := hLU _ (List.mem_of_getElem? hLk)
  have hsucc := endsUpto_succ m L k
  have htake : L.take (k + 1) = L.take k ++ [L.getD k []] := take_snoc L [] k hlt
  generalize L.getD k [] = s at *
  have hIL' := hIL.below b12
  have hA := hIL'.isSome (by omega)
  have hldp := fun {K : Fr → World → Prop} {f : Fr} {d : Option Nat} {w' : World} => Recs.ldAll (P := Tryd.prog) (K := K) (f := f) (d := d) (w := w') hIL' setEnc ty_ag_64 hLk ty_sz_64
  simp (disch := first | with_reducible assumption | omega) only [push_cast, x_blk, x_cd, ↓reduceIte, Nat.reduceEqDiff, List.map_cons, List.map_nil, Int.reduceEq, Int.lt_irrefl, L_determine_Make_0, fr, hlt, hldp]
  refine blk_of (cs := setCells (wordsOf [])) al_64 ?_
  intro w13 k13 b13 z13
  simp (disch := first | with_reducible assumption | omega) only [push_cast, x_blk, x_cd, ↓reduceIte, Nat.reduceEqDiff, List.map_cons, List.map_nil, Int.reduceEq, Int.lt_irrefl]
  refine sto_blk k13 (cs := setCells (wordsOf s)) (e4 _) (by rw [setCells_4, setCells_4]) (setCells_one _) ?_
  intro w14 k14 g14 z14
  have b14 := g14.below b13 b13.size (by intro a ha; injection ha with ha; subst ha; exact Nat.le_refl _)
  replace k8 := k8.below b14 k8.lt
  replace k9 := k9.below b14 k9.lt
  replace hoR := hoR.below b14 (Nat.le_refl _)
  replace hoE := hoE.below b14 (Nat.le_refl _)
  replace hro := hro.below b14
  replace b12 := b12.trans (Below.mono b14 b12.size)
  simp (disch := first | with_reducible assumption | omega) only [push_cast, x_blk, x_cd, ↓reduceIte, Nat.reduceEqDiff, List.map_cons, List.map_nil, Int.reduceEq, Int.lt_irrefl, fr, k14.ldAll ty_ag_64 (e4 s)]
  have bbt := bb6.trans (b12.mono bb6.size)
  refine call_of (set_Row' hsU.1 hsU.2 (hT.below bbt hT.lt)) ?_
  rintro v w15 ⟨RA, rc, rfl, hoS, b15⟩
  have ltE := fun {b : Nat} (hb : some b = Ae.map (·.block)) => hoE.ltB hb
  have ltR := fun {b : Nat} (hb : some b = R.map (·.block)) => hoR.ltB hb
  have z14' := b12.size
  have l8 := k8.lt
  replace k8 := k8.below b15 k8.lt
  replace k9 := k9.below b15 k9.lt
  replace hoR := hoR.below b15 (Nat.le_refl _)
  replace hoE := hoE.below b15 (Nat.le_refl _)
  replace hro := hro.below b15
  replace b12 := b12.trans (Below.mono b15 b12.size)
  replace k14 := k14.below b15 k14.lt
  have hro2 : RowsAt (Apt w1.heap.size w15 w6.heap.size (Ae.map (·.block)) (R.map (·.block))) w15 (hs ++ [⟨RA, rc, s⟩]) := fun x hx => by
    rcases List.mem_append.1 hx with hx | hx
    · exact hro x hx
    · rw [List.mem_singleton.1 hx]
      refine ((OwnI.ints hoS).both (OwnI.ints hoS).lt).mono fun b hb => ⟨by have := hb.1.1; omega, hb.2, by have := hb.1.1; omega, fun e => ?_, fun e => ?_⟩
      · have := ltE e; have := hb.1.1; omega
      · have := ltR e; have := hb.1.1; omega
  clear hro
  simp (disch := first | with_reducible assumption | omega) only [push_cast, x_blk, x_cd, ↓reduceIte, Nat.reduceEqDiff, List.map_cons, List.map_nil, Int.reduceEq, Int.lt_irrefl, fr, bs_81]
  refine app_rec hdEnc slT_81 hoR ⟨RA, rc, s⟩ (by omega) (by omega) b12.size ?_
  intro R' cr' w16 hoR' g16 hR16 hs16 hz16
  replace k8 := k8.grown g16.by_ (fun e => hoR.ne_blk k8 (by decide) e.symm)
  replace k9 := k9.grown g16.by_ (fun e => hoR.ne_blk k9 (by decide) e.symm)
  replace k14 := k14.grown g16.by_ (fun e => hoR.ne_blk k14 (by decide) e.symm)
  replace hoE := hoE.grew g16 (Own.apart hoE hoR (by decide))
  have hro := hro2.grewY g16 hR16
  replace b12 := g16.below b12 b12.size hoR.geB
  clear hoR hro2
  have hoR := hoR'
  clear hoR'
  simp (disch := first | with_reducible assumption | omega) only [push_cast, x_blk, x_cd, ↓reduceIte, Nat.reduceEqDiff, List.map_cons, List.map_nil, Int.reduceEq, Int.lt_irrefl, fr, k14.ldAll ty_ag_64 (e4 s), k9.ldAll ty_ag_64 (e4 m.ends)]
  refine call_of (set_Meets hsU.2 _) ?_
  rintro v w17 ⟨rfl, b17⟩
  replace k8 := k8.below b17 k8.lt
  replace k9 := k9.below b17 k9.lt
  replace hoR := hoR.below b17 (Nat.le_refl _)
  replace hoE := hoE.below b17 (Nat.le_refl _)
  replace hro := hro.below b17
  replace b12 := b12.trans (Below.mono b17 b12.size)
  have hhs' : (hs ++ [(⟨RA, rc, s⟩ : Hd)]).map (·.l) = L.take (k + 1) := by rw [List.map_append, hhs, htake]; rfl
  by_cases hM : MeetL s m.ends
  · rw [if_pos hM] at hsucc
    simp (disch := first | with_reducible assumption | omega) only [push_cast, x_blk, x_cd, ↓reduceIte, Nat.reduceEqDiff, List.map_cons, List.map_nil, Int.reduceEq, Int.lt_irrefl, fr, hM, k8.m4 ty_ag_22, bs_22]
    refine app_int slT_22 hoE (k : Int) (by omega) b12.size ?_
    intro Ae' ce' w18 hoE' g18 hE18 hs18 hz18
    replace k8 := k8.grown g18.by_ (fun e => hoE.ne_blk k8 (by decide) e.symm)
    replace k9 := k9.grown g18.by_ (fun e => hoE.ne_blk k9 (by decide) e.symm)
    replace hoR := hoR.grew g18 (Own.apart hoR hoE (by decide))
    replace hro := hro.grewX g18 hE18
    replace b12 := g18.below b12 b12.size hoE.geB
    clear hoE
    simp (disch := first | with_reducible assumption | omega) only [push_cast, x_blk, x_cd, ↓reduceIte, Nat.reduceEqDiff, List.map_cons, List.map_nil, Int.reduceEq, Int.lt_irrefl, fr]
    refine sto_slice k8 (by kernel_rfl) 4 (by simp) _ _ _ ?_
    intro w19 k19 g19 z19
    have k19' : Blk w19 w6.heap.size 25 (MV.cells ⟨some ⟨w5.heap.size, 0, none⟩, 1, A2, c2, Ae', ce'⟩ ⟨L.length, m.events, [0], ar, endsUpto m L k ++ [(k : Int)]⟩) := by
      simp only [MV.cells, List.length_append, List.length_cons, List.length_nil, Nat.zero_add]
      exact k19
    rw [← hsucc] at k19' hoE'
    have k9' := k9.grown g19.by_ (by simp; omega)
    have hoR' := hoR.grew g19 (.inr (hoR.ne_blk k8 (by decide)))
    have hoE2 := hoE'.grew g19 (.inr (hoE'.ne_blk k8 (by decide)))
    have hro' := hro.grewG g19
    have b19 := g19.below b12 b12.size (by intro a ha; injection ha with ha; subst ha; exact Nat.le_refl _)
    simp (disch := first | with_reducible assumption | omega) only [push_cast, x_blk, x_cd, ↓reduceIte, Nat.reduceEqDiff, List.map_cons, List.map_nil, Int.reduceEq, Int.lt_irrefl, fr]
    exact hJ _ _ ⟨k + 1, hs ++ [⟨RA, rc, s⟩], R', cr', Ae', ce', hlt, (by simp only [push_cast, ↓reduceIte, Nat.reduceEqDiff, true_and, and_true, and_self, eq_self, fr, List.length_append, List.length_cons, List.length_nil]), hhs', k19', k9', hoR', hoE2, hro', b19⟩ (by simp only [push_cast, ↓reduceIte, Nat.reduceEqDiff, intOf, fr]; omega)
  · rw [if_neg hM] at hsucc
    rw [← hsucc] at k8 hoE
    simp (disch := first | with_reducible assumption | omega) only [push_cast, x_blk, x_cd, ↓reduceIte, Nat.reduceEqDiff, List.map_cons, List.map_nil, Int.reduceEq, Int.lt_irrefl, fr, hM]
    exact hJ _ _ ⟨k + 1, hs ++ [⟨RA, rc, s⟩], R', cr', Ae, ce, hlt, (by simp only [push_cast, ↓reduceIte, Nat.reduceEqDiff, true_and, and_true, and_self, eq_self, fr, List.length_append, List.length_cons, List.length_nil]), hhs', k8, k9, hoR, hoE, hro, b12⟩ (by simp only [push_cast, ↓reduceIte, Nat.reduceEqDiff, intOf, fr]; omega)
end
end Go.Proofs.YtcjinmgieiebbaaDoor
