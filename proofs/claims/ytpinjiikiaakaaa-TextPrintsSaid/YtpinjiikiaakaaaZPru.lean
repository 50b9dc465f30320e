/-
  The reference's text of a project, whole: by its contract.
-/
import Derived.Test.YtpinjiikiaakaaaZPrt
namespace Go.Proofs.Ytpinjiikiaakaaa
set_option linter.unusedSimpArgs false
set_option linter.unusedVariables false
set_option linter.unusedSectionVars false
open Go.RowKit

abbrev stB : List UInt8 := [115, 116, 97, 116, 101, 115]
abbrev evB : List UInt8 := [101, 118, 101, 110, 116, 115]
abbrev snB : List UInt8 := [115, 101, 101, 110]
abbrev frB : List UInt8 := [102, 114, 101, 101]
abbrev fuB : List UInt8 := [102, 97, 117, 108, 116, 115]
abbrev scB : List UInt8 := [115, 101, 99, 114, 101, 116]
abbrev saB : List UInt8 := [115, 116, 97, 114, 116, 115]
abbrev enB : List UInt8 := [101, 110, 100, 115]
abbrev arB : List UInt8 := [97, 114, 114, 111, 119, 115]
abbrev semiB : List UInt8 := [32, 59, 32]
def arW (p : Pj) (i : Nat) (a : Arr) : List ByteArray := (if 0 < i then [⟨#[44]⟩] else []) ++ [nm p.S a.frm, nm p.E a.evt, nm p.S a.to_]
def arTo (p : Pj) : Nat → List ByteArray
  | 0 => []
  | k + 1 => arTo p k ++ arW p k (p.m.arrows.getD k default)
theorem row_lenN {l : List Int} {b : Int} (h : IsRow l b) : l.length ≤ b.toNat := by
  have key : ∀ i, i < l.length → (i : Int) ≤ l.getD i 0 := by
    intro i
    induction i with
    | zero => intro hi; have := (h 0 hi).1; omega
    | succ i ih =>
      intro hi
      have h1 := ih (by omega)
      have h2 := (h (i + 1) hi).2.2.2 (by omega)
      rw [show i + 1 - 1 = i by omega] at h2
      omega
  rcases Nat.eq_zero_or_pos l.length with c | c
  · omega
  · have h1 := key (l.length - 1) (by omega)
    have h2 := (h (l.length - 1) (by omega)).2.1
    omega
def listB (pt : List UInt8) (names : List ByteArray) (l : List Int) : List UInt8 := pt ++ sp (nms names l) ++ semiB
/-- The text of a project up to the arrows. -/
def headB (p : Pj) : List UInt8 := stB ++ sp p.S ++ ([32, 59, 32] ++ evB) ++ sp p.E ++ semiB ++ listB snB p.E p.seen ++ listB frB p.E p.free ++ listB fuB p.E p.faults ++ listB scB p.S p.secret ++ listB saB p.S p.m.starts ++ listB enB p.S p.m.ends ++ arB
def txt (p : Pj) : List UInt8 := headB p ++ sp (arTo p p.m.arrows.length) ++ [32, 59]
open Classical in
noncomputable def prOut (p : Pj) : Value := if p.May then (if 4000 < (txt p).length then .tuple #[.string ⟨#[]⟩, .int .i64 1] else .tuple #[.string ⟨(txt p).toArray⟩, .int .i64 0]) else .tuple #[.string ⟨#[]⟩, .int .i64 2]
theorem ba_size (l : List UInt8) : (⟨l.toArray⟩ : ByteArray).size = l.length := by simp [ByteArray.size]
theorem size_list (s : ByteArray) : s.size = s.data.toList.length := by rw [Array.length_toList]; rfl
theorem NamesOk.small {l : List ByteArray} (h : NamesOk l) : SmallN l := fun s hs => by
  obtain ⟨i, hi⟩ := List.mem_iff_getElem?.1 hs
  have := (h i s hi).1.2.2.1
  rw [size_list] at this; exact this
theorem row_in {l : List Int} {b : Int} (h : IsRow l b) : ∀ x ∈ l, 0 ≤ x ∧ x < b := fun x hx => ⟨(h.mem hx).1, (h.mem hx).2.1⟩
theorem Pj.May.arr {p : Pj} (h : p.May) {k : Nat} (hk : k < p.m.arrows.length) : (0 ≤ (p.m.arrows.getD k default).frm ∧ (p.m.arrows.getD k default).frm < p.S.length) ∧ (0 ≤ (p.m.arrows.getD k default).evt ∧ (p.m.arrows.getD k default).evt < p.E.length) ∧ (0 ≤ (p.m.arrows.getD k default).to_ ∧ (p.m.arrows.getD k default).to_ < p.S.length) := by
  have h1 := (h.m.2.2.2.2.2.2.2 k hk).1
  have h2 := h.st
  have h3 := h.ev
  obtain ⟨⟨a1, a2⟩, ⟨a3, a4⟩, a5, a6⟩ := h1
  refine ⟨⟨a1, by omega⟩, ⟨a5, by omega⟩, a3, by omega⟩
theorem arTo_ok {p : Pj} (h : p.May) : ∀ k, k ≤ p.m.arrows.length → (arTo p k).length ≤ 4 * k ∧ ∀ s ∈ arTo p k, s.data.toList.length ≤ 16
  | 0, _ => ⟨by simp [arTo], fun s hs => by simp [arTo] at hs⟩
  | k + 1, hk => by
    obtain ⟨h1, h2⟩ := arTo_ok h k (by omega)
    obtain ⟨e1, e2, e3⟩ := h.arr (show k < p.m.arrows.length by omega)
    unfold arTo arW
    refine ⟨?_, fun s hs => ?_⟩
    · rw [List.length_append, List.length_append]
      split <;> simp <;> omega
    · rcases List.mem_append.1 hs with hs | hs
      · exact h2 s hs
      · rcases List.mem_append.1 hs with hs | hs
        · split at hs
          · rw [List.mem_singleton.1 hs]; decide
          · simp at hs
        · simp only [List.mem_cons, List.not_mem_nil, or_false] at hs
          rcases hs with rfl | rfl | rfl
          · exact h.nS.small _ (List.mem_of_getElem? (nm_at e1.1 e1.2))
          · exact h.nE.small _ (List.mem_of_getElem? (nm_at e2.1 e2.2))
          · exact h.nS.small _ (List.mem_of_getElem? (nm_at e3.1 e3.2))
theorem listB_len {pt : List UInt8} {names : List ByteArray} {l : List Int} (hn : SmallN names) (hl : ∀ x ∈ l, 0 ≤ x ∧ x < names.length) (h6 : l.length ≤ 256) (hp : pt.length ≤ 10) : (listB pt names l).length ≤ 5000 := by
  have := sp_len (nms_small hn hl)
  have e : (nms names l).length = l.length := by unfold nms; rw [List.length_map]
  unfold listB
  rw [List.length_append, List.length_append]
  simp only [List.length_cons, List.length_nil]
  omega
theorem sp_take {W : List ByteArray} {k : Nat} {s : ByteArray} (h : W[k]? = some s) : sp (W.take (k + 1)) = sp (W.take k) ++ 32 :: s.data.toList := by
  have hk := (List.getElem?_eq_some_iff.1 h).1
  rw [List.take_succ_eq_append_getElem hk, sp_snoc]
  rw [List.getElem?_eq_getElem hk] at h
  rw [Option.some.inj h]
set_option maxHeartbeats 4000000 in
theorem ref16_Print {w : World} {a : JV} {p : Pj} (ha : IsJ (· < w.heap.size) w a p) (hf : p.Fits) (hc : a.Caps p) :
    Cal Try.prog 5 [a.val p] w fun v w' => v = prOut p ∧ Below w.heap.size w w' := by
  refine cal_ref16_Print (by simp) 1000000 fun Q hQ => ?_
  simp (disch := first | with_reducible assumption | omega) only [push_cast, x_blk, x_cd, ↓reduceIte, Nat.reduceEqDiff, List.map_cons, List.map_nil, Int.reduceEq, Int.lt_irrefl, F_ref16_Print]
  refine blk_of (box_agg _ (a.cells p)) ?_
  intro w1 k1 b1 z1
  simp (disch := first | with_reducible assumption | omega) only [push_cast, x_blk, x_cd, ↓reduceIte, Nat.reduceEqDiff, List.map_cons, List.map_nil, Int.reduceEq, Int.lt_irrefl, k1.jA]
  refine call_of (ref16_May (ha.up b1) hf hc) ?_
  rintro v w2 ⟨⟨r2, rfl, h2⟩, b2⟩
  have bb2 := b1.trans (b2.mono b1.size)
  have k2 := k1.below b2 k1.lt
  cases r2 with
  | false =>
    have hno : ¬ p.May := fun h => by have := h2.2 h; cases this
    simp (disch := first | with_reducible assumption | omega) only [push_cast, x_blk, x_cd, ↓reduceIte, Nat.reduceEqDiff, List.map_cons, List.map_nil, Int.reduceEq, Int.lt_irrefl]
    exact fin_2 (hQ _ _ ⟨by unfold prOut; rw [if_neg hno]; simp only [push_cast, ↓reduceIte, Nat.reduceEqDiff], bb2⟩)
  | true =>
  have hM := h2.1 rfl
  have sS := hM.nS.small
  have sE := hM.nE.small
  have s6 := hM.s6
  have e8 := hM.e8
  have hL1 := sp_len sS
  have hL2 := sp_len sE
  have r1 := row_in hM.r1
  have r2 := row_in hM.r2
  have r3 := row_in hM.r3
  have r4 := row_in hM.r4
  have r5 := row_in hM.m.2.2.2.2.2.1
  have r6 := row_in hM.m.2.2.2.2.2.2.1
  rw [hM.ev] at r1 r2 r3
  rw [hM.st] at r4 r5 r6
  have n1 := row_lenN hM.r1
  have n2 := row_lenN hM.r2
  have n3 := row_lenN hM.r3
  have n4 := row_lenN hM.r4
  have n5 := row_lenN hM.m.2.2.2.2.2.1
  have n6 := row_lenN hM.m.2.2.2.2.2.2.1
  have eve := hM.ev
  have ste := hM.st
  have m1 := listB_len (pt := snB) sE r1 (by omega) (by decide)
  have m2 := listB_len (pt := frB) sE r2 (by omega) (by decide)
  have m3 := listB_len (pt := fuB) sE r3 (by omega) (by decide)
  have m4 := listB_len (pt := scB) sS r4 (by omega) (by decide)
  have m5 := listB_len (pt := saB) sS r5 (by omega) (by decide)
  have m6 := listB_len (pt := enB) sS r6 (by omega) (by decide)
  have na := hM.m.2.2.2.2.1
  simp (disch := first | with_reducible assumption | omega) only [push_cast, x_blk, x_cd, ↓reduceIte, Nat.reduceEqDiff, List.map_cons, List.map_nil, Int.reduceEq, Int.lt_irrefl]
  refine loop_rule (fun f w' => ∃ k : Nat, k ≤ p.S.length ∧ (f 1 = .pointer (some ⟨w.heap.size, 0, none⟩) ∧ f 4 = .string ⟨(stB ++ sp (p.S.take k)).toArray⟩ ∧ f 5 = .int .i64 k) ∧ Same w2 w')
    (fun f _ => p.S.length - (intOf (f 5)).toNat) ⟨0, Nat.zero_le _, ⟨rfl, by simp [sp, upd], rfl⟩, Same.refl w2⟩ ?_
  rintro f w3 ⟨k, hk, fr, s3⟩ J hJ
  have hmu : (intOf (f 5)).toNat = k := by rw [fr.2.2]; simp [intOf]
  have k3 := k2.same s3
  have b23 := s3.below w2.heap.size
  have bb3 := bb2.trans (b23.mono bb2.size)
  by_cases hlt : k < p.S.length
  case pos =>
    have hx : p.S[k]? = some (p.S[k]'hlt) := List.getElem?_eq_getElem hlt
    have h16 := sS _ (List.mem_of_getElem? hx)
    have hsl := sp_len fun s hs => sS s (List.mem_of_mem_take (i := k) hs)
    have htl : (p.S.take k).length ≤ k := by rw [List.length_take]; omega
    have hst := sp_take hx
    generalize p.S[k]'hlt = s at *
    have i1 := (ha.up bb3).S
    have sA := i1.isSome (by omega)
    generalize sp (p.S.take k) = X at *
    simp (disch := first | with_reducible assumption | omega | (simp only [List.length_append, List.length_cons, List.length_nil]; omega)) only [push_cast, x_blk, x_cd, ↓reduceIte, Nat.reduceEqDiff, List.map_cons, List.map_nil, Int.reduceEq, Int.lt_irrefl, L_ref16_Print_2, fr, hlt, k3.jS, sA, i1.ldb hx, strba]
    exact hJ _ _ ⟨k + 1, hlt, ⟨(by simp only [push_cast, ↓reduceIte, Nat.reduceEqDiff, Int.reduceEq, fr]), by simp only [push_cast, ↓reduceIte, Nat.reduceEqDiff]; rw [hst]; simp [List.append_assoc], (by simp only [push_cast, ↓reduceIte, Nat.reduceEqDiff, Int.reduceEq])⟩, s3⟩ (by rw [hmu]; simp only [push_cast, ↓reduceIte, Nat.reduceEqDiff, intOf, fr]; omega)
  obtain rfl : k = p.S.length := by omega
  rw [List.take_length] at fr
  simp (disch := first | with_reducible assumption | omega | (simp only [List.length_append, List.length_cons, List.length_nil]; omega)) only [push_cast, x_blk, x_cd, ↓reduceIte, Nat.reduceEqDiff, List.map_cons, List.map_nil, Int.reduceEq, Int.lt_irrefl, L_ref16_Print_2, fr, Nat.lt_irrefl, k3.jS, strba]
  generalize hX1 : sp p.S = X1 at *
  refine loop_rule (fun f w' => ∃ k : Nat, k ≤ p.E.length ∧ (f 1 = .pointer (some ⟨w.heap.size, 0, none⟩) ∧ f 4 = .string ⟨(stB ++ X1 ++ ([32, 59, 32] ++ evB) ++ sp (p.E.take k)).toArray⟩ ∧ f 6 = .int .i64 k) ∧ Same w2 w')
    (fun f _ => p.E.length - (intOf (f 6)).toNat) ⟨0, Nat.zero_le _, ⟨(by simp only [push_cast, ↓reduceIte, Nat.reduceEqDiff, Int.reduceEq, fr]), by simp [sp, upd], rfl⟩, s3⟩ ?_
  clear s3 k3 b23 bb3 fr hmu hk hlt
  rintro f w3 ⟨k, hk, fr, s3⟩ J2 hJ2
  have hmu : (intOf (f 6)).toNat = k := by rw [fr.2.2]; simp [intOf]
  have k3 := k2.same s3
  have b23 := s3.below w2.heap.size
  have bb3 := bb2.trans (b23.mono bb2.size)
  by_cases hlt : k < p.E.length
  case pos =>
    have hx : p.E[k]? = some (p.E[k]'hlt) := List.getElem?_eq_getElem hlt
    have h16 := sE _ (List.mem_of_getElem? hx)
    have hsl := sp_len fun s hs => sE s (List.mem_of_mem_take (i := k) hs)
    have htl : (p.E.take k).length ≤ k := by rw [List.length_take]; omega
    have hst := sp_take hx
    generalize p.E[k]'hlt = s at *
    have i1 := (ha.up bb3).E
    have sA := i1.isSome (by omega)
    generalize sp (p.E.take k) = X at *
    simp (disch := first | with_reducible assumption | omega | (simp only [List.length_append, List.length_cons, List.length_nil]; omega)) only [push_cast, x_blk, x_cd, ↓reduceIte, Nat.reduceEqDiff, List.map_cons, List.map_nil, Int.reduceEq, Int.lt_irrefl, L_ref16_Print_1, fr, hlt, k3.jE, sA, i1.ldb hx, strba]
    exact hJ2 _ _ ⟨k + 1, hlt, ⟨(by simp only [push_cast, ↓reduceIte, Nat.reduceEqDiff, Int.reduceEq, fr]), by simp only [push_cast, ↓reduceIte, Nat.reduceEqDiff]; rw [hst]; simp [List.append_assoc], (by simp only [push_cast, ↓reduceIte, Nat.reduceEqDiff, Int.reduceEq])⟩, s3⟩ (by rw [hmu]; simp only [push_cast, ↓reduceIte, Nat.reduceEqDiff, intOf, fr]; omega)
  obtain rfl : k = p.E.length := by omega
  rw [List.take_length] at fr
  generalize hX2 : sp p.E = X2 at *
  have sd : Same w3 w3.drew := (Same.refl w3).drew
  have ku := k3.same sd
  have s2u := s3.trans sd
  have bbu := bb2.trans ((s2u.below w2.heap.size).mono bb2.size)
  generalize hu : w3.drew = u at *
  have hau := ha.up bbu
  simp (disch := first | with_reducible assumption | omega | (simp only [List.length_append, List.length_cons, List.length_nil]; omega)) only [push_cast, x_blk, x_cd, ↓reduceIte, Nat.reduceEqDiff, List.map_cons, List.map_nil, Int.reduceEq, Int.lt_irrefl, L_ref16_Print_1, fr, Nat.lt_irrefl, k3.jE, hu, ku.jE, ku.jS, ku.j1, ku.j2, ku.j3, ku.j4, ku.jst, ku.jen, strba]
  have hj := fun (W : World) (s : Same u W) => hau.up (s.below u.heap.size)
  refine call_of (ref16_listed snB (by decide) (hj u (Same.refl u)).E a.cE sE (hj u (Same.refl u)).seen a.cp r1 (by omega)) ?_
  rintro v y1 ⟨hv, t1⟩
  have g1 := (Same.refl u).trans t1
  rw [show snB ++ sp (nms p.E p.seen) ++ [32, 59, 32] = listB snB p.E p.seen from rfl] at hv
  subst hv
  generalize hM1 : listB snB p.E p.seen = M1 at *
  simp (disch := first | with_reducible assumption | omega | (simp only [List.length_append, List.length_cons, List.length_nil]; omega)) only [push_cast, x_blk, x_cd, ↓reduceIte, Nat.reduceEqDiff, List.map_cons, List.map_nil, Int.reduceEq, Int.lt_irrefl, strba]
  refine ⟨g1.below _, ?_⟩
  refine call_of (ref16_listed frB (by decide) (hj y1 g1).E a.cE sE (hj y1 g1).free a.cf r2 (by omega)) ?_
  rintro v y2 ⟨hv, t2⟩
  have g2 := g1.trans t2
  rw [show frB ++ sp (nms p.E p.free) ++ [32, 59, 32] = listB frB p.E p.free from rfl] at hv
  subst hv
  generalize hM2 : listB frB p.E p.free = M2 at *
  simp (disch := first | with_reducible assumption | omega | (simp only [List.length_append, List.length_cons, List.length_nil]; omega)) only [push_cast, x_blk, x_cd, ↓reduceIte, Nat.reduceEqDiff, List.map_cons, List.map_nil, Int.reduceEq, Int.lt_irrefl, strba]
  refine ⟨g2.below _, ?_⟩
  refine call_of (ref16_listed fuB (by decide) (hj y2 g2).E a.cE sE (hj y2 g2).faults a.cu r3 (by omega)) ?_
  rintro v y3 ⟨hv, t3⟩
  have g3 := g2.trans t3
  rw [show fuB ++ sp (nms p.E p.faults) ++ [32, 59, 32] = listB fuB p.E p.faults from rfl] at hv
  subst hv
  generalize hM3 : listB fuB p.E p.faults = M3 at *
  simp (disch := first | with_reducible assumption | omega | (simp only [List.length_append, List.length_cons, List.length_nil]; omega)) only [push_cast, x_blk, x_cd, ↓reduceIte, Nat.reduceEqDiff, List.map_cons, List.map_nil, Int.reduceEq, Int.lt_irrefl, strba]
  refine ⟨g3.below _, ?_⟩
  refine call_of (ref16_listed scB (by decide) (hj y3 g3).S a.cS sS (hj y3 g3).secret a.cq r4 (by omega)) ?_
  rintro v y4 ⟨hv, t4⟩
  have g4 := g3.trans t4
  rw [show scB ++ sp (nms p.S p.secret) ++ [32, 59, 32] = listB scB p.S p.secret from rfl] at hv
  subst hv
  generalize hM4 : listB scB p.S p.secret = M4 at *
  simp (disch := first | with_reducible assumption | omega | (simp only [List.length_append, List.length_cons, List.length_nil]; omega)) only [push_cast, x_blk, x_cd, ↓reduceIte, Nat.reduceEqDiff, List.map_cons, List.map_nil, Int.reduceEq, Int.lt_irrefl, strba]
  refine ⟨g4.below _, ?_⟩
  refine call_of (ref16_listed saB (by decide) (hj y4 g4).S a.cS sS (hj y4 g4).m.starts a.m.cs r5 (by omega)) ?_
  rintro v y5 ⟨hv, t5⟩
  have g5 := g4.trans t5
  rw [show saB ++ sp (nms p.S p.m.starts) ++ [32, 59, 32] = listB saB p.S p.m.starts from rfl] at hv
  subst hv
  generalize hM5 : listB saB p.S p.m.starts = M5 at *
  simp (disch := first | with_reducible assumption | omega | (simp only [List.length_append, List.length_cons, List.length_nil]; omega)) only [push_cast, x_blk, x_cd, ↓reduceIte, Nat.reduceEqDiff, List.map_cons, List.map_nil, Int.reduceEq, Int.lt_irrefl, strba]
  refine ⟨g5.below _, ?_⟩
  refine call_of (ref16_listed enB (by decide) (hj y5 g5).S a.cS sS (hj y5 g5).m.ends a.m.ce r6 (by omega)) ?_
  rintro v y6 ⟨hv, t6⟩
  have g6 := g5.trans t6
  rw [show enB ++ sp (nms p.S p.m.ends) ++ [32, 59, 32] = listB enB p.S p.m.ends from rfl] at hv
  subst hv
  generalize hM6 : listB enB p.S p.m.ends = M6 at *
  simp (disch := first | with_reducible assumption | omega | (simp only [List.length_append, List.length_cons, List.length_nil]; omega)) only [push_cast, x_blk, x_cd, ↓reduceIte, Nat.reduceEqDiff, List.map_cons, List.map_nil, Int.reduceEq, Int.lt_irrefl, strba]
  refine ⟨g6.below _, ?_⟩
  have hH : headB p = stB ++ X1 ++ ([32, 59, 32] ++ evB) ++ X2 ++ semiB ++ M1 ++ M2 ++ M3 ++ M4 ++ M5 ++ M6 ++ arB := by
    unfold headB
    rw [hX1, hX2, hM1, hM2, hM3, hM4, hM5, hM6]
  have hHl : (headB p).length ≤ 40000 := by
    rw [hH]
    simp only [List.length_append, List.length_cons, List.length_nil]
    omega
  have s26 := s2u.trans g6
  refine loop_rule (fun f w' => ∃ k : Nat, k ≤ p.m.arrows.length ∧ (f 1 = .pointer (some ⟨w.heap.size, 0, none⟩) ∧ f 4 = .string ⟨(headB p ++ sp (arTo p k)).toArray⟩ ∧ f 7 = .int .i64 k) ∧ Below w2.heap.size w2 w')
    (fun f _ => p.m.arrows.length - (intOf (f 7)).toNat) ⟨0, Nat.zero_le _, ⟨(by simp only [push_cast, ↓reduceIte, Nat.reduceEqDiff, Int.reduceEq, fr]), by rw [hH]; simp [sp, upd, arTo, List.append_assoc], rfl⟩, s26.below _⟩ ?_
  have htx : txt p = headB p ++ sp (arTo p p.m.arrows.length) ++ [32, 59] := rfl
  generalize headB p = HB at *
  clear hmu fr
  rintro f w4 ⟨k, hk, fr, b24⟩ J3 hJ3
  have hmu : (intOf (f 7)).toNat = k := by rw [fr.2.2]; simp [intOf]
  have k4 := k2.below b24 k2.lt
  have bb4 := bb2.trans (b24.mono bb2.size)
  obtain ⟨al, asm⟩ := arTo_ok hM k hk
  have hal := sp_len asm
  by_cases hlt : k < p.m.arrows.length
  case neg =>
    obtain rfl : k = p.m.arrows.length := by omega
    generalize sp (arTo p p.m.arrows.length) = X at *
    by_cases hgt : (4000 : Int) < ((HB ++ X ++ [32, 59]).length : Int)
    case pos =>
      simp (disch := first | with_reducible assumption | omega | (simp only [List.length_append, List.length_cons, List.length_nil]; omega)) only [push_cast, x_blk, x_cd, ↓reduceIte, Nat.reduceEqDiff, List.map_cons, List.map_nil, Int.reduceEq, Int.lt_irrefl, L_ref16_Print_0, fr, k4.jar, Nat.lt_irrefl, strba, ba_size, hgt]
      refine fin_2 (hQ _ _ ⟨?_, bb4⟩)
      unfold prOut
      rw [if_pos hM, htx, if_pos (by omega)]
      simp only [push_cast, ↓reduceIte, Nat.reduceEqDiff]
    case neg =>
      simp (disch := first | with_reducible assumption | omega | (simp only [List.length_append, List.length_cons, List.length_nil]; omega)) only [push_cast, x_blk, x_cd, ↓reduceIte, Nat.reduceEqDiff, List.map_cons, List.map_nil, Int.reduceEq, Int.lt_irrefl, L_ref16_Print_0, fr, k4.jar, Nat.lt_irrefl, strba, ba_size, hgt]
      refine fin_2 (hQ _ _ ⟨?_, bb4⟩)
      unfold prOut
      rw [if_pos hM, htx, if_neg (by omega)]
      simp only [push_cast, ↓reduceIte, Nat.reduceEqDiff]
  obtain ⟨e1, e2, e3⟩ := hM.arr hlt
  have hsucc : arTo p (k + 1) = arTo p k ++ arW p k (p.m.arrows.getD k default) := rfl
  have hAr := (ha.up bb4).m.arrows
  have sAr := hAr.isSome (by omega)
  have hldA := fun {K : Fr → World → Prop} {f : Fr} {d : Option Nat} {w : World} => hAr.ldA (K := K) (f := f) (d := d) (w := w) ty_ag_36 ty_sz_36 k hlt
  simp (disch := first | with_reducible assumption | omega | (simp only [List.length_append, List.length_cons, List.length_nil]; omega)) only [push_cast, x_blk, x_cd, ↓reduceIte, Nat.reduceEqDiff, List.map_cons, List.map_nil, Int.reduceEq, Int.lt_irrefl, L_ref16_Print_0, fr, k4.jar, hlt, sAr, hldA]
  refine blk_of al_36 ?_
  intro w5 k5 b5 z5
  simp (disch := first | with_reducible assumption | omega) only [push_cast, x_blk, x_cd, ↓reduceIte, Nat.reduceEqDiff, List.map_cons, List.map_nil, Int.reduceEq, Int.lt_irrefl]
  refine sto_blk k5 (cs := arrCells (p.m.arrows.getD k default)) ty_sz_36 rfl (by simp [arrCells, Value.oneCell']) ?_
  intro w6 k6 g6' z6
  generalize p.m.arrows.getD k default = y at *
  have b46 := g6'.below b5 b5.size (by intro a ha; injection ha with ha; subst ha; exact Nat.le_refl _)
  have b26 := b24.trans (b46.mono b24.size)
  have bd6 : Below w6.heap.size w6 w6.drew := (Same.refl w6).drew.below _
  have b2u := b26.trans (bd6.mono b26.size)
  have bb6 := bb2.trans (b2u.mono bb2.size)
  have ku6 := k2.below b2u k2.lt
  have k6u := k6.below bd6 k6.lt
  generalize hu6 : w6.drew = u6 at *
  have hS6 := (ha.up bb6).S
  have hE6 := (ha.up bb6).E
  have sAS := hS6.isSome (by omega)
  have sAE := hE6.isSome (by omega)
  have v1 := nm_at e1.1 e1.2
  have v2 := nm_at e2.1 e2.2
  have v3 := nm_at e3.1 e3.2
  have c1 := sS _ (List.mem_of_getElem? v1)
  have c2 := sE _ (List.mem_of_getElem? v2)
  have c3 := sS _ (List.mem_of_getElem? v3)
  have ld1 := fun {K : Fr → World → Prop} {f : Fr} {d : Option Nat} {w' : World} => hS6.ldb (K := K) (f := f) (d := d) (w := w') v1
  have ld2 := fun {K : Fr → World → Prop} {f : Fr} {d : Option Nat} {w' : World} => hE6.ldb (K := K) (f := f) (d := d) (w := w') v2
  have ld3 := fun {K : Fr → World → Prop} {f : Fr} {d : Option Nat} {w' : World} => hS6.ldb (K := K) (f := f) (d := d) (w := w') v3
  have e10 := e1.1
  have e11 := e1.2
  have e20 := e2.1
  have e21 := e2.2
  have e30 := e3.1
  have e31 := e3.2
  have hsp : ∀ A B : List ByteArray, sp (A ++ B) = sp A ++ sp B := fun A B => by simp [sp]
  have hfin : ∀ L : List UInt8, L = HB ++ sp (arTo p k) ++ sp (arW p k y) → L = HB ++ sp (arTo p (k + 1)) := fun L h => by rw [h, hsucc, hsp, List.append_assoc]
  generalize hX : sp (arTo p k) = X at *
  by_cases hk0 : (0 : Int) < (k : Int)
  case pos =>
    simp (disch := first | with_reducible assumption | omega | (simp only [List.length_append, List.length_cons, List.length_nil]; omega)) only [push_cast, x_blk, x_cd, ↓reduceIte, Nat.reduceEqDiff, List.map_cons, List.map_nil, Int.reduceEq, Int.lt_irrefl, fr, hk0, strba, hu6, ku6.jS, ku6.jE, k6u.a0 ty_ag_3, k6u.a1 ty_ag_3, k6u.a2 ty_ag_3, e10, e11, e20, e21, e30, e31, sAS, sAE, ld1, ld2, ld3]
    refine hJ3 _ _ ⟨k + 1, hlt, ⟨(by simp only [push_cast, ↓reduceIte, Nat.reduceEqDiff, Int.reduceEq, fr]), ?_, (by simp only [push_cast, ↓reduceIte, Nat.reduceEqDiff, Int.reduceEq])⟩, b2u⟩ (by rw [hmu]; simp only [push_cast, ↓reduceIte, Nat.reduceEqDiff, intOf, fr]; omega)
    simp only [push_cast, ↓reduceIte, Nat.reduceEqDiff]
    rw [← hfin _ ?_]
    unfold arW
    rw [if_pos (by omega)]
    simp [sp, List.append_assoc]
  case neg =>
    simp (disch := first | with_reducible assumption | omega | (simp only [List.length_append, List.length_cons, List.length_nil]; omega)) only [push_cast, x_blk, x_cd, ↓reduceIte, Nat.reduceEqDiff, List.map_cons, List.map_nil, Int.reduceEq, Int.lt_irrefl, fr, hk0, strba, hu6, ku6.jS, ku6.jE, k6u.a0 ty_ag_3, k6u.a1 ty_ag_3, k6u.a2 ty_ag_3, e10, e11, e20, e21, e30, e31, sAS, sAE, ld1, ld2, ld3]
    refine hJ3 _ _ ⟨k + 1, hlt, ⟨(by simp only [push_cast, ↓reduceIte, Nat.reduceEqDiff, Int.reduceEq, fr]), ?_, (by simp only [push_cast, ↓reduceIte, Nat.reduceEqDiff, Int.reduceEq])⟩, b2u⟩ (by rw [hmu]; simp only [push_cast, ↓reduceIte, Nat.reduceEqDiff, intOf, fr]; omega)
    simp only [push_cast, ↓reduceIte, Nat.reduceEqDiff]
    rw [← hfin _ ?_]
    unfold arW
    rw [if_neg (by omega)]
    simp [sp, List.append_assoc]
end Go.Proofs.Ytpinjiikiaakaaa
