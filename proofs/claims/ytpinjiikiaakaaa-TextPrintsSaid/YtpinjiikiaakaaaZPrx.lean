/-
  The program's text of a project: by its contract.
-/
import Derived.Test.YtpinjiikiaakaaaZJoi
namespace Go.Proofs.Ytpinjiikiaakaaa
set_option linter.unusedSimpArgs false
set_option linter.unusedVariables false
set_option linter.unusedSectionVars false
open Go.RowKit

theorem IsJ.belowB {B : Nat} {u w : World} {a : JV} {p : Pj} (h : IsJ (· < B) u a p) (b : Below B u w) : IsJ (· < B) w a p := h.keep fun k hk => b.block k hk
theorem WMem.putL {w w1 w2 : World} {g c c' : Nat} {W X : List ByteArray} {A A' : Option Addr} (h : WMem g w W A c) (o' : OwnR strE g 9 1 w1 A' c' (W ++ X)) (g1 : Grew w w1 A) (k2 : Blk w2 g 22 [.slice A' (W.length + X.length) c']) (g2 : Grew w1 w2 (some ⟨g, 0, none⟩)) :
    WMem g w2 (W ++ X) A' c' ∧ Below g w w2 := by
  have hk1 : Blk w1 g 22 [.slice A W.length c] := h.k.grown g1.by_ (h.o.ne_blk h.k (by decide)).symm
  refine ⟨⟨by rw [List.length_append]; exact k2, o'.grew g2 (.inr (o'.ne_blk hk1 (by decide)))⟩, ?_⟩
  exact g2.below (g1.below (Below.refl _ _) (Nat.le_of_lt h.k.lt) h.o.geB) (Nat.le_of_lt hk1.lt) (by intro a ha; injection ha with ha; subst ha; exact Nat.le_refl _)
/-- The words of a project's text up to the arrows. -/
def headW (p : Pj) : List ByteArray := pwd stB p.S (ids p.S.length) ++ pwd evB p.E (ids p.E.length) ++ pwd snB p.E p.seen ++ pwd frB p.E p.free ++ pwd fuB p.E p.faults ++ pwd scB p.S p.secret ++ pwd saB p.S p.m.starts ++ pwd enB p.S p.m.ends ++ [⟨arB.toArray⟩]
theorem sp_app (A B : List ByteArray) : sp (A ++ B) = sp A ++ sp B := by simp [sp]
theorem sp_pwd (pt : List UInt8) (names : List ByteArray) (l : List Int) : sp (pwd pt names l) = 32 :: (pt ++ sp (nms names l) ++ [32, 59]) := by
  unfold pwd
  rw [List.cons_append]
  show sp (⟨pt.toArray⟩ :: (nms names l ++ [⟨#[59]⟩])) = _
  unfold sp
  rw [List.flatMap_cons, List.flatMap_append]
  simp
theorem words_txt (p : Pj) : sp (headW p ++ arTo p p.m.arrows.length ++ [⟨#[59]⟩]) = 32 :: txt p := by
  unfold txt headB headW listB
  simp only [sp_app, sp_pwd, nms_ids]
  simp [sp, List.append_assoc]
theorem pwd_len (pt : List UInt8) (names : List ByteArray) (l : List Int) : (pwd pt names l).length = l.length + 2 := by unfold pwd nms; simp
theorem txt_len {p : Pj} (hM : p.May) : (txt p).length ≤ 1000000 := by
  have s6 := hM.s6
  have e8 := hM.e8
  have r1 := row_in hM.r1
  have r2 := row_in hM.r2
  have r3 := row_in hM.r3
  have r4 := row_in hM.r4
  have r5 := row_in hM.m.2.2.2.2.2.1
  have r6 := row_in hM.m.2.2.2.2.2.2.1
  rw [hM.ev] at r1 r2 r3
  rw [hM.st] at r4 r5 r6
  have n1 := row_lenN hM.r1
  have n2 := row_lenN hM.r2
  have n3 := row_lenN hM.r3
  have n4 := row_lenN hM.r4
  have n5 := row_lenN hM.m.2.2.2.2.2.1
  have n6 := row_lenN hM.m.2.2.2.2.2.2.1
  have eve := hM.ev
  have ste := hM.st
  have hL1 := sp_len hM.nS.small
  have hL2 := sp_len hM.nE.small
  have m1 := listB_len (pt := snB) hM.nE.small r1 (by omega) (by decide)
  have m2 := listB_len (pt := frB) hM.nE.small r2 (by omega) (by decide)
  have m3 := listB_len (pt := fuB) hM.nE.small r3 (by omega) (by decide)
  have m4 := listB_len (pt := scB) hM.nS.small r4 (by omega) (by decide)
  have m5 := listB_len (pt := saB) hM.nS.small r5 (by omega) (by decide)
  have m6 := listB_len (pt := enB) hM.nS.small r6 (by omega) (by decide)
  have na := hM.m.2.2.2.2.1
  obtain ⟨al, asm⟩ := arTo_ok hM p.m.arrows.length (Nat.le_refl _)
  have hal := sp_len asm
  unfold txt headB
  simp only [List.length_append, List.length_cons, List.length_nil]
  omega
theorem Own.capS {B e sz c n : Nat} {w : World} {A : Option Addr} {xs : List Value} (h : Own B e sz w A c n xs) : n ≤ c := by
  rcases h.own.2 with ⟨h0, h1⟩ | ⟨g, cap, cur, hv, hB, hg, hnc, h3, h4, h5⟩
  · injection h0 with h0 h2 h3; omega
  · injection hv with hv h2 h3; omega
set_option maxHeartbeats 4000000 in
theorem text_Print {w : World} {a : JV} {p : Pj} (ha : IsJ (· < w.heap.size) w a p) (hf : p.Fits) (hc : a.Caps p) :
    Cal Try.prog 4 [a.val p] w fun v w' => v = prOut p ∧ Below w.heap.size w w' := by
  refine cal_text_Print (by simp) 1000000 fun Q hQ => ?_
  simp (disch := first | with_reducible assumption | omega) only [push_cast, x_blk, x_cd, ↓reduceIte, Nat.reduceEqDiff, List.map_cons, List.map_nil, Int.reduceEq, Int.lt_irrefl, F_text_Print]
  refine blk_of (box_agg _ (a.cells p)) ?_
  intro w1 k1 b1 z1
  simp (disch := first | with_reducible assumption | omega) only [push_cast, x_blk, x_cd, ↓reduceIte, Nat.reduceEqDiff, List.map_cons, List.map_nil, Int.reduceEq, Int.lt_irrefl, k1.jA]
  refine call_of (text_May (ha.up b1) hf hc) ?_
  rintro v w2 ⟨⟨r2, rfl, h2⟩, b2⟩
  have bb2 := b1.trans (b2.mono b1.size)
  have k2 := k1.below b2 k1.lt
  cases r2 with
  | false =>
    have hno : ¬ p.May := fun h => by have := h2.2 h; cases this
    simp (disch := first | with_reducible assumption | omega) only [push_cast, x_blk, x_cd, ↓reduceIte, Nat.reduceEqDiff, List.map_cons, List.map_nil, Int.reduceEq, Int.lt_irrefl]
    exact fin_2 (hQ _ _ ⟨by unfold prOut; rw [if_neg hno]; simp only [push_cast, ↓reduceIte, Nat.reduceEqDiff], bb2⟩)
  | true =>
  have hM := h2.1 rfl
  have s6 := hM.s6
  have e8 := hM.e8
  have r1 := row_in hM.r1
  have r2 := row_in hM.r2
  have r3 := row_in hM.r3
  have r4 := row_in hM.r4
  have r5 := row_in hM.m.2.2.2.2.2.1
  have r6 := row_in hM.m.2.2.2.2.2.2.1
  rw [hM.ev] at r1 r2 r3
  rw [hM.st] at r4 r5 r6
  have n1 := row_lenN hM.r1
  have n2 := row_lenN hM.r2
  have n3 := row_lenN hM.r3
  have n4 := row_lenN hM.r4
  have n5 := row_lenN hM.m.2.2.2.2.2.1
  have n6 := row_lenN hM.m.2.2.2.2.2.2.1
  have eve := hM.ev
  have ste := hM.st
  have na := hM.m.2.2.2.2.1
  have l2 := k2.lt
  simp (disch := first | with_reducible assumption | omega) only [push_cast, x_blk, x_cd, ↓reduceIte, Nat.reduceEqDiff, List.map_cons, List.map_nil, Int.reduceEq, Int.lt_irrefl]
  refine blk_of (cs := [.slice none 0 0]) al_22 ?_
  intro w3 k3 b3 z3
  obtain ⟨g, hg⟩ : ∃ g, g = w2.heap.size := ⟨_, rfl⟩
  rw [← hg] at k3 l2
  have b3g : Below g w2 w3 := hg ▸ b3
  have hb2 : w.heap.size ≤ g := by rw [hg]; exact bb2.size
  have hJ3 : IsJ (· < g) w3 a p := by
    have h := ha.up (bb2)
    rw [← hg] at h
    exact h.belowB b3g
  have kP3 : Blk w3 w.heap.size 28 (a.cells p) := k2.below b3g l2
  have hW3 : WMem g w3 [] none 0 := ⟨k3, Own.nil _ _ _ _⟩
  have bb3 : Below w.heap.size w w3 := bb2.trans (b3g.mono hb2)
  rw [← hg]
  clear b3 b3g k3 k2 k1 b2 b1
  have hW0 := hW3
  have hJ0 := hJ3
  have kP0 := kP3
  have bb0 := bb3
  have sd1 : Below w3.heap.size w3 w3.drew := (Same.refl w3).drew.below _
  have lg1 := hW0.k.lt
  have sg1 := sd1.mono (show g ≤ w3.heap.size by omega)
  have kQ1 := kP0.below sd1 kP0.lt
  have hV1 := hW0.below sd1
  have hI1 := hJ0.belowB sg1
  have bc1 := bb0.trans (sg1.mono hb2)
  generalize hu1 : w3.drew = u1 at *
  have lh1 := hV1.k.lt
  simp (disch := first | with_reducible assumption | omega) only [push_cast, x_blk, x_cd, ↓reduceIte, Nat.reduceEqDiff, List.map_cons, List.map_nil, Int.reduceEq, Int.lt_irrefl, hu1, kQ1.jS]
  refine call_of (text_all p.S.length (by omega)) ?_
  rintro v x1 ⟨⟨L1, d1, rfl, oL1⟩, t1⟩
  have tg1 := t1.mono (show g ≤ u1.heap.size by omega)
  have hV1' := hV1.below t1
  have hI1' := hI1.belowB tg1
  have kQ1' := kQ1.below t1 kQ1.lt
  simp (disch := first | with_reducible assumption | omega) only [push_cast, x_blk, x_cd, ↓reduceIte, Nat.reduceEqDiff, List.map_cons, List.map_nil, Int.reduceEq, Int.lt_irrefl]
  refine ⟨t1, ?_⟩
  refine call_of (text_write stB hI1'.S a.cS (OwnI.tyb oL1 (by decide)) d1 ids_mem (by rw [ids_len]; omega) hV1' (by simp only [List.length_append, List.length_nil, pwd_len, ids_len]; omega)) ?_
  rintro v y1 ⟨⟨A1, e1, rfl, hW1⟩, v1⟩
  have hJ1 := hI1'.belowB v1
  have kP1 := kQ1'.below v1 l2
  have bb1 := bc1.trans ((tg1.trans v1).mono hb2)
  have sd2 : Below y1.heap.size y1 y1.drew := (Same.refl y1).drew.below _
  have lg2 := hW1.k.lt
  have sg2 := sd2.mono (show g ≤ y1.heap.size by omega)
  have kQ2 := kP1.below sd2 kP1.lt
  have hV2 := hW1.below sd2
  have hI2 := hJ1.belowB sg2
  have bc2 := bb1.trans (sg2.mono hb2)
  generalize hu2 : y1.drew = u2 at *
  have lh2 := hV2.k.lt
  simp (disch := first | with_reducible assumption | omega) only [push_cast, x_blk, x_cd, ↓reduceIte, Nat.reduceEqDiff, List.map_cons, List.map_nil, Int.reduceEq, Int.lt_irrefl, hu2, kQ2.jE]
  refine call_of (text_all p.E.length (by omega)) ?_
  rintro v x2 ⟨⟨L2, d2, rfl, oL2⟩, t2⟩
  have tg2 := t2.mono (show g ≤ u2.heap.size by omega)
  have hV2' := hV2.below t2
  have hI2' := hI2.belowB tg2
  have kQ2' := kQ2.below t2 kQ2.lt
  simp (disch := first | with_reducible assumption | omega) only [push_cast, x_blk, x_cd, ↓reduceIte, Nat.reduceEqDiff, List.map_cons, List.map_nil, Int.reduceEq, Int.lt_irrefl]
  refine ⟨t2, ?_⟩
  refine call_of (text_write evB hI2'.E a.cE (OwnI.tyb oL2 (by decide)) d2 ids_mem (by rw [ids_len]; omega) hV2' (by simp only [List.length_append, List.length_nil, pwd_len, ids_len]; omega)) ?_
  rintro v y2 ⟨⟨A2, e2, rfl, hW2⟩, v2⟩
  have hJ2 := hI2'.belowB v2
  have kP2 := kQ2'.below v2 l2
  have bb2 := bc2.trans ((tg2.trans v2).mono hb2)
  have lg3 := hW2.k.lt
  simp (disch := first | with_reducible assumption | omega) only [push_cast, x_blk, x_cd, ↓reduceIte, Nat.reduceEqDiff, List.map_cons, List.map_nil, Int.reduceEq, Int.lt_irrefl, kP2.jE, kP2.j1]
  refine call_of (text_write snB hJ2.E a.cE (Ints.of_arg hJ2.seen (by omega)) a.cp r1 (by omega) hW2 (by simp only [List.length_append, List.length_nil, pwd_len, ids_len]; omega)) ?_
  rintro v y3 ⟨⟨A3, e3, rfl, hW3⟩, v3⟩
  have hJ3 := hJ2.belowB v3
  have kP3 := kP2.below v3 l2
  have bb3 := bb2.trans (v3.mono hb2)
  have lg4 := hW3.k.lt
  simp (disch := first | with_reducible assumption | omega) only [push_cast, x_blk, x_cd, ↓reduceIte, Nat.reduceEqDiff, List.map_cons, List.map_nil, Int.reduceEq, Int.lt_irrefl, kP3.jE, kP3.j2]
  refine call_of (text_write frB hJ3.E a.cE (Ints.of_arg hJ3.free (by omega)) a.cf r2 (by omega) hW3 (by simp only [List.length_append, List.length_nil, pwd_len, ids_len]; omega)) ?_
  rintro v y4 ⟨⟨A4, e4, rfl, hW4⟩, v4⟩
  have hJ4 := hJ3.belowB v4
  have kP4 := kP3.below v4 l2
  have bb4 := bb3.trans (v4.mono hb2)
  have lg5 := hW4.k.lt
  simp (disch := first | with_reducible assumption | omega) only [push_cast, x_blk, x_cd, ↓reduceIte, Nat.reduceEqDiff, List.map_cons, List.map_nil, Int.reduceEq, Int.lt_irrefl, kP4.jE, kP4.j3]
  refine call_of (text_write fuB hJ4.E a.cE (Ints.of_arg hJ4.faults (by omega)) a.cu r3 (by omega) hW4 (by simp only [List.length_append, List.length_nil, pwd_len, ids_len]; omega)) ?_
  rintro v y5 ⟨⟨A5, e5, rfl, hW5⟩, v5⟩
  have hJ5 := hJ4.belowB v5
  have kP5 := kP4.below v5 l2
  have bb5 := bb4.trans (v5.mono hb2)
  have lg6 := hW5.k.lt
  simp (disch := first | with_reducible assumption | omega) only [push_cast, x_blk, x_cd, ↓reduceIte, Nat.reduceEqDiff, List.map_cons, List.map_nil, Int.reduceEq, Int.lt_irrefl, kP5.jS, kP5.j4]
  refine call_of (text_write scB hJ5.S a.cS (Ints.of_arg hJ5.secret (by omega)) a.cq r4 (by omega) hW5 (by simp only [List.length_append, List.length_nil, pwd_len, ids_len]; omega)) ?_
  rintro v y6 ⟨⟨A6, e6, rfl, hW6⟩, v6⟩
  have hJ6 := hJ5.belowB v6
  have kP6 := kP5.below v6 l2
  have bb6 := bb5.trans (v6.mono hb2)
  have lg7 := hW6.k.lt
  simp (disch := first | with_reducible assumption | omega) only [push_cast, x_blk, x_cd, ↓reduceIte, Nat.reduceEqDiff, List.map_cons, List.map_nil, Int.reduceEq, Int.lt_irrefl, kP6.jS, kP6.jst]
  refine call_of (text_write saB hJ6.S a.cS (Ints.of_arg hJ6.m.starts (by omega)) a.m.cs r5 (by omega) hW6 (by simp only [List.length_append, List.length_nil, pwd_len, ids_len]; omega)) ?_
  rintro v y7 ⟨⟨A7, e7, rfl, hW7⟩, v7⟩
  have hJ7 := hJ6.belowB v7
  have kP7 := kP6.below v7 l2
  have bb7 := bb6.trans (v7.mono hb2)
  have lg8 := hW7.k.lt
  simp (disch := first | with_reducible assumption | omega) only [push_cast, x_blk, x_cd, ↓reduceIte, Nat.reduceEqDiff, List.map_cons, List.map_nil, Int.reduceEq, Int.lt_irrefl, kP7.jS, kP7.jen]
  refine call_of (text_write enB hJ7.S a.cS (Ints.of_arg hJ7.m.ends (by omega)) a.m.ce r6 (by omega) hW7 (by simp only [List.length_append, List.length_nil, pwd_len, ids_len]; omega)) ?_
  rintro v y8 ⟨⟨A8, e8, rfl, hW8⟩, v8⟩
  have hJ8 := hJ7.belowB v8
  have kP8 := kP7.below v8 l2
  have bb8 := bb7.trans (v8.mono hb2)
  have lg9 := hW8.k.lt
  have hl8 : ([] ++ pwd stB p.S (ids p.S.length) ++ pwd evB p.E (ids p.E.length) ++ pwd snB p.E p.seen ++ pwd frB p.E p.free ++ pwd fuB p.E p.faults ++ pwd scB p.S p.secret ++ pwd saB p.S p.m.starts ++ pwd enB p.S p.m.ends).length ≤ 10000 := by
    simp only [List.length_append, List.length_nil, pwd_len, ids_len]; omega
  have hHW : [] ++ pwd stB p.S (ids p.S.length) ++ pwd evB p.E (ids p.E.length) ++ pwd snB p.E p.seen ++ pwd frB p.E p.free ++ pwd fuB p.E p.faults ++ pwd scB p.S p.secret ++ pwd saB p.S p.m.starts ++ pwd enB p.S p.m.ends ++ [⟨arB.toArray⟩] = headW p := by
    unfold headW; rw [List.nil_append]
  generalize [] ++ pwd stB p.S (ids p.S.length) ++ pwd evB p.E (ids p.E.length) ++ pwd snB p.E p.seen ++ pwd frB p.E p.free ++ pwd fuB p.E p.faults ++ pwd scB p.S p.secret ++ pwd saB p.S p.m.starts ++ pwd enB p.S p.m.ends = W8 at *
  simp (disch := first | with_reducible assumption | omega) only [push_cast, x_blk, x_cd, ↓reduceIte, Nat.reduceEqDiff, List.map_cons, List.map_nil, Int.reduceEq, Int.lt_irrefl, hW8.ld, bs_22]
  refine app_rec strEnc slT_22 hW8.o ⟨arB.toArray⟩ (by omega) (by omega) (by omega) ?_
  intro A9 c9 w9 o9 g9 hA9 hs9 z9
  have hk9 := hW8.k.grown g9.by_ (hW8.o.ne_blk hW8.k (by decide)).symm
  simp (disch := first | with_reducible assumption | omega) only [push_cast, x_blk, x_cd, ↓reduceIte, Nat.reduceEqDiff, List.map_cons, List.map_nil, Int.reduceEq, Int.lt_irrefl]
  refine sto_blk hk9 (cs := [.slice A9 (W8.length + 1) c9]) (e1_sl _) rfl rfl ?_
  intro wA kA gA zA
  obtain ⟨hWA, bA8⟩ := hW8.putL (X := [⟨arB.toArray⟩]) o9 g9 kA gA
  have hHl : (headW p).length ≤ 10001 := by rw [← hHW, List.length_append, List.length_singleton]; omega
  rw [hHW] at hWA
  have hJA := hJ8.belowB bA8
  have kPA := kP8.below bA8 l2
  have bbA := bb8.trans (bA8.mono hb2)
  simp (disch := first | with_reducible assumption | omega) only [push_cast, x_blk, x_cd, ↓reduceIte, Nat.reduceEqDiff, List.map_cons, List.map_nil, Int.reduceEq, Int.lt_irrefl, kPA.jar]
  refine loop_rule (fun f w' => ∃ (k : Nat) (A : Option Addr) (c : Nat), k ≤ p.m.arrows.length ∧ (f 1 = .pointer (some ⟨w.heap.size, 0, none⟩) ∧ f 4 = .pointer (some ⟨g, 0, none⟩) ∧ f 75 = .slice a.m.Aa p.m.arrows.length a.m.ca ∧ f 76 = .int .i64 p.m.arrows.length ∧ f 77 = .int .i64 k) ∧ WMem g w' (headW p ++ arTo p k) A c ∧ Below g wA w')
    (fun f _ => p.m.arrows.length - (intOf (f 77)).toNat) ⟨0, A9, c9, Nat.zero_le _, ⟨rfl, rfl, rfl, rfl, rfl⟩, by show WMem g wA (headW p ++ []) A9 c9; rw [List.append_nil]; exact hWA, Below.refl _ _⟩ ?_
  rintro f wB ⟨k, Ak, ck, hk, fr, hWk, bA⟩ J hJ'
  have hmu : (intOf (f 77)).toNat = k := by rw [fr.2.2.2.2]; simp [intOf]
  have lgk := hWk.k.lt
  obtain ⟨al, asm⟩ := arTo_ok hM k hk
  have bbB := bbA.trans (bA.mono hb2)
  have hWl : (headW p ++ arTo p k).length ≤ 30000 := by rw [List.length_append]; omega
  by_cases hlt : k < p.m.arrows.length
  case neg =>
    obtain rfl : k = p.m.arrows.length := by omega
    simp (disch := first | with_reducible assumption | omega) only [push_cast, x_blk, x_cd, ↓reduceIte, Nat.reduceEqDiff, List.map_cons, List.map_nil, Int.reduceEq, Int.lt_irrefl, L_text_Print_0, fr, Nat.lt_irrefl, hWk.ld, bs_22]
    refine app_rec strEnc slT_22 hWk.o ⟨#[59]⟩ (by omega) (by omega) (by omega) ?_
    intro AC cC wC oC gC hAC hsC zC
    have bC := gC.below (Below.refl g wB) (by omega) hWk.o.geB
    have bbC := bbB.trans (bC.mono hb2)
    obtain ⟨W, hxW⟩ : ∃ W, headW p ++ arTo p p.m.arrows.length ++ [⟨#[59]⟩] = ⟨stB.toArray⟩ :: W := by
      unfold headW pwd
      simp only [List.cons_append]
      exact ⟨_, rfl⟩
    have hlW : (headW p ++ arTo p p.m.arrows.length).length + 1 = ((⟨stB.toArray⟩ : ByteArray) :: W).length := by rw [← hxW]; simp only [List.length_append, List.length_cons, List.length_nil]
    have htx : stB ++ sp W = txt p := by
      have h1 := words_txt p
      rw [hxW] at h1
      have h2 : sp ((⟨stB.toArray⟩ : ByteArray) :: W) = 32 :: (stB ++ sp W) := by simp [sp]
      rw [h2] at h1
      injection h1
    have tl := txt_len hM
    rw [hxW] at oC
    have hcap := oC.capS
    obtain ⟨q, rfl⟩ : ∃ q, AC = some ⟨q, 0, none⟩ := by
      rcases oC.form with ⟨h0, h1, _⟩ | ⟨q, h0, _⟩
      · rw [← hlW] at h1; omega
      · exact ⟨q, h0⟩
    simp (disch := first | with_reducible assumption | omega) only [push_cast, x_blk, x_cd, ↓reduceIte, Nat.reduceEqDiff, List.map_cons, List.map_nil, Int.reduceEq, Int.lt_irrefl]
    rw [hlW]
    refine call_of (strings_Join (OwnR.recs oC strEnc (by decide)) cC hcap (by omega) (by show (stB ++ sp W).length ≤ _; rw [htx]; omega)) ?_
    rintro v wD ⟨hv, bD⟩
    rw [show (⟨stB.toArray⟩ : ByteArray).data.toList ++ sp W = txt p from htx] at hv
    subst hv
    have bbD := bbC.trans (bD.mono bbC.size)
    by_cases hgt : (4000 : Int) < ((txt p).length : Int)
    · simp (disch := first | with_reducible assumption | omega) only [push_cast, x_blk, x_cd, ↓reduceIte, Nat.reduceEqDiff, List.map_cons, List.map_nil, Int.reduceEq, Int.lt_irrefl, ba_size, hgt]
      refine fin_2 (hQ _ _ ⟨?_, bbD⟩)
      unfold prOut
      rw [if_pos hM, if_pos (by omega)]
      simp only [push_cast, ↓reduceIte, Nat.reduceEqDiff]
    · simp (disch := first | with_reducible assumption | omega) only [push_cast, x_blk, x_cd, ↓reduceIte, Nat.reduceEqDiff, List.map_cons, List.map_nil, Int.reduceEq, Int.lt_irrefl, ba_size, hgt]
      refine fin_2 (hQ _ _ ⟨?_, bbD⟩)
      unfold prOut
      rw [if_pos hM, if_neg (by omega)]
      simp only [push_cast, ↓reduceIte, Nat.reduceEqDiff]
  obtain ⟨e1, e2, e3⟩ := hM.arr hlt
  have hsucc : arTo p (k + 1) = arTo p k ++ arW p k (p.m.arrows.getD k default) := rfl
  have hAr := (hJA.belowB bA).m.arrows
  have sAr := hAr.isSome (by omega)
  have hldA := fun {K : Fr → World → Prop} {f : Fr} {d : Option Nat} {w : World} => hAr.ldA (K := K) (f := f) (d := d) (w := w) ty_ag_36 ty_sz_36 k hlt
  simp (disch := first | with_reducible assumption | omega) only [push_cast, x_blk, x_cd, ↓reduceIte, Nat.reduceEqDiff, List.map_cons, List.map_nil, Int.reduceEq, Int.lt_irrefl, L_text_Print_0, fr, hlt, sAr, hldA]
  refine blk_of al_36 ?_
  intro w5 k5 b5 z5
  simp (disch := first | with_reducible assumption | omega) only [push_cast, x_blk, x_cd, ↓reduceIte, Nat.reduceEqDiff, List.map_cons, List.map_nil, Int.reduceEq, Int.lt_irrefl, fr]
  refine sto_blk k5 (cs := arrCells (p.m.arrows.getD k default)) ty_sz_36 rfl (by simp [arrCells, Value.oneCell']) ?_
  intro w6 k6 g6 z6
  generalize p.m.arrows.getD k default = y at *
  have bB6 := g6.below b5 b5.size (by intro a ha; injection ha with ha; subst ha; exact Nat.le_refl _)
  have hW6 := hWk.below bB6
  have b106 := bB6.mono (show g ≤ wB.heap.size by omega)
  have v1 := nm_at e1.1 e1.2
  have v2 := nm_at e2.1 e2.2
  have v3 := nm_at e3.1 e3.2
  have e10 := e1.1
  have e11 := e1.2
  have e20 := e2.1
  have e21 := e2.2
  have e30 := e3.1
  have e31 := e3.2
  replace hJA := hJA.belowB bA
  replace kPA := kPA.below bA l2
  by_cases hk0 : (0 : Int) < (k : Int)
  case neg =>
    obtain ⟨W7, hW7e⟩ : ∃ W7, W7 = headW p ++ arTo p k := ⟨_, rfl⟩
    have hfin : headW p ++ arTo p (k + 1) = W7 ++ [nm p.S y.frm, nm p.E y.evt, nm p.S y.to_] := by
      rw [hsucc, hW7e]; unfold arW; rw [if_neg (by omega)]; simp [List.append_assoc]
    rw [← hW7e] at hW6 hWl
    have hW7 := hW6
    have k7 := k6
    have b107 := b106
    generalize w6 = w7 at *
    simp (disch := first | with_reducible assumption | omega) only [push_cast, x_blk, x_cd, ↓reduceIte, Nat.reduceEqDiff, List.map_cons, List.map_nil, Int.reduceEq, Int.lt_irrefl, fr, hk0]
    have bd7 : Below w7.heap.size w7 w7.drew := (Same.refl w7).drew.below _
    have lg7 := hW7.k.lt
    have ku7 := k7.below bd7 k7.lt
    have hWu := hW7.below bd7
    have b10u := b107.trans (bd7.mono (show g ≤ w7.heap.size by omega))
    have hJu := hJA.belowB b10u
    have kPu := kPA.below b10u l2
    generalize hu7 : w7.drew = u7 at *
    have ld1 := fun {K : Fr → World → Prop} {f : Fr} {d : Option Nat} {w' : World} => hJu.S.ld (K := K) (f := f) (d := d) (w := w') v1
    have ld2 := fun {K : Fr → World → Prop} {f : Fr} {d : Option Nat} {w' : World} => hJu.E.ld (K := K) (f := f) (d := d) (w := w') v2
    have ld3 := fun {K : Fr → World → Prop} {f : Fr} {d : Option Nat} {w' : World} => hJu.S.ld (K := K) (f := f) (d := d) (w := w') v3
    have sAS := hJu.S.isSome (by omega)
    have sAE := hJu.E.isSome (by omega)
    have lgu := hWu.k.lt
    have bE : Below u7.heap.size u7 (u7.alloc (.cells [.string (nm p.S y.frm), .string (nm p.E y.evt), .string (nm p.S y.to_)].toArray 9)) := (Below.refl _ _).alloc (Nat.le_refl _) _
    simp (disch := first | with_reducible assumption | omega) only [push_cast, x_blk, x_cd, ↓reduceIte, Nat.reduceEqDiff, List.map_cons, List.map_nil, Int.reduceEq, Int.lt_irrefl, fr, hu7, hWu.ld, kPu.jS, kPu.jE, ku7.a0 ty_ag_3, ku7.a1 ty_ag_3, ku7.a2 ty_ag_3, e10, e11, e20, e21, e30, e31, sAS, sAE, ld1, ld2, ld3, bsl3_str slT_22]
    refine ⟨bE, ?_⟩
    refine app_3str slT_22 hWu.o (nm p.S y.frm) (nm p.E y.evt) (nm p.S y.to_) (by omega) (by omega) (by omega) ?_
    intro A8' c8' w8 o8 g8 z8
    have hk8 := hWu.k.grown g8.by_ (hWu.o.ne_blk hWu.k (by decide)).symm
    simp (disch := first | with_reducible assumption | omega) only [push_cast, x_blk, x_cd, ↓reduceIte, Nat.reduceEqDiff, List.map_cons, List.map_nil, Int.reduceEq, Int.lt_irrefl, fr]
    refine sto_blk hk8 (cs := [.slice A8' (W7.length + 3) c8']) (e1_sl _) rfl rfl ?_
    intro w9 k9 g9 z9
    obtain ⟨hW9, b9⟩ := hWu.putL (X := [nm p.S y.frm, nm p.E y.evt, nm p.S y.to_]) o8 g8 k9 g9
    simp (disch := first | with_reducible assumption | omega) only [push_cast, x_blk, x_cd, ↓reduceIte, Nat.reduceEqDiff, List.map_cons, List.map_nil, Int.reduceEq, Int.lt_irrefl, fr]
    exact hJ' _ _ ⟨k + 1, A8', c8', hlt, (by simp only [push_cast, ↓reduceIte, Nat.reduceEqDiff, true_and, and_true, and_self, eq_self, fr]), by rw [hfin]; exact hW9, bA.trans (b10u.trans b9)⟩ (by rw [hmu]; simp only [push_cast, ↓reduceIte, Nat.reduceEqDiff, intOf, fr]; omega)
  have hfin' : headW p ++ arTo p (k + 1) = headW p ++ arTo p k ++ [⟨#[44]⟩] ++ [nm p.S y.frm, nm p.E y.evt, nm p.S y.to_] := by
    rw [hsucc]; unfold arW; rw [if_pos (by omega)]; simp [List.append_assoc]
  simp (disch := first | with_reducible assumption | omega) only [push_cast, x_blk, x_cd, ↓reduceIte, Nat.reduceEqDiff, List.map_cons, List.map_nil, Int.reduceEq, Int.lt_irrefl, fr, hk0, hW6.ld, bs_22]
  have lg6 := hW6.k.lt
  refine app_rec strEnc slT_22 hW6.o ⟨#[44]⟩ (by omega) (by omega) (by omega) ?_
  intro AD cD wD oD gD hAD hsD zD
  have hkD := hW6.k.grown gD.by_ (hW6.o.ne_blk hW6.k (by decide)).symm
  simp (disch := first | with_reducible assumption | omega) only [push_cast, x_blk, x_cd, ↓reduceIte, Nat.reduceEqDiff, List.map_cons, List.map_nil, Int.reduceEq, Int.lt_irrefl, fr]
  refine sto_blk hkD (cs := [.slice AD ((headW p ++ arTo p k).length + 1) cD]) (e1_sl _) rfl rfl ?_
  intro w7 kS gS zS
  obtain ⟨hW7, b67⟩ := hW6.putL (X := [⟨#[44]⟩]) oD gD kS gS
  have k7 := (k6.grown gD.by_ (hW6.o.ne_blk k6 (by decide)).symm).grown gS.by_ (by simp; omega)
  have b107 := b106.trans b67
  obtain ⟨W7, hW7e⟩ : ∃ W7, W7 = headW p ++ arTo p k ++ [⟨#[44]⟩] := ⟨_, rfl⟩
  have hWl7 : W7.length ≤ 30001 := by rw [hW7e, List.length_append, List.length_singleton]; omega
  rw [← hW7e] at hW7 hfin'
  have hfin := hfin'
  simp (disch := first | with_reducible assumption | omega) only [push_cast, x_blk, x_cd, ↓reduceIte, Nat.reduceEqDiff, List.map_cons, List.map_nil, Int.reduceEq, Int.lt_irrefl, fr]
  have bd7 : Below w7.heap.size w7 w7.drew := (Same.refl w7).drew.below _
  have lg7 := hW7.k.lt
  have ku7 := k7.below bd7 k7.lt
  have hWu := hW7.below bd7
  have b10u := b107.trans (bd7.mono (show g ≤ w7.heap.size by omega))
  have hJu := hJA.belowB b10u
  have kPu := kPA.below b10u l2
  generalize hu7 : w7.drew = u7 at *
  have ld1 := fun {K : Fr → World → Prop} {f : Fr} {d : Option Nat} {w' : World} => hJu.S.ld (K := K) (f := f) (d := d) (w := w') v1
  have ld2 := fun {K : Fr → World → Prop} {f : Fr} {d : Option Nat} {w' : World} => hJu.E.ld (K := K) (f := f) (d := d) (w := w') v2
  have ld3 := fun {K : Fr → World → Prop} {f : Fr} {d : Option Nat} {w' : World} => hJu.S.ld (K := K) (f := f) (d := d) (w := w') v3
  have sAS := hJu.S.isSome (by omega)
  have sAE := hJu.E.isSome (by omega)
  have lgu := hWu.k.lt
  have bE : Below u7.heap.size u7 (u7.alloc (.cells [.string (nm p.S y.frm), .string (nm p.E y.evt), .string (nm p.S y.to_)].toArray 9)) := (Below.refl _ _).alloc (Nat.le_refl _) _
  simp (disch := first | with_reducible assumption | omega) only [push_cast, x_blk, x_cd, ↓reduceIte, Nat.reduceEqDiff, List.map_cons, List.map_nil, Int.reduceEq, Int.lt_irrefl, fr, hu7, hWu.ld, kPu.jS, kPu.jE, ku7.a0 ty_ag_3, ku7.a1 ty_ag_3, ku7.a2 ty_ag_3, e10, e11, e20, e21, e30, e31, sAS, sAE, ld1, ld2, ld3, bsl3_str slT_22]
  refine ⟨bE, ?_⟩
  refine app_3str slT_22 hWu.o (nm p.S y.frm) (nm p.E y.evt) (nm p.S y.to_) (by omega) (by omega) (by omega) ?_
  intro A8' c8' w8 o8 g8 z8
  have hk8 := hWu.k.grown g8.by_ (hWu.o.ne_blk hWu.k (by decide)).symm
  simp (disch := first | with_reducible assumption | omega) only [push_cast, x_blk, x_cd, ↓reduceIte, Nat.reduceEqDiff, List.map_cons, List.map_nil, Int.reduceEq, Int.lt_irrefl, fr]
  refine sto_blk hk8 (cs := [.slice A8' (W7.length + 3) c8']) (e1_sl _) rfl rfl ?_
  intro w9 k9 g9 z9
  obtain ⟨hW9, b9⟩ := hWu.putL (X := [nm p.S y.frm, nm p.E y.evt, nm p.S y.to_]) o8 g8 k9 g9
  simp (disch := first | with_reducible assumption | omega) only [push_cast, x_blk, x_cd, ↓reduceIte, Nat.reduceEqDiff, List.map_cons, List.map_nil, Int.reduceEq, Int.lt_irrefl, fr]
  exact hJ' _ _ ⟨k + 1, A8', c8', hlt, (by simp only [push_cast, ↓reduceIte, Nat.reduceEqDiff, true_and, and_true, and_self, eq_self, fr]), by rw [hfin]; exact hW9, bA.trans (b10u.trans b9)⟩ (by rw [hmu]; simp only [push_cast, ↓reduceIte, Nat.reduceEqDiff, intOf, fr]; omega)
end Go.Proofs.Ytpinjiikiaakaaa
