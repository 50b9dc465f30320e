/-
  The words of a project's text as they are written: all, write: by their contracts.
-/
import Derived.Test.YtpinjiikiaakaaaZPru
import Derived.Test.YtpinjiikiaakaaaZTyB
namespace Go.Proofs.Ytpinjiikiaakaaa
set_option linter.unusedSimpArgs false
set_option linter.unusedVariables false
set_option linter.unusedSectionVars false
open Go.RowKit

def ids (n : Nat) : List Int := (List.range n).map fun (i : Nat) => (i : Int)
theorem ids_succ (n : Nat) : ids (n + 1) = ids n ++ [(n : Int)] := by unfold ids; rw [List.range_succ, List.map_append]; rfl
theorem ids_len (n : Nat) : (ids n).length = n := by unfold ids; simp
theorem ids_mem {n : Nat} : ∀ x ∈ ids n, 0 ≤ x ∧ x < n := fun x hx => by
  obtain ⟨i, hi, rfl⟩ := List.mem_map.1 hx
  have := List.mem_range.1 hi; omega
theorem nms_ids (l : List ByteArray) : nms l (ids l.length) = l := by
  unfold nms ids
  rw [List.map_map]
  refine List.ext_getElem (by simp) fun i h1 h2 => ?_
  simp only [List.getElem_map, List.getElem_range, Function.comp_apply]
  have := nm_at (names := l) (x := (i : Int)) (by omega) (by omega)
  rw [Int.toNat_natCast, List.getElem?_eq_getElem h2] at this
  exact (Option.some.inj this).symm
theorem text_all {w : World} (n : Nat) (hn : n ≤ 1000) :
    Cal Try.prog 8 [.int .i64 n] w fun v w' => (∃ (A : Option Addr) (c : Nat), v = .slice A (ids n).length c ∧ OwnI w.heap.size 3 w' A c (ids n)) ∧ Below w.heap.size w w' := by
  refine cal_text_Print_2 (by simp) 1000 fun Q hQ => ?_
  simp (disch := first | with_reducible assumption | omega) only [push_cast, x_blk, x_cd, ↓reduceIte, Nat.reduceEqDiff, List.map_cons, List.map_nil, Int.reduceEq, Int.lt_irrefl, F_text_Print_2]
  refine loop_rule (fun f w' => ∃ (k : Nat) (A : Option Addr) (c : Nat), k ≤ n ∧ (f 2 = .slice A (ids k).length c ∧ f 4 = .int .i64 n ∧ f 5 = .int .i64 k) ∧ OwnI w.heap.size 3 w' A c (ids k) ∧ Below w.heap.size w w')
    (fun f _ => n - (intOf (f 5)).toNat) ⟨0, none, 0, Nat.zero_le _, ⟨rfl, rfl, rfl⟩, Own.nil _ _ _ _, Below.refl _ _⟩ ?_
  rintro f w1 ⟨k, A, c, hk, fr, o1, b1⟩ J hJ
  have hmu : (intOf (f 5)).toNat = k := by rw [fr.2.2]; simp [intOf]
  have hil := ids_len k
  by_cases hlt : k < n
  case neg =>
    obtain rfl : k = n := by omega
    simp (disch := first | with_reducible assumption | omega) only [push_cast, x_blk, x_cd, ↓reduceIte, Nat.reduceEqDiff, List.map_cons, List.map_nil, Int.reduceEq, Int.lt_irrefl, L_text_Print_2_0, fr, Nat.lt_irrefl]
    exact fin_1 (hQ _ _ ⟨⟨A, c, (by simp only [push_cast, ↓reduceIte, Nat.reduceEqDiff, Int.reduceEq, fr]), o1⟩, b1⟩)
  simp (disch := first | with_reducible assumption | omega) only [push_cast, x_blk, x_cd, ↓reduceIte, Nat.reduceEqDiff, List.map_cons, List.map_nil, Int.reduceEq, Int.lt_irrefl, L_text_Print_2_0, fr, hlt, bs_23]
  refine app_int slT_23 o1 (k : Int) (by omega) b1.size ?_
  intro A' c' w' o' g' _ _ z'
  simp (disch := first | with_reducible assumption | omega) only [push_cast, x_blk, x_cd, ↓reduceIte, Nat.reduceEqDiff, List.map_cons, List.map_nil, Int.reduceEq, Int.lt_irrefl, fr]
  exact hJ _ _ ⟨k + 1, A', c', hlt, (by simp only [push_cast, ↓reduceIte, Nat.reduceEqDiff, true_and, and_true, and_self, eq_self, fr, ids_len]), by rw [ids_succ]; exact o', g'.below b1 b1.size o1.geB⟩ (by rw [hmu]; simp only [push_cast, ↓reduceIte, Nat.reduceEqDiff, intOf, fr]; omega)
def pwd (pt : List UInt8) (names : List ByteArray) (l : List Int) : List ByteArray := ⟨pt.toArray⟩ :: nms names l ++ [⟨#[59]⟩]
/-- The words so far, in their variable. -/
structure WMem (g : Nat) (w : World) (W : List ByteArray) (A : Option Addr) (c : Nat) : Prop where
  k : Blk w g 22 [.slice A W.length c]
  o : OwnR strE g 9 1 w A c W
theorem e1_sl (v : Value) : tySize Try.prog 22 = some [v].length := by kernel_rfl
theorem WMem.ld {K : Fr → World → Prop} {u w : World} {f : Fr} {d : Option Nat} {g c : Nat} {W : List ByteArray} {A : Option Addr} (h : WMem g u W A c) : Val1 Try.prog K (Instr.loadAt 22 (.pointer (some ⟨g, 0, none⟩))) u f d w = K (updO f d (.slice A W.length c)) w := h.k.ld ty_ag_22 0 (by simp)
theorem WMem.below {w w' : World} {g c : Nat} {W : List ByteArray} {A : Option Addr} (h : WMem g w W A c) (b : Below w.heap.size w w') : WMem g w' W A c := ⟨h.k.below b h.k.lt, h.o.below b (Nat.le_refl _)⟩
/-- One more word, appended and stored. -/
theorem WMem.put {w w1 w2 : World} {g c c' : Nat} {W : List ByteArray} {A A' : Option Addr} {x : ByteArray} (h : WMem g w W A c) (o' : OwnR strE g 9 1 w1 A' c' (W ++ [x])) (g1 : Grew w w1 A) (k2 : Blk w2 g 22 [.slice A' (W.length + 1) c']) (g2 : Grew w1 w2 (some ⟨g, 0, none⟩)) :
    WMem g w2 (W ++ [x]) A' c' ∧ Below g w w2 ∧ KeepT [3] g w w2 := by
  have hk1 : Blk w1 g 22 [.slice A W.length c] := h.k.grown g1.by_ (h.o.ne_blk h.k (by decide)).symm
  refine ⟨⟨by rw [List.length_append]; exact k2, o'.grew g2 (.inr (o'.ne_blk hk1 (by decide)))⟩, ?_, ?_⟩
  · exact g2.below (g1.below (Below.refl _ _) (Nat.le_of_lt h.k.lt) h.o.geB) (Nat.le_of_lt hk1.lt) (by intro a ha; injection ha with ha; subst ha; exact Nat.le_refl _)
  · exact (KeepT.grew h.o (Nat.le_refl _) (by decide) g1).trans (KeepT.grewB hk1 (Nat.le_refl _) (by decide) g2)
set_option maxHeartbeats 2000000 in
theorem text_write {w : World} {g : Nat} (pt : List UInt8) {A : Option Addr} {names : List ByteArray} (h : Strs (· < g) w A names) (c : Nat)
    {A2 : Option Addr} {l : List Int} (h2 : Ints (TyB [3] g w) w A2 l) (c2 : Nat) (hl : ∀ x ∈ l, 0 ≤ x ∧ x < names.length) (nl : l.length ≤ 1000)
    {W : List ByteArray} {Aw : Option Addr} {cw : Nat} (hW : WMem g w W Aw cw) (nW : W.length ≤ 100000) :
    Cal Try.prog 7 [.string ⟨pt.toArray⟩, .slice A names.length c, .slice A2 l.length c2, .pointer (some ⟨g, 0, none⟩)] w fun v w' => (∃ (A' : Option Addr) (c' : Nat), v = .tuple #[] ∧ WMem g w' (W ++ pwd pt names l) A' c') ∧ Below g w w' := by
  have hgw := hW.k.lt
  refine cal_text_Print_1 (by simp) 100000 fun Q hQ => ?_
  simp (disch := first | with_reducible assumption | omega) only [push_cast, x_blk, x_cd, ↓reduceIte, Nat.reduceEqDiff, List.map_cons, List.map_nil, Int.reduceEq, Int.lt_irrefl, F_text_Print_1, hW.ld, bs_22]
  refine app_rec strEnc slT_22 hW.o ⟨pt.toArray⟩ (by omega) (by omega) (by omega) ?_
  intro A3 c3 w3 o3 g3 hA3 hs3 z3
  have hk3 : Blk w3 g 22 [.slice Aw W.length cw] := hW.k.grown g3.by_ (hW.o.ne_blk hW.k (by decide)).symm
  simp (disch := first | with_reducible assumption | omega) only [push_cast, x_blk, x_cd, ↓reduceIte, Nat.reduceEqDiff, List.map_cons, List.map_nil, Int.reduceEq, Int.lt_irrefl]
  refine sto_blk hk3 (cs := [.slice A3 (W.length + 1) c3]) (e1_sl _) rfl rfl ?_
  intro w4 k4 g4 z4
  obtain ⟨hW4, b4, kt4⟩ := hW.put o3 g3 k4 g4
  have hz4 := b4.size
  simp (disch := first | with_reducible assumption | omega) only [push_cast, x_blk, x_cd, ↓reduceIte, Nat.reduceEqDiff, List.map_cons, List.map_nil, Int.reduceEq, Int.lt_irrefl]
  refine loop_rule (fun f w' => ∃ (k : Nat) (A' : Option Addr) (c' : Nat), k ≤ l.length ∧ (f 1 = .slice A names.length c ∧ f 3 = .pointer (some ⟨g, 0, none⟩) ∧ f 13 = .slice A2 l.length c2 ∧ f 14 = .int .i64 l.length ∧ f 15 = .int .i64 k) ∧ WMem g w' (W ++ ⟨pt.toArray⟩ :: nms names (l.take k)) A' c' ∧ KeepT [3] g w w' ∧ Below g w w')
    (fun f _ => l.length - (intOf (f 15)).toNat) ⟨0, A3, c3, Nat.zero_le _, ⟨rfl, rfl, rfl, rfl, rfl⟩, hW4, kt4, b4⟩ ?_
  rintro f w5 ⟨k, A5, c5, hk, fr, hW5, kt5, b5⟩ J hJ
  have hmu : (intOf (f 15)).toNat = k := by rw [fr.2.2.2.2]; simp [intOf]
  have nW5 : (W ++ ⟨pt.toArray⟩ :: nms names (l.take k)).length ≤ 110000 := by
    rw [List.length_append, List.length_cons]; unfold nms; rw [List.length_map, List.length_take]; omega
  have hgw5 := hW5.k.lt
  by_cases hlt : k < l.length
  case neg =>
    obtain rfl : k = l.length := by omega
    rw [List.take_length] at hW5 nW5
    simp (disch := first | with_reducible assumption | omega) only [push_cast, x_blk, x_cd, ↓reduceIte, Nat.reduceEqDiff, List.map_cons, List.map_nil, Int.reduceEq, Int.lt_irrefl, L_text_Print_1_0, fr, Nat.lt_irrefl, hW5.ld, bs_22]
    refine app_rec strEnc slT_22 hW5.o ⟨#[59]⟩ (by omega) (by omega) (by omega) ?_
    intro A6 c6 w6 o6 g6 hA6 hs6 z6
    have hk6 := hW5.k.grown g6.by_ (hW5.o.ne_blk hW5.k (by decide)).symm
    simp (disch := first | with_reducible assumption | omega) only [push_cast, x_blk, x_cd, ↓reduceIte, Nat.reduceEqDiff, List.map_cons, List.map_nil, Int.reduceEq, Int.lt_irrefl, fr]
    refine sto_blk hk6 (cs := [.slice A6 ((W ++ ⟨pt.toArray⟩ :: nms names l).length + 1) c6]) (e1_sl _) rfl rfl ?_
    intro w7 k7 g7 z7
    obtain ⟨hW7, b7, kt7⟩ := hW5.put o6 g6 k7 g7
    simp (disch := first | with_reducible assumption | omega) only [push_cast, x_blk, x_cd, ↓reduceIte, Nat.reduceEqDiff, List.map_cons, List.map_nil, Int.reduceEq, Int.lt_irrefl]
    refine fin_0 (hQ _ _ ⟨⟨A6, c6, rfl, ?_⟩, b5.trans b7⟩)
    have e : W ++ pwd pt names l = W ++ ⟨pt.toArray⟩ :: nms names l ++ [⟨#[59]⟩] := by unfold pwd; simp [List.append_assoc]
    rw [e]; exact hW7
  have hx := hl (l.getD k 0) (by rw [List.getD_eq_getElem?_getD, List.getElem?_eq_getElem hlt]; exact List.getElem_mem hlt)
  have hts : l.take (k + 1) = l.take k ++ [l.getD k 0] := take_snoc l 0 k hlt
  have i2 := h2.keepT kt5
  have sA2 := h2.isSome (by omega)
  have ld2 := fun {K : Fr → World → Prop} {f : Fr} {d : Option Nat} {w' : World} => i2.ld (P := Try.prog) (K := K) (f := f) (d := d) (w := w') ty_ag_3 k hlt
  generalize l.getD k 0 = x at *
  have hnx := nm_at hx.1 hx.2
  have sA := h.isSome (by omega)
  have bd5 : Below w5.heap.size w5 w5.drew := (Same.refl w5).drew.below _
  have hWu := hW5.below bd5
  have b5u := b5.trans (bd5.mono (by omega))
  have hu5 := h.below b5u
  have ktu := kt5.trans (KeepT.below bd5)
  generalize hu : w5.drew = u at *
  have ld1 := fun {K : Fr → World → Prop} {f : Fr} {d : Option Nat} {w' : World} => Strs.ld (K := K) (f := f) (d := d) (w := w') hu5 hnx
  have hx1 : x < (names.length : Int) := hx.2
  have hx0 : 0 ≤ x := hx.1
  have hgu := hWu.k.lt
  have bE : Below u.heap.size u (u.alloc (.cells [.string (nm names x)].toArray 9)) := (Below.refl _ _).alloc (Nat.le_refl _) _
  simp (disch := first | with_reducible assumption | omega) only [push_cast, x_blk, x_cd, ↓reduceIte, Nat.reduceEqDiff, List.map_cons, List.map_nil, Int.reduceEq, Int.lt_irrefl, L_text_Print_1_0, fr, hlt, sA2, ld2, hu, hWu.ld, hx0, hx1, sA, ld1, bs_22]
  refine ⟨bE, ?_⟩
  refine app_rec strEnc slT_22 hWu.o (nm names x) (by omega) (by omega) (by omega) ?_
  intro A6 c6 w6 o6 g6 hA6 hs6 z6
  have hk6 := hWu.k.grown g6.by_ (hWu.o.ne_blk hWu.k (by decide)).symm
  simp (disch := first | with_reducible assumption | omega) only [push_cast, x_blk, x_cd, ↓reduceIte, Nat.reduceEqDiff, List.map_cons, List.map_nil, Int.reduceEq, Int.lt_irrefl, fr]
  refine sto_blk hk6 (cs := [.slice A6 ((W ++ ⟨pt.toArray⟩ :: nms names (l.take k)).length + 1) c6]) (e1_sl _) rfl rfl ?_
  intro w7 k7 g7 z7
  obtain ⟨hW7, b7, kt7⟩ := hWu.put o6 g6 k7 g7
  simp (disch := first | with_reducible assumption | omega) only [push_cast, x_blk, x_cd, ↓reduceIte, Nat.reduceEqDiff, List.map_cons, List.map_nil, Int.reduceEq, Int.lt_irrefl, fr]
  have e : W ++ ⟨pt.toArray⟩ :: nms names (l.take (k + 1)) = W ++ ⟨pt.toArray⟩ :: nms names (l.take k) ++ [nm names x] := by rw [hts]; unfold nms; simp [List.append_assoc]
  exact hJ _ _ ⟨k + 1, A6, c6, hlt, (by simp only [push_cast, ↓reduceIte, Nat.reduceEqDiff, true_and, and_true, and_self, eq_self, fr]), by rw [e]; exact hW7, ktu.trans kt7, b5u.trans b7⟩ (by rw [hmu]; simp only [push_cast, ↓reduceIte, Nat.reduceEqDiff, intOf, fr]; omega)
end Go.Proofs.Ytpinjiikiaakaaa
