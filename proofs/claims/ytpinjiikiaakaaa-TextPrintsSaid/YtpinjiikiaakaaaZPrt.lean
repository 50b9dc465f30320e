/-
  The reference's text of a project: by its contract.
-/
import Derived.Test.YtpinjiikiaakaaaZPrj
namespace Go.Proofs.Ytpinjiikiaakaaa
set_option linter.unusedSimpArgs false
set_option linter.unusedVariables false
set_option linter.unusedSectionVars false
open Go.RowKit

theorem strba {P : Program} {K : Fr → World → Prop} {u : World} {f : Fr} {d : Option Nat} {w : World} (t : TypeId) (xo yo : Operand) (l m : List UInt8) (h : l.length + m.length ≤ 9223372036854775807) : Val1 P K (binS .add t xo yo (.string ⟨l.toArray⟩) (.string ⟨m.toArray⟩)) u f d w = K (updO f d (.string ⟨(l ++ m).toArray⟩)) w := by
  have e : (⟨l.toArray⟩ : ByteArray) ++ ⟨m.toArray⟩ = ⟨(l ++ m).toArray⟩ := by
    refine ba_inj ?_
    rw [ByteArray.data_append]
    simp
  rw [bin_stradd t xo yo _ _ (by
    have h1 : (⟨l.toArray⟩ : ByteArray).size = l.length := by simp [ByteArray.size]
    have h2 : (⟨m.toArray⟩ : ByteArray).size = m.length := by simp [ByteArray.size]
    omega), e]
theorem Strs.ldb {K : Fr → World → Prop} {u : World} {f : Fr} {d : Option Nat} {w : World} {i : Nat} {ok : Nat → Prop} {A : Option Addr} {l : List ByteArray} {s : ByteArray} (h : Strs ok u A l) (hi : l[i]? = some s) :
    Val1 Try.prog K (Instr.loadAt 9 (.pointer (some (eA A i)))) u f d w = K (updO f d (.string ⟨s.data.toList.toArray⟩)) w := by rw [ba_list]; exact h.ld hi
def nm (names : List ByteArray) (x : Int) : ByteArray := names.getD x.toNat ⟨#[]⟩
theorem nm_at {names : List ByteArray} {x : Int} (h0 : 0 ≤ x) (h1 : x < names.length) : names[x.toNat]? = some (nm names x) := by
  unfold nm
  rw [List.getD_eq_getElem?_getD, List.getElem?_eq_getElem (by omega)]; rfl
/-- Words, a blank ahead of each. -/
def sp (W : List ByteArray) : List UInt8 := W.flatMap fun s => 32 :: s.data.toList
theorem sp_snoc (W : List ByteArray) (s : ByteArray) : sp (W ++ [s]) = sp W ++ 32 :: s.data.toList := by simp [sp]
theorem sp_len {W : List ByteArray} (h : ∀ s ∈ W, s.data.toList.length ≤ 16) : (sp W).length ≤ 17 * W.length := by
  induction W with
  | nil => simp [sp]
  | cons s W ih =>
    have h1 := h s List.mem_cons_self
    have h2 := ih fun s hs => h s (List.mem_cons_of_mem _ hs)
    unfold sp at *
    rw [List.flatMap_cons, List.length_append, List.length_cons, List.length_cons]
    omega
def SmallN (names : List ByteArray) : Prop := ∀ s ∈ names, s.data.toList.length ≤ 16
def nms (names : List ByteArray) (l : List Int) : List ByteArray := l.map (nm names)
theorem nms_small {names : List ByteArray} {l : List Int} (hn : SmallN names) (hl : ∀ x ∈ l, 0 ≤ x ∧ x < names.length) : ∀ s ∈ nms names l, s.data.toList.length ≤ 16 := fun s hs => by
  obtain ⟨x, hx, rfl⟩ := List.mem_map.1 hs
  exact hn _ (List.mem_of_getElem? (nm_at (hl x hx).1 (hl x hx).2))
theorem ref16_listed {w : World} (pt : List UInt8) (hpt : pt.length ≤ 1000) {A : Option Addr} {names : List ByteArray} (h : Strs (· < w.heap.size) w A names) (c : Nat) (hn : SmallN names)
    {A2 : Option Addr} {l : List Int} (h2 : Ints (· < w.heap.size) w A2 l) (c2 : Nat) (hl : ∀ x ∈ l, 0 ≤ x ∧ x < names.length) (nl : l.length ≤ 1000) :
    Cal Try.prog 11 [.string ⟨pt.toArray⟩, .slice A names.length c, .slice A2 l.length c2] w fun v w' => v = .string ⟨(pt ++ sp (nms names l) ++ [32, 59, 32]).toArray⟩ ∧ Same w w' := by
  refine cal_ref16_listed (by simp) 1000 fun Q hQ => ?_
  simp (disch := first | with_reducible assumption | omega) only [push_cast, x_blk, x_cd, ↓reduceIte, Nat.reduceEqDiff, List.map_cons, List.map_nil, Int.reduceEq, Int.lt_irrefl, F_ref16_listed]
  refine loop_rule (fun f w' => ∃ k : Nat, k ≤ l.length ∧ (f 1 = .slice A names.length c ∧ f 2 = .slice A2 l.length c2 ∧ f 7 = .string ⟨(pt ++ sp (nms names (l.take k))).toArray⟩ ∧ f 8 = .int .i64 k) ∧ Same w w')
    (fun f _ => l.length - (intOf (f 8)).toNat) ⟨0, Nat.zero_le _, ⟨rfl, rfl, by simp [sp, nms, upd], rfl⟩, Same.refl w⟩ ?_
  rintro f w1 ⟨k, hk, fr, s1⟩ J hJ
  have hmu : (intOf (f 8)).toNat = k := by rw [fr.2.2.2]; simp [intOf]
  have hsl := sp_len (nms_small hn fun x hx => hl x (List.mem_of_mem_take (i := k) hx))
  have hml : (nms names (l.take k)).length = k := by unfold nms; rw [List.length_map, List.length_take]; omega
  generalize hX : sp (nms names (l.take k)) = X at *
  by_cases hlt : k < l.length
  case neg =>
    obtain rfl : k = l.length := by omega
    rw [List.take_length] at hX
    simp (disch := first | with_reducible assumption | omega | (simp only [List.length_append, List.length_cons, List.length_nil]; omega)) only [push_cast, x_blk, x_cd, ↓reduceIte, Nat.reduceEqDiff, List.map_cons, List.map_nil, Int.reduceEq, Int.lt_irrefl, L_ref16_listed_0, fr, Nat.lt_irrefl, strba]
    exact fin_1 (hQ _ _ ⟨by simp only [push_cast, ↓reduceIte, Nat.reduceEqDiff, hX], s1⟩)
  have hx := hl (l.getD k 0) (by rw [List.getD_eq_getElem?_getD, List.getElem?_eq_getElem hlt]; exact List.getElem_mem hlt)
  have hts : l.take (k + 1) = l.take k ++ [l.getD k 0] := take_snoc l 0 k hlt
  have i2 := h2.same s1
  have i1 := h.same s1
  have sA2 := h2.isSome (by omega)
  have sA := h.isSome (by omega)
  have ld2 := fun {K : Fr → World → Prop} {f : Fr} {d : Option Nat} {w' : World} => i2.ld (P := Try.prog) (K := K) (f := f) (d := d) (w := w') ty_ag_3 k hlt
  generalize l.getD k 0 = x at *
  have hnx := nm_at hx.1 hx.2
  have h16 := hn _ (List.mem_of_getElem? hnx)
  have ld1 := fun {K : Fr → World → Prop} {f : Fr} {d : Option Nat} {w' : World} => i1.ldb (K := K) (f := f) (d := d) (w := w') hnx
  have hx1 : x < (names.length : Int) := hx.2
  have hx0 : 0 ≤ x := hx.1
  have hf7 := fr.2.2.1
  simp (disch := first | with_reducible assumption | omega | (simp only [List.length_append, List.length_cons, List.length_nil]; omega)) only [push_cast, x_blk, x_cd, ↓reduceIte, Nat.reduceEqDiff, List.map_cons, List.map_nil, Int.reduceEq, Int.lt_irrefl, L_ref16_listed_0, fr, hlt, sA2, ld2, sA, ld1, hx0, hx1, strba]
  exact hJ _ _ ⟨k + 1, hlt, ⟨(by simp only [push_cast, ↓reduceIte, Nat.reduceEqDiff, Int.reduceEq, fr]), (by simp only [push_cast, ↓reduceIte, Nat.reduceEqDiff, Int.reduceEq, fr]), by
    simp only [push_cast, ↓reduceIte, Nat.reduceEqDiff]
    rw [hts]
    unfold nms
    rw [List.map_append, List.map_cons, List.map_nil, sp_snoc]
    show _ = Value.string ⟨(pt ++ (sp (nms names (l.take k)) ++ 32 :: (nm names x).data.toList)).toArray⟩
    rw [hX]
    simp [List.append_assoc], (by simp only [push_cast, ↓reduceIte, Nat.reduceEqDiff, Int.reduceEq])⟩, s1⟩ (by rw [hmu]; simp only [push_cast, ↓reduceIte, Nat.reduceEqDiff, intOf, fr]; omega)
end Go.Proofs.Ytpinjiikiaakaaa
