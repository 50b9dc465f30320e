/-
  strings.Join, by the library's contract.
-/
import Derived.Test.YtpinjiikiaakaaaZPrw
import Derived.Room.Shelf.Join48
namespace Go.Proofs.Ytpinjiikiaakaaa
set_option linter.unusedSimpArgs false
set_option linter.unusedVariables false
set_option linter.unusedSectionVars false
open Go.Shelf Go.RowKit
def laysJoin_ren : Go.Shelf.Ren := ⟨fun | 156 => 9 | 165 => 15 | 166 => 16 | 169 => 17 | 240 => 25 | 241 => 26 | 276 => 36 | 277 => 37 | n => n, fun | 31 => 22 | 9 => 9 | 3 => 3 | 4 => 4 | 0 => 0 | 20 => 20 | 72 => 45 | 76 => 49 | 70 => 42 | 37 => 43 | 75 => 48 | 127 => 57 | 164 => 63 | 5 => 5 | 80 => 51 | n => n, fun | n => n⟩
theorem laysJoin : Go.Proofs.Lays.n156 Try.prog laysJoin_ren where
  mixed := by kernel_rfl
  f156 := Try.func9.trans (congrArg some (by kernel_rfl))
  f165 := Try.func15.trans (congrArg some (by kernel_rfl))
  f166 := Try.func16.trans (congrArg some (by kernel_rfl))
  f169 := Try.func17.trans (congrArg some (by kernel_rfl))
  f240 := Try.func25.trans (congrArg some (by kernel_rfl))
  f241 := Try.func26.trans (congrArg some (by kernel_rfl))
  f276 := Try.func36.trans (congrArg some (by kernel_rfl))
  f277 := Try.func37.trans (congrArg some (by kernel_rfl))
  t0 := Try.underlying0
  a0 := Try.isAgg0
  z0 := Try.sizeOf0
  v0 := Try.zeroValue0
  t3 := Try.underlying3
  a3 := Try.isAgg3
  z3 := Try.sizeOf3
  v3 := Try.zeroValue3
  t4 := Try.underlying4
  a4 := Try.isAgg4
  z4 := Try.sizeOf4
  v4 := Try.zeroValue4
  t9 := Try.underlying9
  a9 := Try.isAgg9
  z9 := Try.sizeOf9
  v9 := Try.zeroValue9
  t20 := Try.underlying20
  a20 := Try.isAgg20
  z20 := Try.sizeOf20
  v20 := Try.zeroValue20
  t31 := Try.underlying22
  a31 := Try.isAgg22
  z31 := Try.sizeOf22
  v31 := Try.zeroValue22
  t37 := Try.underlying43
  a37 := Try.isAgg43
  z37 := Try.sizeOf43
  v37 := Try.zeroValue43
  t70 := Try.underlying42
  a70 := Try.isAgg42
  z70 := Try.sizeOf42
  v70 := Try.zeroValue42
  t72 := Try.underlying45
  a72 := Try.isAgg45
  z72 := Try.sizeOf45
  v72 := Try.zeroValue45
  t75 := Try.underlying48
  a75 := Try.isAgg48
  z75 := Try.sizeOf48
  v75 := Try.zeroValue48
  t76 := Try.underlying49
  a76 := Try.isAgg49
  z76 := Try.sizeOf49
  v76 := Try.zeroValue49
  t127 := Try.underlying57
  a127 := Try.isAgg57
  z127 := Try.sizeOf57
  v127 := Try.zeroValue57
  t164 := Try.underlying63
  a164 := Try.isAgg63
  z164 := Try.sizeOf63
  v164 := Try.zeroValue63
theorem extraJ : Builder.Extra Try.prog laysJoin_ren where
  sizeBuilder := by kernel_rfl
  liesBuilder := by kernel_rfl
  t5 := by kernel_rfl
  a5 := Try.isAgg5
  z5 := Try.sizeOf5
  v5 := Try.zeroValue5
  infoByte := by kernel_rfl
  cellsByte := by kernel_rfl
  sizeByte := by kernel_rfl
  neB5 := by decide
theorem join_sp (x : ByteArray) (W : List ByteArray) : Lib.join ((x :: W).map (·.data.toList)) [32] = x.data.toList ++ sp W := by
  rw [List.map_cons, Lib.join_cons]
  congr 1
  induction W with
  | nil => simp [Lib.joinTail, sp]
  | cons y W ih =>
    unfold Lib.joinTail at *
    unfold sp at *
    rw [List.map_cons, List.map_cons, List.flatten_cons, ih, List.flatMap_cons]
    rfl
theorem join_no : laysJoin_ren.f 156 = 9 := by kernel_rfl
theorem strings_Join {w : World} {g : Nat} {x : ByteArray} {W : List ByteArray} {ok : Nat → Prop} (h : Strs ok w (some ⟨g, 0, none⟩) (x :: W)) (c : Nat) (hc : (x :: W).length ≤ c) (hn : (x :: W).length ≤ 1000000) (hl : (x.data.toList ++ sp W).length ≤ 281474976710656) :
    Cal Try.prog 9 [.slice (some ⟨g, 0, none⟩) (x :: W).length c, .string ⟨#[32]⟩] w fun v w' => v = .string ⟨(x.data.toList ++ sp W).toArray⟩ ∧ Below w.heap.size w w' := by
  have hlt : g < w.heap.size := (Recs.lt strEnc (by decide) h).block (by simp)
  have hcell : ∀ (j : Nat) (y : ByteArray), (x :: W)[j]? = some y → w.cell? ⟨g, 0 + j, none⟩ = some (.string y) := fun j y hy => by
    have h1 := h.cell j y hy 0 (.string y) rfl
    rw [eA_some, Nat.mul_one, Nat.add_zero] at h1
    have e : (⟨g, 0, none⟩ : Addr).add j = ⟨g, 0 + j, none⟩ := by
      unfold Addr.add
      by_cases hj0 : j = 0 <;> simp [hj0]
    rwa [e] at h1
  have hj : (Lib.join ((x :: W).map (·.data.toList)) [32]) = x.data.toList ++ sp W := join_sp x W
  have hN : (x :: W).length ≤ 140737488355328 := by omega
  have hlen : (Lib.join ((x :: W).map (·.data.toList)) (⟨#[32]⟩ : ByteArray).data.toList).length ≤ 281474976710656 := by
    show (Lib.join ((x :: W).map (·.data.toList)) [32]).length ≤ _
    rw [hj]; exact hl
  have hJ := Any.strings_Join_48 laysJoin extraJ g 0 c (x :: W) ⟨#[32]⟩ w hcell hlt hN hc hlen
  rw [join_no] at hJ
  refine ⟨k_strings_Join, hJ.mono ?_⟩
  rintro e w' ⟨rfl, b⟩
  refine ⟨_, rfl, ?_, b⟩
  show Value.string ⟨(Lib.join ((x :: W).map (·.data.toList)) [32]).toArray⟩ = _
  rw [hj]
section
variable {P : Program} {K : Fr → World → Prop} {f : Fr} {d : Option Nat} {w : World} {A : Option Addr} {l : List ByteArray} {B e bytes t ty c : Nat}
theorem fill_3v (x y z : Value) (a b c : ByteArray) : Instr.fill (fun i => some (i * 1, 1)) #[x, y, z] [(0, .string a), (1, .string b), (2, .string c)] = some #[.string a, .string b, .string c] := by
  simp [Instr.fill, Value.cells]
theorem bsl3_str {e bytes : Nat} (hT : SlT P t e 1 bytes) (a b c : ByteArray) :
    Eff1 P K (Instr.buildSlice t 3 #[(0, .string a), (1, .string b), (2, .string c)]) f d w = K (updO f d (.slice (some ⟨w.heap.size, 0, none⟩) 3 3)) (w.alloc (.cells [.string a, .string b, .string c].toArray e)) := by
  obtain ⟨i, z, hi, hz, hs, hb, hc⟩ := hT.get
  refine eff1_of ?_
  have hz3 : (Array.range 3).map (z.cells[· % z.cells.size]!) = #[z.cells[0 % z.cells.size]!, z.cells[1 % z.cells.size]!, z.cells[2 % z.cells.size]!] := by
    apply Array.ext'; simp [List.range_succ]
  have hf := fill_3v (z.cells[0 % z.cells.size]!) (z.cells[1 % z.cells.size]!) (z.cells[2 % z.cells.size]!) a b c
  rw [← hz3] at hf
  simp only [Instr.buildSlice, run_underlying hT.under, sizeOf, typeInfo, Sem.run_bind, Result.andThen_ok]
  simp only [Nat.mul_one] at hf
  simp [hi, hs, zeroValue, typeInfo, hz, newRow, hf]
theorem app_3str (hT : SlT P t e 1 bytes) (hown : OwnR strE B e 1 w A c l) (x y z : ByteArray) (hl : (l.length + 3) * bytes ≤ 140737488355328) (h63 : l.length + 3 ≤ 9223372036854775807) (hB : B ≤ w.heap.size)
    (hk : ∀ A' c' w', OwnR strE B e 1 w' A' c' (l ++ [x, y, z]) → Grew w w' A → w.heap.size ≤ w'.heap.size → K (updO f d (.slice A' (l.length + 3) c')) w') :
    Eff1 P K (Builtin.append_ #[t, t] ty #[.slice A l.length c, .slice (some ⟨w.heap.size, 0, none⟩) 3 3]) f d (w.alloc (.cells [.string x, .string y, .string z].toArray e)) := by
  refine append_own hT ty (hown.alloc _) (rd_new w [.string x, .string y, .string z] e) (by simp) (by simp [Value.oneCell']) hl h63 (by simp; omega) ?_
  intro A' c' w' ho hg hA hs hz
  have hz' : w.heap.size ≤ w'.heap.size := by have : (w.alloc (.cells [.string x, .string y, .string z].toArray e)).heap.size = w.heap.size + 1 := by simp
                                              omega
  refine hk A' c' w' ?_ ⟨⟨hg.by_.os, hg.by_.tape, hg.by_.output, hz', fun k hk hne => ?_⟩⟩ hz'
  · unfold OwnR
    rw [List.flatMap_append, List.length_append]
    exact ho
  · rw [hg.by_.block k (by simp; omega) hne, Below.heap_alloc w _ k hk]
end
end Go.Proofs.Ytpinjiikiaakaaa
