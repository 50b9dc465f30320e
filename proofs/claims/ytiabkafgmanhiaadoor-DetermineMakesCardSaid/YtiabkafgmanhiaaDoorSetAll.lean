/-
  Chapter 2: the program's All goes over a set's numbers, rising: by its contract.
-/
import Derived.Test.YtiabkafgmanhiaaDoorTz
import Derived.RangeFuncNested
import Derived.RangeFuncBox
import Derived.RangeFuncBound
import Derived.RangeFuncCalls
import Derived.RangeFuncLeaves
import Derived.Shelf.Abstract
import Derived.WalkKit
import Derived.OwnWalkIn
import Derived.TacticsInMore
import Derived.LoopNIn
import Derived.LoopIn
namespace Go.Proofs.YtiabkafgmanhiaaDoor
set_option linter.unusedSimpArgs false
set_option linter.unusedVariables false
set_option linter.unusedSectionVars false
open Go.RowKit Go.Shelf

attribute [local go_sem] Oper.semAt_some

/-- The numbers below b that a list has, rising. -/
def rowUpto (S : List Int) (b : Nat) : List Int := ((List.range b).filter fun (n : Nat) => decide ((n : Int) ∈ S)).map fun (n : Nat) => (n : Int)
abbrev rowS (S : List Int) : List Int := rowUpto S 256
theorem rowUpto_succ (S : List Int) (b : Nat) : rowUpto S (b + 1) = rowUpto S b ++ (if (b : Int) ∈ S then [(b : Int)] else []) := by
  unfold rowUpto
  rw [List.range_succ, List.filter_append, List.map_append]
  congr 1
  by_cases h : (b : Int) ∈ S <;> simp [h]
theorem rowUpto_gap (S : List Int) (b c : Nat) (hbc : b ≤ c) (h : ∀ j, b ≤ j → j < c → (j : Int) ∉ S) : rowUpto S c = rowUpto S b := by
  obtain ⟨d, rfl⟩ := Nat.le.dest hbc
  clear hbc
  induction d with
  | zero => rfl
  | succ d ih =>
    rw [← Nat.add_assoc, rowUpto_succ, if_neg (h (b + d) (by omega) (by omega)), List.append_nil]
    exact ih fun j h1 h2 => h j h1 (by omega)
theorem rowUpto_le (S : List Int) (b : Nat) : (rowUpto S b).length ≤ b := by
  unfold rowUpto
  have := List.length_filter_le (fun n : Nat => decide ((n : Int) ∈ S)) (List.range b)
  simpa using this
theorem rowUpto_lt (S : List Int) {b c : Nat} (h : b < c) (hb : (b : Int) ∈ S) : (rowUpto S b).length < (rowUpto S c).length := by
  have h1 : (rowUpto S (b + 1)).length = (rowUpto S b).length + 1 := by rw [rowUpto_succ, if_pos hb]; simp
  have h2 : ∀ d, (rowUpto S (b + 1)).length ≤ (rowUpto S (b + 1 + d)).length := by
    intro d
    induction d with
    | zero => exact Nat.le_refl _
    | succ d ih => rw [← Nat.add_assoc, rowUpto_succ S (b + 1 + d), List.length_append]; omega
  have := h2 (c - (b + 1))
  rw [show b + 1 + (c - (b + 1)) = c by omega] at this
  omega
theorem rowS_row {S : List Int} (h : Strict S) (hs : Small S) : rowS S = S := by
  refine Strict.ext ?_ h fun x => ?_
  · unfold rowS rowUpto Strict
    rw [List.pairwise_map]
    refine List.Pairwise.imp (fun h => Int.ofNat_lt.2 h) (List.Pairwise.filter _ List.pairwise_lt_range)
  · unfold rowS rowUpto
    simp only [List.mem_map, List.mem_filter, List.mem_range, decide_eq_true_eq]
    constructor
    · rintro ⟨n, ⟨_, h⟩, rfl⟩; exact h
    · intro hx
      have := hs x hx
      exact ⟨x.toNat, ⟨by omega, by rw [show ((x.toNat : Nat) : Int) = x by omega]; exact hx⟩, by omega⟩
theorem setHas_word (S : List Int) (i k : Nat) (hi : i < 4) (hk : k < 64) : ((wordsOf S).getD i 0).testBit k = decide (((64 * i + k : Nat) : Int) ∈ S) := by
  have := wordsOf_has S (64 * i + k) (by omega)
  unfold setHas at this
  rwa [show (64 * i + k) / 64 = i by omega, show (64 * i + k) % 64 = k by omega] at this

theorem Same.grown {w w' : World} (h : Same w w') : w.grownBy w' none := ⟨h.os, h.tape, h.output, by rw [h.heap]; exact Nat.le_refl _, fun k _ _ => by rw [h.heap]⟩

set_option maxRecDepth 100000 in
set_option maxHeartbeats 4000000 in
theorem set_All1 (n l Bn n₀ : Nat) (S : List Int) (J Jx : List {x : Int // x ∈ S} → World → Prop)
    (W : World) (hJ : AbidesFrom W.heap.size J)
    (hY : ∀ pre x W, J pre W → pre.length < (rowS S).length → YieldAt Fence.wide (n - 1) Tryd.prog l #[.int .i64 x.1] W fun e W' =>
      (e = .returned (.bool true) ∧ J (pre ++ [x]) W' ∧ Below n₀ W W') ∨ (e = .returned (.bool false) ∧ Jx (pre ++ [x]) W'))
    (hT : Tab W) (hg : 0 < n₀) (hS : Blk W Bn 69 (setCells (wordsOf S))) (h0 : J [] W) :
    CallsIn Fence.wide n Tryd.prog 107 #[.func (.yield l) #[] #[], .pointer (some ⟨Bn, 0, none⟩)] W fun e W' => (∃ v, e = .returned v) ∧
      ((∃ ys : List {x : Int // x ∈ S}, ys.map (·.1) = rowS S ∧ J ys W') ∨ (∃ pre, Jx pre W')) := by
  refine callsIn_of_wp Tryd.func107 rfl trivial ?_ rfl
  simp only [Tryd.ntmps107, List.size_toArray, List.length_cons, List.length_nil, Nat.reduceAdd, Nat.reduceSub, Array.replicate_succ, Array.replicate_zero, List.push_toArray, List.append_toArray, List.nil_append, List.cons_append]
  have hc0 := hS.cell 0
  have hc1 := hS.cell 1
  have hc2 := hS.cell 2
  have hc3 := hS.cell 3
  have hWs := wordsOf_words S
  have hbits := setHas_word S
  generalize wordsOf S = ws at *
  match ws, hWs.1 with
  | [w0, w1, w2, w3], _ =>
  simp only [setCells, List.map_cons, List.map_nil, List.getElem?_cons_zero, List.getElem?_cons_succ] at hc0 hc1 hc2 hc3
  gi_wp2
  gi_loopw [6] (fun v wr => ∃ (i : Nat) (pre : List {x : Int // x ∈ S}), v = .int .i64 (i : Int) ∧ i ≤ 4 ∧ pre.map (·.1) = rowUpto S (64 * i) ∧ J pre wr ∧ Tab wr) (fun v _ => 4 - (intOf v).toNat)
  case atStart => exact ⟨0, [], rfl, by omega, rfl, h0, hT⟩
  case round =>
    obtain ⟨i, pre, rfl, hi, hp, hJp, hTp⟩ := hrel
    by_cases hi4 : i < 4
    case neg =>
      obtain rfl : i = 4 := by omega
      gi_wp2
      go_end0
      exact ⟨⟨_, rfl⟩, .inl ⟨pre, hp, hJp⟩⟩
    case pos =>
      have hix : ∀ W', (Instr.index 69 (.agg #[.int .u64 (w0 : Int), .int .u64 (w1 : Int), .int .u64 (w2 : Int), .int .u64 (w3 : Int)]) (.int .i64 (i : Int))).run Tryd.prog W' = .ok (.int .u64 (([w0, w1, w2, w3].getD i 0 : Nat) : Int)) W' := by
        intro W'
        have hu : Tryd.prog.underlying 69 = some (.array 4 67) := Tryd.underlying69
        have ha : (isAgg 67).run Tryd.prog W' = .ok false W' := by simp [isAgg, run_underlying Tryd.underlying67]
        have hz : (sizeOf 67).run Tryd.prog W' = .ok 1 W' := by
          have := ty_sz_u64
          unfold tySize at this
          cases hi : Tryd.prog.info? 67 with
          | none => simp [hi] at this
          | some ie => simp only [hi, Option.map_some, Option.some.injEq] at this; simp [sizeOf, typeInfo, hi, this]
        match i, hi4 with
        | 0, _ => simp [Instr.index, asIntOf, run_underlying hu, part, ha, hz]
        | 1, _ => simp [Instr.index, asIntOf, run_underlying hu, part, ha, hz]
        | 2, _ => simp [Instr.index, asIntOf, run_underlying hu, part, ha, hz]
        | 3, _ => simp [Instr.index, asIntOf, run_underlying hu, part, ha, hz]
      have hb := fun k => hbits i k hi4
      have hx64 := hWs.2 i
      generalize [w0, w1, w2, w3].getD i 0 = x at *
      have hi4' : (i : Int) < 4 := by omega
      gi_wp2
      gi_loopw [4] (fun v4 wr => ∃ (y b : Nat) (pre : List {x : Int // x ∈ S}), v4 = .int .u64 (y : Int) ∧ y < 2 ^ 64 ∧ b ≤ 64 ∧ (∀ j, y.testBit j = (decide (b ≤ j) && x.testBit j)) ∧ pre.map (·.1) = rowUpto S (64 * i + b) ∧ J pre wr ∧ Tab wr) (fun v _ => (intOf v).toNat)
      case atStart => exact ⟨x, 0, pre, rfl, hx64, by omega, fun j => by simp, hp, hJp, hTp⟩
      case round =>
        obtain ⟨y, b, pre, rfl, hy64, hb64, hyb, hpp, hJp, hTp⟩ := hrel
        by_cases hy0 : y = 0
        · subst hy0
          gi_wp2
          refine ⟨⟨i + 1, pre, by simp, by omega, ?_, hJp, hTp⟩, by simp [intOf]; omega⟩
          rw [hpp]
          refine (rowUpto_gap S (64 * i + b) (64 * (i + 1)) (by omega) fun j h1 h2 => ?_).symm
          have h3 := hyb (j - 64 * i)
          rw [Nat.zero_testBit, decide_eq_true (show b ≤ j - 64 * i by omega), Bool.true_and, hb (j - 64 * i) (by omega), show 64 * i + (j - 64 * i) = j by omega] at h3
          exact of_decide_eq_false h3.symm
        · obtain ⟨k, q, hkq⟩ := low_split y (by omega)
          have hk := low_lt hkq hy64
          have hyk : y.testBit k = true := by rw [hkq, bit_x]; simp
          have hbk := hyk
          rw [hyb, Bool.and_eq_true, decide_eq_true_eq, hb k hk, decide_eq_true_eq] at hbk
          obtain ⟨hbk, hin⟩ := hbk
          have hgap : rowUpto S (64 * i + k) = rowUpto S (64 * i + b) := rowUpto_gap S _ _ (by omega) fun j h1 h2 => by
            have h3 := hyb (j - 64 * i)
            rw [hkq, bit_x, if_pos (by omega), decide_eq_true (show b ≤ j - 64 * i by omega), Bool.true_and, hb (j - 64 * i) (by omega), show 64 * i + (j - 64 * i) = j by omega] at h3
            exact of_decide_eq_false h3.symm
          have hlen : pre.length < (rowS S).length := by
            have : pre.length = (rowUpto S (64 * i + k)).length := by rw [hgap, ← hpp]; simp
            rw [this]
            exact rowUpto_lt S (by omega) hin
          have hsn : rowUpto S (64 * i + (k + 1)) = rowUpto S (64 * i + k) ++ [((64 * i + k : Nat) : Int)] := by rw [← Nat.add_assoc, rowUpto_succ, if_pos hin]
          have hbits2 := bits_TrailingZeros64 hTp hkq hy64
          replace hkq : Hid (y = 2 ^ k * (2 * q + 1)) := hkq
          have hy0' : ((y : Int) != 0) = true := by simp; omega
          gi_wp2
          refine ⟨trivial, fun h => (by cases h), ?_⟩
          refine (callsIn_wide.2 hbits2.calls).mono ?_
          rintro e w2 ⟨v, rfl, rfl, hs⟩
          have hT2 := hTp.same hs
          have hJ2 := hJ _ _ _ none hJp hs.grown (fun _ h => by cases h)
          obtain ⟨fn, tmps, assign, body, hy, hR⟩ := hY pre ⟨_, hin⟩ w2 hJ2 hlen
          simp only [Int.natCast_add, Int.natCast_mul, Int.cast_ofNat_Int] at hy
          gi_wp2
          refine ⟨fun h => (by cases h), ?_⟩
          refine hR.mono ?_
          rintro e W3 (⟨rfl, hJ3, hk3⟩ | ⟨rfl, hJx3⟩)
          · have hT3 := hT2.below hk3 hg
            have hand : bits .and .u64 (y : Int) ((y : Int) - 1) = ((y &&& (y - 1) : Nat) : Int) := by
              have h1 : (BitVec.ofInt 64 (y : Int) &&& BitVec.ofInt 64 ((y : Int) - 1)).toNat = y &&& (y - 1) := by
                rw [show (y : Int) - 1 = ((y - 1 : Nat) : Int) by omega, BitVec.toNat_and]
                simp [BitVec.toNat_ofInt, Nat.mod_eq_of_lt hy64, Nat.mod_eq_of_lt (show y - 1 < 2 ^ 64 by omega)]
              have h2 : y &&& (y - 1) < 2 ^ 64 := Nat.and_lt_two_pow y (by omega)
              show IntKind.u64.wrap ((BitVec.ofInt 64 (y : Int) &&& BitVec.ofInt 64 ((y : Int) - 1)).toNat : Int) = _
              rw [h1, wrap_u64 _ h2]
            have hle : y &&& (y - 1) < y := Nat.lt_of_le_of_lt Nat.and_le_right (by omega)
            gi_wp2
            go_roundw
            case rel =>
              refine ⟨y &&& (y - 1), k + 1, pre ++ [⟨_, hin⟩], rfl, by omega, by omega, fun j => ?_, ?_, hJ3, hT3⟩
              · rw [low_off hkq, hyb]
                by_cases h1 : k < j
                · rw [decide_eq_true h1, decide_eq_true (show b ≤ j by omega), decide_eq_true (show k + 1 ≤ j by omega), Bool.true_and, Bool.true_and]
                · rw [decide_eq_false h1, decide_eq_false (show ¬ k + 1 ≤ j by omega), Bool.false_and, Bool.false_and]
              · rw [List.map_append, hsn, hgap, hpp]; rfl
            case measure => simp only [intOf, Int.toNat_natCast]; exact hle
          · gi_wp2
            refine bodyPost_ret (results_none rfl _ _ _) rfl ?_
            exact ⟨⟨_, rfl⟩, .inr ⟨_, hJx3⟩⟩

theorem set_All (S : List Int) (w : World) : Cal Tryd.prog 74 [setV S] w fun v w' => v = .func (.func 107) #[] #[.pointer (some ⟨w.heap.size, 0, none⟩)] ∧ Blk w' w.heap.size 69 (setCells (wordsOf S)) ∧ Below w.heap.size w w' ∧ w'.heap.size = w.heap.size + 1 := by
  refine cal_machine_Set_All (by simp) 100000 fun Q hQ => ?_
  simp (disch := first | with_reducible assumption | omega) only [push_cast, x_blk, x_cd, ↓reduceIte, Nat.reduceEqDiff, List.map_cons, List.map_nil, Int.reduceEq, Int.lt_irrefl, F_machine_Set_All]
  refine blk_of (box_agg _ (setCells (wordsOf S))) ?_
  intro w1 k1 b1 z1
  simp (disch := first | with_reducible assumption | omega) only [push_cast, x_blk, x_cd, ↓reduceIte, Nat.reduceEqDiff, List.map_cons, List.map_nil, Int.reduceEq, Int.lt_irrefl]
  exact fin_1 (hQ _ _ ⟨rfl, k1, b1, z1⟩)

/-- What a range over a set's numbers is handed. -/
theorem set_All_stops (n Bn n₀ : Nat) (S : List Int) (w : World) (hT : Tab w) (hg : 0 < n₀) (hS : Blk w Bn 69 (setCells (wordsOf S))) :
    SeqStopsK Fence.wide n Tryd.prog 107 #[.pointer (some ⟨Bn, 0, none⟩)] (fun x : {x : Int // x ∈ S} => #[Value.int .i64 x.1]) (Below n₀) (fun ys => ys.map (·.1) = rowS S) (fun _ => True) (rowS S).length w := fun l J Jx W hW hJ _ hY h0 =>
  CallsIn.mono (set_All1 n l Bn n₀ S J Jx W hJ hY (hT.on hW) hg (hS.below hW hS.lt) h0) fun _ _ ⟨h1, h2⟩ => ⟨h1, h2.elim .inl fun ⟨pre, h⟩ => .inr ⟨pre, trivial, h⟩⟩

theorem infoInt : (Tryd.prog.info? 3).map (fun i => (i.zero, i.size, i.bytes)) = some (some (.int .i64 0), 1, 8) := by kernel_rfl
set_option maxRecDepth 100000 in
set_option maxHeartbeats 4000000 in
theorem set_Row_in (S : List Int) (w : World) (hT : Tab w) :
    CallsIn Fence.wide 4 Tryd.prog 60 #[setV S] w fun e W' => ∃ v, e = .returned v ∧ W'.ownsRow w.heap.size 3 1 v (rowS S).length ((rowS S).map (Value.int .i64)) ∧ Below w.heap.size w W' := by
  obtain ⟨i0, hi, hz0, hz1, hz2⟩ := info_parts infoInt
  have hlen : (rowS S).length ≤ 256 := rowUpto_le S 256
  refine callsIn_of_wp_marks Tryd.func60 rfl trivial ?_ rfl
  simp only [Tryd.ntmps60, List.size_toArray, List.length_cons, List.length_nil, Nat.reduceAdd, Nat.reduceSub, Array.replicate_succ, Array.replicate_zero, List.push_toArray, List.append_toArray, List.nil_append, List.cons_append]
  have hWs := wordsOf_words S
  obtain ⟨ws, hws⟩ : ∃ ws, wordsOf S = ws := ⟨_, rfl⟩
  unfold setV
  rw [hws] at hWs ⊢
  match ws, hWs.1 with
  | [w0, w1, w2, w3], _ =>
  have hall := set_All S
  have hst := fun n Bn n₀ w => set_All_stops n Bn n₀ S w
  unfold setV at hall
  rw [hws] at hall hst
  simp only [setVal, setCells, List.map_cons, List.map_nil] at hall hst ⊢
  gi_wp2
  refine ⟨trivial, ?_⟩
  refine (callsIn_wide.2 (hall _).calls).mono ?_
  have hb2 : Below w.heap.size w ((w.alloc (.cells #[.int .u64 (w0 : Int), .int .u64 (w1 : Int), .int .u64 (w2 : Int), .int .u64 (w3 : Int)] 69)).alloc (.cells #[.slice none 0 0] 22)) := ((Below.refl _ w).alloc (Nat.le_refl _) _).alloc (by simp) _
  have bO := Boxed.new (w.alloc (.cells #[.int .u64 (w0 : Int), .int .u64 (w1 : Int), .int .u64 (w2 : Int), .int .u64 (w3 : Int)] 69)) 22 (.slice none 0 0)
  rw [World.size_alloc] at bO
  have z2 : ((w.alloc (.cells #[.int .u64 (w0 : Int), .int .u64 (w1 : Int), .int .u64 (w2 : Int), .int .u64 (w3 : Int)] 69)).alloc (.cells #[.slice none 0 0] 22)).heap.size = w.heap.size + 2 := by simp
  generalize (w.alloc (.cells #[.int .u64 (w0 : Int), .int .u64 (w1 : Int), .int .u64 (w2 : Int), .int .u64 (w3 : Int)] 69)).alloc (.cells #[.slice none 0 0] 22) = wa at *
  rintro e wb ⟨v, rfl, rfl, hSb, hbb, zb⟩
  rw [z2] at hSb
  have hB0 := hb2.trans (hbb.mono hb2.size)
  have bO1 : Boxed wb (w.heap.size + 1) 22 (.slice none 0 0) := (hbb.block _ (by omega)).trans bO
  gi_wp2
  refine wpIn_rangeFunc_ownG rfl (by decide) (gf := 107) (lb := #[.pointer (some ⟨w.heap.size + 2, 0, none⟩)]) rfl trivial (enters_of Tryd.func107 (by kernel_rfl) rfl)
    (hst 3 (w.heap.size + 2) w.heap.size wb (hT.below hB0 hT.lt) hT.lt hSb) belowK_t (belowK_b (by omega)) (Below.refl _ _) (fun _ => rfl)
    (fun (pre : List {x : Int // x ∈ S}) W => (∃ v, Boxed W (w.heap.size + 1) 22 v ∧ W.ownsRow w.heap.size 3 1 v pre.length (pre.map fun x => Value.int .i64 x.1) ∧ True) ∧ Below w.heap.size w W)
    (fun _ _ _ => False)
    (OwnFrom.and (Own.from (holdsRow_own w.heap.size (w.heap.size + 1) 22 3 1 (fun (pre : List {x : Int // x ∈ S}) => pre.length) (fun pre => pre.map fun x => Value.int .i64 x.1) (fun _ _ => True)) _) (ownFrom_below (Nat.le_refl _) (by omega)))
    (fun _ _ _ _ _ hs _ _ => hs)
    ⟨⟨_, bO1, World.ownsRow_nil _ _ _ _, trivial⟩, hB0⟩
    (fun x => { tmps := #[.agg #[.int .u64 (w0 : Int), .int .u64 (w1 : Int), .int .u64 (w2 : Int), .int .u64 (w3 : Int)], .pointer (some ⟨w.heap.size, 0, none⟩), .slice none 0 0, .pointer (some ⟨w.heap.size + 1, 0, none⟩), .int .i64 x.1, .agg #[.int .u64 (w0 : Int), .int .u64 (w1 : Int), .int .u64 (w2 : Int), .int .u64 (w3 : Int)], .func (.func 107) #[] #[.pointer (some ⟨w.heap.size + 2, 0, none⟩)], .int .i64 x.1, undef, undef, undef, undef, undef], defers := [] }) ?assign ?body ?done ?stop
  case assign =>
    intro l x W K hK
    gi_wp2
    exact hK
  case body =>
    rintro l pre x W ⟨⟨v, hv, hrow, _⟩, hB⟩ hlt
    have hc := hv.cell
    have hm : pre.length + 1 ≤ maxLen := by unfold maxLen; omega
    gi_wp2_with (gi_at_builtin; refine wpListIn_append_own _ rfl _ _ 22 rfl w.heap.size 3 i0 (.int .i64 0) 1 8 Tryd.underlying22 hi hz0 hz1 hz2 rfl (by decide) _ _ _ rfl (hrow.alloc _) ⟨W.heap.size, 0, none⟩ 1 1 [.int .i64 x.1] rfl rfl (cell_one_new _ _ _) (by simp [Value.oneCell']) hm (by omega) (by have := hB.size; simp; omega) ?_; intro v' w1 hown' hgrow _; obtain ⟨g', cap', rfl⟩ := ownsRow_succ hown'; obtain ⟨hv1, hv2, hr2, hk2, hb2⟩ := hv.appended (by decide) hrow hB.size (by omega) hown' hgrow; have hc1 := hv1.cell; have hf1 := hv1.frozen)
    exact ⟨hk2.from _, hb2, ⟨_, hv2, by simpa using hr2, trivial⟩, hB.trans hb2⟩
  case done =>
    rintro D ys W hD hys ⟨⟨v, hv, hrow, _⟩, hB⟩ hK
    have hc := hv.cell
    gi_wp2
    refine ⟨by simp, .inl ⟨_, _, rfl, run_takeDeferred hK, ?_⟩⟩
    have e1 : (rowS S).length = ys.length := by rw [← hys]; simp
    have e2 : (rowS S).map (Value.int .i64) = ys.map fun x => Value.int .i64 x.1 := by rw [← hys]; simp
    rw [e1, e2]
    exact ⟨_, results_tmp rfl _ _ _, v, rfl, ownsRow_putObj hrow _ hK rfl, hB.trans (belowK_b (w := w) (Nat.le_refl _) W D _ _ (by omega) hK rfl rfl)⟩
  case stop =>
    rintro D c pre W _ _ h _
    exact h.elim
end Go.Proofs.YtiabkafgmanhiaaDoor
