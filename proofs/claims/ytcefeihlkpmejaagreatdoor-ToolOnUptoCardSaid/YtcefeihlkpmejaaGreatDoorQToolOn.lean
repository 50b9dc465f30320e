/-
  For every input the law 'ToolOn' returns true, each argument reading behind the call as it read before. No condition on the arguments.
-/
import Derived.Test.YtcefeihlkpmejaaGreatDoorZM17
import Derived.Lay
import Derived.Test.YtcefeihlkpmejaaGreatDoorZGLaid
import Derived.Test.YtcefeihlkpmejaaGreatDoorCards
import Derived.Test.YtcefeihlkpmejaaGreatDoorTie
import Derived.SevenTiedAt
import Derived.Deep.DeepHandedRow
import Derived.JoinedCond
import Derived.Test.YtcefeihlkpmejaaGreatDoorRows
import Derived.Test.YtcefeihlkpmejaaGreatDoorZM9
import Derived.ProofKit
import Derived.ChangeOld
import Derived.Below
namespace Go.Proofs.YtcefeihlkpmejaaGreatDoor
namespace PToolOn
open Go.ChangeShapes Go.WideShapes Go.ChangeAt Go.RowKit
theorem own : ownKnob Tryz.prog.godebug = none := by kernel_rfl
theorem laidOut : laidOutB Tryz.prog = true := by kernel_rfl
theorem reads (os : Os) {H : Type} (enc : TypeId × Value → H) : ∃ places, DataW.whole enc Tryz.prog ((World.laidAll Tryz.prog os Rows.toolOnUptoRow.laid).forCall (fun _ _ => 0) ⟨#[], #[.string ⟨#[]⟩, .string ⟨#[]⟩], []⟩).memory Tryz.f4.params.toList Rows.toolOnSpec.vars false #[.string ⟨#[]⟩, .string ⟨#[]⟩].toList 8 = some ([.lit (.string []), .lit (.string [])], [], places) :=
  ⟨[], by kernel_rfl⟩
theorem laid_met (os : Os) : laidMet Tryz.prog Rows.toolOnUptoRow.laid ((World.laidAll Tryz.prog os Rows.toolOnUptoRow.laid).forCall (fun _ _ => 0) ⟨#[], #[.string ⟨#[]⟩, .string ⟨#[]⟩], []⟩).memory :=
  laidMet_laidAll _ (by kernel_rfl) (by kernel_rfl)
set_option maxRecDepth 100000 in
theorem lifted (os : Os) (started : os.Started) (H : Type) (enc : TypeId × Value → H) (F : Stop.Interp) :
    ReturnsInHanded {} Tryz.checked os 4 .any ((Rows.OpenSpec.upto Rows.toolOnSpec).preRow enc Tryz.prog Tryz.f4 Rows.toolOnUptoRow.domain false Rows.toolOnUptoRow.laid) (((Rows.OpenSpec.upto Rows.toolOnSpec).at F).post enc Tryz.prog Tryz.f4 false true false false) := by
  obtain ⟨places, hx⟩ := reads os enc
  refine returnsInHanded_of_row (C := Tryz.checked) (s := Rows.OpenSpec.upto Rows.toolOnSpec) own started (by kernel_rfl) Tryz.func4
    (witness_row_at (enc := enc) (C := Tryz.checked) false (World.laidAll Tryz.prog os Rows.toolOnUptoRow.laid) #[.string ⟨#[]⟩, .string ⟨#[]⟩] (World.laidAll_os _ _ _) (by kernel_rfl) (by kernel_rfl) (by kernel_rfl)
      (OpenSpec.preRow_of_cond 8 hx (by kernel_rfl) (fun k hk => by cases hk; kernel_rfl) (by kernel_rfl) (laid_met os))) ?_
  intro W base args ds gs before VR hW apQ aep aeq aer Pw _
  have ajq := ZD aer Pw
  have VT : Rows.uptoSmall H (ds ++ gs) = true := aep _ rfl
  have kq : (DataW.weightsEach Tryz.prog (Tryz.f4.params.toList ++ Rows.toolOnSpec.plain.varTypes Tryz.prog) (ds ++ gs)).all (· ≤ reachBytes) = true := aeq
  clear aeq
  have QL : ∀ (j : Nat) t v, Tryz.f4.params[j]? = some t → args[j]? = some v → Value.okWide Tryz.prog W .any base t v := VR
  have hW' := hW
  obtain ⟨p, q, hA0, hV, rfl, hfz, Cq⟩ := hW
  have hA : DataW.TrodAll enc Tryz.prog W 0 (fun _ => true) true Tryz.f4.params.toList args.toList ds p := hA0
  rw [Tryz.params4] at hA QL kq
  obtain ⟨v0, vs0, d0, ds0, p0, q0, al6, rfl, rfl, h0, r0⟩ := trodAll_cons hA
  obtain ⟨v1, vs1, d1, ds1, p1, q1, rfl, rfl, rfl, h1, r1⟩ := trodAll_cons r0
  obtain ⟨rfl, rfl, rfl⟩ := trodAll_nil r1
  obtain rfl : args = #[v0, v1] := by cases args; simp_all
  obtain ⟨rfl, rfl⟩ := trodVars_none hV
  have lt0 : ∀ x ∈ p0, x.block < W.heap.size := by obtain ⟨m, hm⟩ := h0; exact DataW.trod_lt m _ _ _ hm
  have sz0 := FA kq 0 rfl rfl
  obtain ⟨s0, rfl, e0⟩ := arg_str Tryz.underlying9 (QL 0 9 v0 rfl rfl) h0
  have hu0 := He VT (s := s0) (e0 ▸ by simp)
  have lt1 : ∀ x ∈ p1, x.block < W.heap.size := by obtain ⟨m, hm⟩ := h1; exact DataW.trod_lt m _ _ _ hm
  have sz1 := FA kq 1 rfl rfl
  obtain ⟨s1, rfl, e1⟩ := arg_str Tryz.underlying9 (QL 1 9 v1 rfl rfl) h1
  have Xi := He VT (s := s1) (e1 ▸ by simp)
  clear hA0 VR
  refine (Jc ajq (Nat.le_trans hu0 (by decide)) (Nat.le_trans Xi (by decide))).calls.mono fun e W' ⟨v, he, hv, tb⟩ => ?_
  subst hv
  subst he
  exact ⟨_, rfl, _, _, _, [], _, [], hW', trodAll_mk1 (shut_bool Tryz.underlying4 _), (trodAll_cons_mk (Below.trod laidOut (by kernel_rfl) (of_decide_eq_true (by kernel_rfl)) h0 tb lt0) (trodAll_cons_mk (Below.trod laidOut (by kernel_rfl) (of_decide_eq_true (by kernel_rfl)) h1 tb lt1) trodAll_mk0)), rfl, tb.frame _, fun h => by cases h⟩
theorem proved : Rows.ToolOnUptoSaid :=
  OpenClaim.holds_of_cond 4 Tryz.f4 rfl rfl rfl rfl rfl rfl rfl ⟨rfl, rfl, rfl, rfl, rfl⟩ rfl rfl rfl rfl rfl (by kernel_rfl) Tryz.func4 (by kernel_rfl)
    (of_decide_eq_true (by kernel_rfl)) (by unfold Func.isWrapper; first | (rw [if_pos (by decide +kernel)]; kernel_rfl) | (rw [if_neg (by decide +kernel)]; exact ⟨rfl, rfl⟩))
    (fun os started H enc _ F => by rw [OpenClaim.pre_eq_preRow]; exact lifted os started H enc F)
theorem card : Rows.ToolOnUptoCardSaid :=
  Claim7.holds_tied_plain_at .later [] [.data, .data, .data, .data, .sentinel, .sentinel, .data, .pinned] true (true, "294aa241148378896250ca6cb2163890fb679bbb1627ef290439018646817669") true
    proved (fun _ h => by cases h) (by kernel_rfl) (fun _ h => by cases h) toolOnUpto_row_tie rfl ⟨rfl, rfl⟩ (by kernel_rfl) rfl
    (fun f fn hf hfn => by
      obtain rfl : f = 4 := Option.some.inj ((show Tryz.prog.funcNamed "jalousie/jalousiekeep.ToolOn" = some 4 by kernel_rfl).symm.trans hf) |>.symm
      obtain rfl : fn = Tryz.f4 := (Option.some.inj (Tryz.func4.symm.trans hfn)).symm
      exact ⟨by kernel_rfl, fun j t ht => by
        rw [Tryz.params4] at ht
        have hm : t ∈ [9, 9] := by simpa using Array.mem_of_getElem? ht
        have jZ : ([9, 9].all fun u => !Tryz.prog.wantsStandIn u) = true := by kernel_rfl
        exact (show Tryz.prog.wantsStandIn t = false by simpa using List.all_eq_true.1 jZ t hm)⟩)
    (by kernel_rfl)
end PToolOn
end Go.Proofs.YtcefeihlkpmejaaGreatDoor
