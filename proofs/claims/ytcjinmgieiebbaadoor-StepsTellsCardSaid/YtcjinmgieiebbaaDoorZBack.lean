/-
  slices.Backward: by its contract, for a range over a function.
-/
import Derived.Test.YtcjinmgieiebbaaDoorZIn
import Derived.Test.YtcjinmgieiebbaaDoorZSetAll
import Derived.Test.YtcjinmgieiebbaaDoorZIniC
namespace Go.Proofs.YtcjinmgieiebbaaDoor
set_option linter.unusedSimpArgs false
set_option linter.unusedVariables false
set_option linter.unusedSectionVars false
open Go.RowKit Go.Shelf

attribute [local go_sem] Oper.semAt_some

theorem run_of_val1 {P : Program} {s : Sem Value} {v : Value} {u : World} (h : ∀ (K : Fr → World → Prop) (f : Fr) (d : Option Nat) (w : World), Val1 P K s u f d w = K (updO f d v) w) (w' : World) (hw : Below u.heap.size u w') : s.run P w' = .ok v w' := by
  have h1 := h (fun f _ => f 0 = v) (fun _ => undef) (some 0) u
  have h2 : Val1 P (fun f _ => f 0 = v) s u (fun _ => undef) (some 0) u := by rw [h1]; simp [updO, upd]
  obtain ⟨v', hr, hk⟩ := h2
  simp only [updO, upd, if_true] at hk
  rw [← hk]
  exact hr w' hw

/-- What the range looks at. -/
structure Sees (w : World) (Bn : Nat) (A : Option Addr) (c : Nat) (L : List Int) : Prop where
  blk : Blk w Bn 22 [.slice A L.length c]
  ints : Ints (fun _ => True) w A L
set_option maxRecDepth 100000 in
set_option maxHeartbeats 4000000 in
theorem backward1 (n l Bn : Nat) (Kp : World → World → Prop) (L : List Int) (A : Option Addr) (c : Nat) (hL : L.length ≤ 17592186043904) (J Jx : List (Int × Int) → World → Prop) (W : World)
    (hY : ∀ pre x W, J pre W → pre.length < L.length → YieldAt Fence.wide (n - 1) Tryd.prog l #[.int .i64 x.1, .int .i64 x.2] W fun e W' =>
      (e = .returned (.bool true) ∧ J (pre ++ [x]) W' ∧ Kp W W') ∨ (e = .returned (.bool false) ∧ Jx (pre ++ [x]) W'))
    (hK : ∀ W W', Kp W W' → Sees W Bn A c L → Sees W' Bn A c L) (hS : Sees W Bn A c L) (h0 : J [] W) :
    CallsIn Fence.wide n Tryd.prog 102 #[.func (.yield l) #[] #[], .pointer (some ⟨Bn, 0, none⟩)] W fun e W' => (∃ v, e = .returned v) ∧
      ((∃ ys : List (Int × Int), ys.map (·.2) = L.reverse ∧ J ys W') ∨ (∃ pre, Jx pre W')) := by
  refine callsIn_of_wp Tryd.func102 rfl trivial ?_ rfl
  simp only [Tryd.ntmps102, List.size_toArray, List.length_cons, List.length_nil, Nat.reduceAdd, Nat.reduceSub, Array.replicate_succ, Array.replicate_zero, List.push_toArray, List.append_toArray, List.nil_append, List.cons_append]
  have hc0 := hS.blk.cell 0
  simp only [List.getElem?_cons_zero] at hc0
  gi_wp2
  gi_loopw [3] (fun v wr => ∃ (i : Nat) (pre : List (Int × Int)), v = .int .i64 ((L.length : Int) - 1 - i) ∧ i ≤ L.length ∧ pre.length = i ∧ pre.map (·.2) = L.reverse.take i ∧ J pre wr ∧ Sees wr Bn A c L) (fun v _ => (intOf v + 1).toNat)
  case atStart => exact ⟨0, [], by simp, by omega, rfl, rfl, h0, hS⟩
  case round =>
    obtain ⟨i, pre, rfl, hi, hpl, hp, hJp, hSp⟩ := hrel
    clear h0 hc0 hS
    by_cases hlt : i < L.length
    case neg =>
      obtain rfl : i = L.length := by omega
      have hneg : decide ((L.length : Int) - 1 - (L.length : Int) ≥ 0) = false := decide_eq_false (by omega)
      gi_wp2
      go_end0
      exact ⟨⟨_, rfl⟩, .inl ⟨pre, by rw [hp, List.take_of_length_le (by simp)], hJp⟩⟩
    case pos =>
      have hc := hSp.blk.cell 0
      have hIp := hSp.ints
      simp only [List.getElem?_cons_zero] at hc
      obtain ⟨j, hj⟩ : ∃ j : Nat, (L.length : Int) - 1 - i = j := ⟨L.length - 1 - i, by omega⟩
      rw [hj]
      have hjl : j < L.length := by omega
      have hA := hIp.isSome (by omega)
      have hix := run_of_val1 (P := Tryd.prog) (u := wr) (fun K f d w => idx_sl wr f d w 22 (by kernel_rfl) A hA L.length c .i64 (j : Int) (by omega) (by omega)) wr (Below.refl _ _)
      rw [show ((j : Int)).toNat * (tySl Tryd.prog 22).getD 0 = j by rw [show tySl Tryd.prog 22 = some 1 by kernel_rfl]; simp] at hix
      have hld := hIp.cell j hjl
      obtain ⟨y, hy⟩ : ∃ y, L.getD j 0 = y := ⟨_, rfl⟩
      rw [hy] at hld
      obtain ⟨fn, tmps, assign, body, hyl, hR⟩ := hY pre ((j : Int), y) _ hJp (by omega)
      simp only at hyl
      have hnn : decide ((j : Int) ≥ 0) = true := decide_eq_true (by omega)
      gi_wp2
      refine ⟨fun h => (by cases h), ?_⟩
      refine hR.mono ?_
      rintro e W3 (⟨rfl, hJ3, hk3⟩ | ⟨rfl, hJx3⟩)
      · have hS3 := hK _ _ hk3 hSp
        gi_wp2
        go_roundw
        case rel =>
          refine ⟨i + 1, pre ++ [((j : Int), y)], by congr 1; omega, by omega, by simp [hpl], ?_, hJ3, hS3⟩
          rw [List.map_append, hp, List.take_add_one, List.getElem?_reverse hlt, ← hy, List.getD_eq_getElem?_getD]
          rw [show L.length - 1 - i = j by omega, List.getElem?_eq_getElem hjl]
          rfl
        case measure => simp only [intOf]; omega
      · gi_wp2
        refine bodyPost_ret (results_none rfl _ _ _) rfl ?_
        exact ⟨⟨_, rfl⟩, .inr ⟨_, hJx3⟩⟩

theorem slices_Backward {w : World} {A : Option Addr} {L : List Int} {c : Nat} : Cal Tryd.prog 71 [.slice A L.length c] w fun v w' =>
    v = .func (.func 102) #[] #[.pointer (some ⟨w.heap.size, 0, none⟩)] ∧ Blk w' w.heap.size 22 [.slice A L.length c] ∧ Below w.heap.size w w' ∧ w'.heap.size = w.heap.size + 1 := by
  refine cal_slices_Backward (by simp) 100000 fun Q hQ => ?_
  simp (disch := first | with_reducible assumption | omega) only [push_cast, x_blk, x_cd, ↓reduceIte, Nat.reduceEqDiff, List.map_cons, List.map_nil, Int.reduceEq, Int.lt_irrefl, F_slices_Backward]
  refine blk_of (cs := [.slice A L.length c]) (box_eq _ _) ?_
  intro w1 k1 b1 z1
  simp (disch := first | with_reducible assumption | omega) only [push_cast, x_blk, x_cd, ↓reduceIte, Nat.reduceEqDiff, List.map_cons, List.map_nil, Int.reduceEq, Int.lt_irrefl]
  exact fin_1 (hQ _ _ ⟨rfl, k1, b1, z1⟩)

/-- What a range over a list from behind is handed. -/
theorem backward_stops (n Bn : Nat) (Kp : World → World → Prop) (L : List Int) (A : Option Addr) (c : Nat) (hL : L.length ≤ 17592186043904) (w : World) (hK : ∀ W W', Kp W W' → Sees W Bn A c L → Sees W' Bn A c L) (hS : Blk w Bn 22 [.slice A L.length c]) (hI : Ints (· < w.heap.size) w A L) :
    SeqStopsK Fence.wide n Tryd.prog 102 #[.pointer (some ⟨Bn, 0, none⟩)] (fun x : Int × Int => #[Value.int .i64 x.1, Value.int .i64 x.2]) Kp (fun ys => ys.map (·.2) = L.reverse) (fun _ => True) L.length w := fun l J Jx W hW _ _ hY h0 =>
  CallsIn.mono (backward1 n l Bn Kp L A c hL J Jx W hY hK ⟨hS.below hW hS.lt, (hI.below hW).mono fun _ _ => trivial⟩ h0) fun _ _ ⟨h1, h2⟩ => ⟨h1, h2.elim .inl fun ⟨pre, h⟩ => .inr ⟨pre, trivial, h⟩⟩
/-- .. where but for one block all is kept. -/
theorem sees_but {n g Bn : Nat} {W W' : World} {A : Option Addr} {c : Nat} {L : List Int} (h : But n g W W') (hB : Bn < n) (hBg : Bn ≠ g) (hA : ∀ b, 0 < L.length → (A.getD default).block = b → b < n ∧ b ≠ g) (hS : Sees W Bn A c L) : Sees W' Bn A c L :=
  ⟨(h.block Bn hB hBg).trans hS.blk, ⟨hS.ints.isSome, fun _ => trivial, fun i hi => by
    have hb := hA _ (by omega) rfl
    rw [← hS.ints.cell i hi]
    exact World.cell?_of_block (by rw [eA_block]; exact h.block _ hb.1 hb.2)⟩⟩
theorem owni_grown {B e : Nat} {A : Option Addr} {c : Nat} {l : List Int} {W W' : World} {row : Option Nat} (h : OwnI B e W A c l) (hg : W.grownBy W' row) (hr : ∀ r, row = some r → ∃ o : Obj, W.heap[r]? = some o ∧ o.isCells = false) : OwnI B e W' A c l := by
  refine ⟨h.own.kept hg ?_⟩
  rcases h.own.2 with ⟨h1, _⟩ | ⟨g, cap, cur, h1, _, hgb, _⟩
  · exact .inl (by rw [h1]; rfl)
  · refine .inr fun e' => ?_
    obtain ⟨o, ho, hc⟩ := hr g (by rw [h1] at e'; simp only [Value.ownBlock] at e'; exact e'.symm)
    rw [hgb] at ho; cases ho; cases hc
theorem blk_grown {g t : Nat} {cs : List Value} {W W' : World} {row : Option Nat} (h : Blk W g t cs) (hg : W.grownBy W' row) (hr : ∀ r, row = some r → ∃ o : Obj, W.heap[r]? = some o ∧ o.isCells = false) : Blk W' g t cs :=
  (hg.block g h.lt (fun e => by
    obtain ⟨o, ho, hc⟩ := hr g e.symm
    rw [show W.heap[g]? = _ from h] at ho
    cases ho; cases hc)).trans h
end Go.Proofs.YtcjinmgieiebbaaDoor
