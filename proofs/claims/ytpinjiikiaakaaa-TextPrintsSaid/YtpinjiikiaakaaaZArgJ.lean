/-
  Projects as they come in: arguments.
-/
import Derived.Test.YtpinjiikiaakaaaZPrj
import Derived.Deep.Strs
namespace Go.Proofs.Ytpinjiikiaakaaa
set_option linter.unusedSimpArgs false
set_option linter.unusedVariables false
set_option linter.unusedSectionVars false
open Go.RowKit Go.ChangeShapes Go.WideShapes Go.Deep Go.Joins

section
variable {H : Type} {enc : TypeId × Value → H} {P : Program} {w : World} {base : Nat} {spare : Nat → Bool} {held : Bool} {r : Reach} {b0 : Nat} {v : Value} {d : DataW H} {pl : List MemPlace}
theorem cell_strs {t e : TypeId} {n : Nat} {v : Value} {y : DataW H × List MemPlace} (ht : P.underlying t = some (.slice e)) (he : P.underlying e = some .string) (hc : P.cellsOf e = 1) (hb : P.bytesOf e = 16)
    (h : DataW.trod enc P w base spare held n t [v] = some y) (hs : Sized P t y.1) :
    ∃ A c l, v = .slice A l.length c ∧ l.length ≤ c ∧ Strs (· < w.heap.size) w A l ∧ (∀ s ∈ l, s.size ≤ 140737488355328) ∧ l.length ≤ 17592186043904 := by
  rcases open_strs ht he hc h with ⟨hcs, _⟩ | ⟨a, len, cap, m, Sx, hcs, _, hl, hm, hmm, hx, hi⟩
  · simp at hcs
    exact ⟨none, 0, [], by simpa using hcs, by simp, Recs.nil _ _ _, by simp, by simp⟩
  · simp at hcs
    have hlm : len ≤ m := by rw [hmm]; split <;> omega
    have hlen : ((List.range len).map Sx).length = len := by simp
    have hy : y.1 = .slice ((List.range len).map fun i => .lit (.string (Sx i).data.toList)) ((List.range (m - len)).map fun j => .lit (.string (Sx (len + j)).data.toList)) := congrArg Prod.fst hx
    refine ⟨some a, cap, (List.range len).map Sx, by rw [hlen]; exact hcs, by rw [hlen]; exact hl, ⟨fun _ => rfl, fun h0 => ?_, fun i s hi' j v hv => ?_⟩, fun s hs' => ?_, ?_⟩
    · have := World.block_lt_of_cell? w _ (hi 0 (by rw [hlen] at h0; omega)).1
      rwa [show (a.add 0).block = a.block from by unfold Addr.add; rfl] at this
    · have hil : i < len := by have := (List.getElem?_eq_some_iff.1 hi').1; rwa [hlen] at this
      have hs' : s = Sx i := by
        rw [List.getElem?_map, List.getElem?_range hil] at hi'
        exact (Option.some.inj hi').symm
      have hj : j = 0 ∧ v = .string s := by
        cases j with
        | zero => exact ⟨rfl, (Option.some.inj hv).symm⟩
        | succ j => simp [strE] at hv
      obtain ⟨rfl, rfl⟩ := hj
      rw [eA_some, Nat.mul_one, Nat.add_zero, (hi i (by omega)).1, hs']
    · obtain ⟨i, hi', rfl⟩ := List.mem_map.1 hs'
      have hil := List.mem_range.1 hi'
      have := hs (Sx i).data.toList.length (by
        rw [hy]
        simp only [DataW.weights, ht]
        refine List.mem_cons_of_mem _ (List.mem_append_left _ ?_)
        have key : ∀ (l : List Nat), i ∈ l → (Sx i).data.toList.length ∈ DataW.weightsAll P e (l.map fun i => (DataW.lit (.string (Sx i).data.toList) : DataW H)) := by
          intro l
          induction l with
          | nil => intro h; simp at h
          | cons x l ih =>
            intro h
            rw [List.map_cons]
            unfold DataW.weightsAll
            rcases List.mem_cons.1 h with rfl | h
            · exact List.mem_append_left _ (by simp [DataW.weights])
            · exact List.mem_append_right _ (ih h)
        exact key _ hi')
      have e : (Sx i).size = (Sx i).data.toList.length := by rw [Array.length_toList]; rfl
      simp only [reachBytes] at this
      omega
    · rw [hlen]
      have := hs (len * 16 + (m - len) * 16) (by
        rw [hy]
        simp [DataW.weights, ht, hb, Nat.add_mul])
      simp only [reachBytes] at this
      omega
/-- The closed facts on the type of projects. -/
structure TPj (P : Program) (q0 q1 q2 q3 q4 q5 q6 : Field) (s i : TypeId) : Prop where
  o0 : q0.offset = 0
  o1 : q1.offset = 1
  o2 : q2.offset = 2
  o3 : q3.offset = 7
  o4 : q4.offset = 8
  o5 : q5.offset = 9
  o6 : q6.offset = 10
  c0 : P.cellsOf q0.type = 1
  c1 : P.cellsOf q1.type = 1
  c2 : P.cellsOf q2.type = 5
  c3 : P.cellsOf q3.type = 1
  c4 : P.cellsOf q4.type = 1
  c5 : P.cellsOf q5.type = 1
  c6 : P.cellsOf q6.type = 1
  u0 : P.underlying q0.type = some (.slice s)
  u1 : P.underlying q1.type = some (.slice s)
  u3 : P.underlying q3.type = some (.slice i)
  u4 : P.underlying q4.type = some (.slice i)
  u5 : P.underlying q5.type = some (.slice i)
  u6 : P.underlying q6.type = some (.slice i)
  us : P.underlying s = some .string
  cs : P.cellsOf s = 1
  bs : P.bytesOf s = 16
theorem arg_project {t : TypeId} {q0 q1 q2 q3 q4 q5 q6 f0 f1 f2 f3 f4 : Field} {s i e : TypeId} {g0 g1 g2 : Field} (hu : P.underlying t = some (.struct #[q0, q1, q2, q3, q4, q5, q6])) (hC : P.cellsOf t = 11) (hm : P.underlying q2.type = some (.struct #[f0, f1, f2, f3, f4]))
    (Q : TPj P q0 q1 q2 q3 q4 q5 q6 s i) (T : TM P f0 f1 f2 f3 f4 i e g0 g1 g2)
    (hval : Value.okWide P w r b0 t v) (h : DataW.Trod enc P w base spare held t v d pl) (hs : Sized P t d) :
    ∃ (a : JV) (p : Pj), v = a.val p ∧ IsJ (· < w.heap.size) w a p ∧ p.Fits ∧ a.Caps p := by
  obtain ⟨cs, rfl, hsz⟩ := okWide_struct hu hval
  obtain ⟨l⟩ := cs
  obtain ⟨fuel, hf⟩ := h
  obtain ⟨xs, n, _, hx, _, hlen, hg⟩ := DataW.trod_struct hu hf
  match l, hsz.trans hC with
  | [v0, v1, v2, v3, v4, v5, v6, v7, v8, v9, v10], _ =>
  match xs, hlen with
  | [y0, y1, y2, y3, y4, y5, y6], _ =>
    have hd : d = .agg [y0.1, y1.1, y2.1, y3.1, y4.1, y5.1, y6.1] := by simpa using congrArg Prod.fst hx
    subst hd
    have t0 : DataW.trod enc P w base spare held n q0.type [v0] = some y0 := by simpa [Value.cells, Q.o0, Q.c0] using hg 0 q0 rfl
    have t1 : DataW.trod enc P w base spare held n q1.type [v1] = some y1 := by simpa [Value.cells, Q.o1, Q.c1] using hg 1 q1 rfl
    have t2 : DataW.trod enc P w base spare held n q2.type [v2, v3, v4, v5, v6] = some y2 := by simpa [Value.cells, Q.o2, Q.c2] using hg 2 q2 rfl
    have t3 : DataW.trod enc P w base spare held n q3.type [v7] = some y3 := by simpa [Value.cells, Q.o3, Q.c3] using hg 3 q3 rfl
    have t4 : DataW.trod enc P w base spare held n q4.type [v8] = some y4 := by simpa [Value.cells, Q.o4, Q.c4] using hg 4 q4 rfl
    have t5 : DataW.trod enc P w base spare held n q5.type [v9] = some y5 := by simpa [Value.cells, Q.o5, Q.c5] using hg 5 q5 rfl
    have t6 : DataW.trod enc P w base spare held n q6.type [v10] = some y6 := by simpa [Value.cells, Q.o6, Q.c6] using hg 6 q6 rfl
    have hw : ∀ (j : Nat) (tj : TypeId) (dj : DataW H), [q0.type, q1.type, q2.type, q3.type, q4.type, q5.type, q6.type][j]? = some tj → [y0.1, y1.1, y2.1, y3.1, y4.1, y5.1, y6.1][j]? = some dj → Sized P tj dj := fun j tj dj ht hd x hx =>
      hs x (by simp only [DataW.weights, hu]; exact DataW.weights_mem_each ht hd x hx)
    obtain ⟨A0, c0, l0, rfl, k0, i0, b0, n0⟩ := cell_strs Q.u0 Q.us Q.cs Q.bs t0 (hw 0 _ _ rfl rfl)
    obtain ⟨A1, c1, l1, rfl, k1, i1, b1, n1⟩ := cell_strs Q.u1 Q.us Q.cs Q.bs t1 (hw 1 _ _ rfl rfl)
    obtain ⟨a, m, hcs, hM, hF, hK⟩ := cells_mach hm Q.c2 T t2 (hw 2 _ _ rfl rfl)
    obtain ⟨A3, c3, l3, rfl, k3, i3, b3, n3, _⟩ := cell_ints Q.u3 T.ui T.ci T.bi t3 (hw 3 _ _ rfl rfl)
    obtain ⟨A4, c4, l4, rfl, k4, i4, b4, n4, _⟩ := cell_ints Q.u4 T.ui T.ci T.bi t4 (hw 4 _ _ rfl rfl)
    obtain ⟨A5, c5, l5, rfl, k5, i5, b5, n5, _⟩ := cell_ints Q.u5 T.ui T.ci T.bi t5 (hw 5 _ _ rfl rfl)
    obtain ⟨A6, c6, l6, rfl, k6, i6, b6, n6, _⟩ := cell_ints Q.u6 T.ui T.ci T.bi t6 (hw 6 _ _ rfl rfl)
    simp only [MV.cells, List.cons.injEq, and_true] at hcs
    obtain ⟨rfl, rfl, rfl, rfl, rfl⟩ := hcs
    exact ⟨⟨A0, c0, A1, c1, a, A3, c3, A4, c4, A5, c5, A6, c6⟩, ⟨l0, l1, m, l3, l4, l5, l6⟩, rfl, ⟨i0, i1, hM, i3, i4, i5, i6⟩, ⟨b0, b1, n0, n1, hF, n3, n4, n5, n6⟩, ⟨k0, k1, hK⟩⟩
end
end Go.Proofs.Ytpinjiikiaakaaa
