/-
  Are two machines the same, two rows of rows: by their contracts.
-/
import Derived.Test.YtcjinmgieiebbaaDet
import Derived.ChangeKeysEq
namespace Go.Proofs.Ytcjinmgieiebbaa
set_option linter.unusedSimpArgs false
set_option linter.unusedVariables false
set_option linter.unusedSectionVars false
open Go.RowKit

theorem arr_fields : (Try.prog.fieldsOf 59).toList.map (fun f => (f.name != "_", f.type, f.offset)) = [(true, 3, 0), (true, 3, 1), (true, 3, 2)] := by kernel_rfl
theorem eqFields_int (w : World) (d : Nat) (xs ys : Array Value) : ∀ (fs : List Field) (us vs : List Int), (∀ f ∈ fs, (f.name != "_") = true ∧ f.type = 3) → fs.length = us.length → us.length = vs.length →
    (∀ i f, fs[i]? = some f → (part 3 xs f.offset).run Try.prog w = .ok (.int .i64 (us.getD i 0)) w ∧ (part 3 ys f.offset).run Try.prog w = .ok (.int .i64 (vs.getD i 0)) w) →
    (Op.eqFields (d + 1) xs ys fs).run Try.prog w = .ok (decide (us = vs)) w
  | [], [], [], _, _, _, _ => by simp [Op.eqFields]
  | f :: fs, a :: us, b :: vs, hf, h1, h2, hp => by
    have hff := hf f (List.mem_cons_self ..)
    have hn : f.name ≠ "_" := by have := hff.1; simpa using this
    have hp0 := hp 0 f rfl
    simp only [List.getD_cons_zero] at hp0
    have ih := eqFields_int w d xs ys fs us vs (fun g hg => hf g (List.mem_cons_of_mem _ hg)) (by simpa using h1) (by simpa using h2) fun i g hg => by
      have := hp (i + 1) g (by simpa using hg)
      simpa using this
    unfold Op.eqFields
    rw [if_pos hn, hff.2]
    simp only [Sem.run_bind, hp0.1, hp0.2, Result.andThen_ok, run_equalIn_int w d 3 .i64 .i64 a b Try.underlying3]
    by_cases hab : a = b
    · subst hab
      simp [ih]
    · have : (a == b) = false := by simpa using hab
      simp [this, hab]
theorem run_part_arr (w : World) (a : Arr) (j : Nat) (hj : j < 3) : (part 3 (arrCells a).toArray j).run Try.prog w = .ok (.int .i64 (a.cell j)) w :=
  run_part_plain w (by kernel_rfl) (by
    match j, hj with
    | 0, _ => rfl
    | 1, _ => rfl
    | 2, _ => rfl)
theorem equal_arr (w : World) (a b : Arr) : (Op.equalIn 10000 59 (arrVal a) (arrVal b)).run Try.prog w = .ok (decide (a = b)) w := by
  have hx := arr_fields
  have hs : Try.prog.underlying 59 = some (.struct (Try.prog.fieldsOf 59)) := by kernel_rfl
  rw [run_equalIn_agg w 9999 59 _ _ hs (by kernel_rfl)]
  generalize (Try.prog.fieldsOf 59).toList = fs at hx
  obtain ⟨f0, f1, f2, rfl⟩ : ∃ f0 f1 f2, fs = [f0, f1, f2] := by
    have hl : fs.length = 3 := by simpa using congrArg List.length hx
    match fs, hl with
    | [a, b, c], _ => exact ⟨a, b, c, rfl⟩
  simp only [List.map_cons, List.map_nil, List.cons.injEq, Prod.mk.injEq] at hx
  obtain ⟨⟨n0, t0, o0⟩, ⟨n1, t1, o1⟩, ⟨n2, t2, o2⟩, _⟩ := hx
  rw [eqFields_int w 9998 _ _ [f0, f1, f2] [a.frm, a.evt, a.to_] [b.frm, b.evt, b.to_] (by
    intro f hf
    rcases List.mem_cons.1 hf with rfl | hf
    · exact ⟨n0, t0⟩
    · rcases List.mem_cons.1 hf with rfl | hf
      · exact ⟨n1, t1⟩
      · rw [List.mem_singleton.1 hf]; exact ⟨n2, t2⟩) rfl rfl (by
    intro i f hi
    match i, hi with
    | 0, hi => cases hi; rw [o0]; exact ⟨run_part_arr w a 0 (by decide), run_part_arr w b 0 (by decide)⟩
    | 1, hi => cases hi; rw [o1]; exact ⟨run_part_arr w a 1 (by decide), run_part_arr w b 1 (by decide)⟩
    | 2, hi => cases hi; rw [o2]; exact ⟨run_part_arr w a 2 (by decide), run_part_arr w b 2 (by decide)⟩
    | n + 3, hi => cases hi)]
  have he : decide ([a.frm, a.evt, a.to_] = [b.frm, b.evt, b.to_]) = decide (a = b) := decide_eq_decide.2 ⟨fun h => by cases a; cases b; simp_all, fun h => by rw [h]⟩
  rw [he]
theorem neq_arr {K : Fr → World → Prop} {u w : World} {f : Fr} {d : Option Nat} {xo yo : Operand} (a b : Arr) : Val1 Try.prog K (binS .neq 59 xo yo (arrVal a) (arrVal b)) u f d w = K (updO f d (.bool (!decide (a = b)))) w :=
  val1_of u f d w fun w' _ => by
    unfold binS
    rw [Sem.run_bind, run_eqGuard_agg w' .neq 59 xo yo _ _ (by kernel_rfl), Result.andThen_ok, run_neq_struct w', equal_arr w' a b]; rfl

/-! ## Machines, rows of rows -/
theorem mach_ext {m n : Mach} : m = n ↔ m.states = n.states ∧ m.events = n.events ∧ m.starts = n.starts ∧ m.ends = n.ends ∧ m.arrows = n.arrows := by
  constructor
  · rintro rfl; exact ⟨rfl, rfl, rfl, rfl, rfl⟩
  · rintro ⟨a, b, c, d, e⟩; cases m; cases n; simp_all
end Go.Proofs.Ytcjinmgieiebbaa
