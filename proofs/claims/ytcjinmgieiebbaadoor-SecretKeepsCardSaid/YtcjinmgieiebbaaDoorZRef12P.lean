/-
  Chapter 12's reference in plain Lean: what the places are that unseen events lead to.
-/
import Derived.Test.YtcjinmgieiebbaaDoorZRef12B
namespace Go.Proofs.YtcjinmgieiebbaaDoor
set_option linter.unusedSimpArgs false
set_option linter.unusedVariables false
set_option linter.unusedSectionVars false
open Go.RowKit

inductive UnS (m s : Mach) (seen : List Int) (l0 : List Pl) : Pl → Prop
  | base {x : Pl} : x ∈ l0 → UnS m s seen l0 x
  | step {x : Pl} {a : Arr} : UnS m s seen l0 x → a ∈ m.arrows → a.frm = x.1 → a.evt ∉ seen → UnS m s seen l0 (a.to_, stepL s x.2 a.evt)

theorem mem_putP {l : List Pl} {y x : Pl} : x ∈ putP l y ↔ x ∈ l ∨ x = y := by
  unfold putP
  by_cases h : y ∈ l
  · rw [if_pos h]; exact ⟨.inl, fun h' => h'.elim id fun e => e ▸ h⟩
  · rw [if_neg h, List.mem_append, List.mem_singleton]
theorem mem_foldP (s : Mach) (seen : List Int) (x : Pl) : ∀ (as_ : List Arr) (l : List Pl) (y : Pl), y ∈ as_.foldl (wAddP s seen x) l ↔ y ∈ l ∨ ∃ a ∈ as_, a.frm = x.1 ∧ a.evt ∉ seen ∧ y = (a.to_, stepL s x.2 a.evt)
  | [], l, y => by simp
  | a :: as_, l, y => by
      rw [List.foldl_cons, mem_foldP s seen x as_]
      have h1 : y ∈ wAddP s seen x l a ↔ y ∈ l ∨ (a.frm = x.1 ∧ a.evt ∉ seen ∧ y = (a.to_, stepL s x.2 a.evt)) := by
        unfold wAddP
        by_cases h : a.frm = x.1 ∧ a.evt ∉ seen
        · rw [if_pos h, mem_putP]; exact ⟨fun h' => h'.imp id fun e => ⟨h.1, h.2, e⟩, fun h' => h'.imp id fun e => e.2.2⟩
        · rw [if_neg h]; exact ⟨.inl, fun h' => h'.elim id fun e => absurd ⟨e.1, e.2.1⟩ h⟩
      rw [h1, or_assoc]
      refine or_congr_right ⟨fun h => ?_, fun ⟨b, hb, h⟩ => ?_⟩
      · rcases h with h | ⟨b, hb, h⟩
        · exact ⟨a, List.mem_cons_self, h⟩
        · exact ⟨b, List.mem_cons_of_mem _ hb, h⟩
      · rcases List.mem_cons.1 hb with rfl | hb
        · exact .inl h
        · exact .inr ⟨b, hb, h⟩
theorem mem_wOneP {m s : Mach} {seen : List Int} {x : Pl} {l : List Pl} {y : Pl} : y ∈ wOneP m s seen x l ↔ y ∈ l ∨ ∃ a ∈ m.arrows, a.frm = x.1 ∧ a.evt ∉ seen ∧ y = (a.to_, stepL s x.2 a.evt) := mem_foldP s seen x m.arrows l y

theorem wIterP_none {m s : Mach} {seen : List Int} {l0 : List Pl} {k : Nat} (h : (wIterP m s seen l0 k)[k]? = none) : wIterP m s seen l0 (k + 1) = wIterP m s seen l0 k := by
  show (match (wIterP m s seen l0 k)[k]? with | some x => _ | none => _) = _
  rw [h]
theorem wIterP_prefix1 (m s : Mach) (seen : List Int) (l0 : List Pl) (k : Nat) : wIterP m s seen l0 k <+: wIterP m s seen l0 (k + 1) := by
  cases h : (wIterP m s seen l0 k)[k]? with
  | none => rw [wIterP_none h]; exact List.prefix_refl _
  | some x => rw [wIterP_succ h]; exact foldP_prefix s seen x m.arrows _
theorem wIterP_prefix (m s : Mach) (seen : List Int) (l0 : List Pl) (k : Nat) : ∀ d, wIterP m s seen l0 k <+: wIterP m s seen l0 (k + d)
  | 0 => List.prefix_refl _
  | d + 1 => (wIterP_prefix m s seen l0 k d).trans (wIterP_prefix1 m s seen l0 (k + d))
theorem wIterP_stop {m s : Mach} {seen : List Int} {l0 : List Pl} {k : Nat} (h : (wIterP m s seen l0 k).length ≤ k) : ∀ d, wIterP m s seen l0 (k + d) = wIterP m s seen l0 k
  | 0 => rfl
  | d + 1 => by
      have ih := wIterP_stop h d
      have hn : (wIterP m s seen l0 (k + d))[k + d]? = none := by rw [ih]; exact List.getElem?_eq_none (by omega)
      rw [← Nat.add_assoc, wIterP_none hn, ih]
theorem wIterP_sound (m s : Mach) (seen : List Int) (l0 : List Pl) : ∀ k, ∀ x ∈ wIterP m s seen l0 k, UnS m s seen l0 x
  | 0 => fun x hx => .base hx
  | k + 1 => fun x hx => by
      have ih := wIterP_sound m s seen l0 k
      cases h : (wIterP m s seen l0 k)[k]? with
      | none => rw [wIterP_none h] at hx; exact ih x hx
      | some y =>
        rw [wIterP_succ h] at hx
        rcases mem_wOneP.1 hx with hx | ⟨a, ha, h1, h2, rfl⟩
        · exact ih x hx
        · exact .step (ih y (List.mem_of_getElem? h)) ha h1 h2
theorem mem_wide {m s : Mach} {seen : List Int} {l0 l : List Pl} (h : l = wIterP m s seen l0 l.length) {x : Pl} : x ∈ l ↔ UnS m s seen l0 x := by
  refine ⟨fun hx => wIterP_sound m s seen l0 l.length x (h ▸ hx), fun hx => ?_⟩
  induction hx with
  | base hx =>
    have := (wIterP_prefix m s seen l0 0 l.length).subset hx
    rw [Nat.zero_add, ← h] at this
    exact this
  | @step x a _ ha h1 h2 ih =>
    obtain ⟨i, hi, hix⟩ := List.getElem_of_mem ih
    have hil : (wIterP m s seen l0 i) <+: l := by
      have := wIterP_prefix m s seen l0 i (l.length - i)
      rw [show i + (l.length - i) = l.length by omega, ← h] at this
      exact this
    have hlen : i < (wIterP m s seen l0 i).length := Nat.lt_of_not_le fun hle => by
      have := wIterP_stop hle (l.length - i)
      rw [show i + (l.length - i) = l.length by omega, ← h] at this
      rw [← this] at hle
      omega
    have hxi : (wIterP m s seen l0 i)[i]? = some x := by
      obtain ⟨t, ht⟩ := hil
      rw [← hix, ← List.getElem?_eq_getElem hi]
      conv => rhs; rw [← ht]
      rw [List.getElem?_append_left hlen]
    have h3 : (a.to_, stepL s x.2 a.evt) ∈ wIterP m s seen l0 (i + 1) := by
      rw [wIterP_succ hxi]
      exact mem_wOneP.2 (.inr ⟨a, ha, h1, h2, rfl⟩)
    have := (wIterP_prefix m s seen l0 (i + 1) (l.length - (i + 1))).subset h3
    rw [show i + 1 + (l.length - (i + 1)) = l.length by omega, ← h] at this
    exact this

theorem mem_sfoldP (s : Mach) (e : Int) (x : Pl) : ∀ (as_ : List Arr) (l : List Pl) (y : Pl), y ∈ as_.foldl (sAddP s e x) l ↔ y ∈ l ∨ ∃ a ∈ as_, a.frm = x.1 ∧ a.evt = e ∧ y = (a.to_, stepL s x.2 e)
  | [], l, y => by simp
  | a :: as_, l, y => by
      rw [List.foldl_cons, mem_sfoldP s e x as_]
      have h1 : y ∈ sAddP s e x l a ↔ y ∈ l ∨ (a.frm = x.1 ∧ a.evt = e ∧ y = (a.to_, stepL s x.2 e)) := by
        unfold sAddP
        by_cases h : a.frm = x.1 ∧ a.evt = e
        · rw [if_pos h, mem_putP]; exact ⟨fun h' => h'.imp id fun q => ⟨h.1, h.2, q⟩, fun h' => h'.imp id fun q => q.2.2⟩
        · rw [if_neg h]; exact ⟨.inl, fun h' => h'.elim id fun q => absurd ⟨q.1, q.2.1⟩ h⟩
      rw [h1, or_assoc]
      refine or_congr_right ⟨fun h => ?_, fun ⟨b, hb, h⟩ => ?_⟩
      · rcases h with h | ⟨b, hb, h⟩
        · exact ⟨a, List.mem_cons_self, h⟩
        · exact ⟨b, List.mem_cons_of_mem _ hb, h⟩
      · rcases List.mem_cons.1 hb with rfl | hb
        · exact .inl h
        · exact .inr ⟨b, hb, h⟩
theorem mem_spartP {m s : Mach} {e : Int} {x : Pl} {l : List Pl} {y : Pl} : y ∈ sPartP m s e x l m.arrows.length ↔ y ∈ l ∨ ∃ a ∈ m.arrows, a.frm = x.1 ∧ a.evt = e ∧ y = (a.to_, stepL s x.2 e) := by
  unfold sPartP
  rw [List.take_length]
  exact mem_sfoldP s e x m.arrows l y
theorem mem_foldS (m s : Mach) (e : Int) : ∀ (l out : List Pl) (y : Pl), y ∈ l.foldl (fun out x => sPartP m s e x out m.arrows.length) out ↔ y ∈ out ∨ ∃ x ∈ l, ∃ a ∈ m.arrows, a.frm = x.1 ∧ a.evt = e ∧ y = (a.to_, stepL s x.2 e)
  | [], out, y => by simp
  | x :: l, out, y => by
      rw [List.foldl_cons, mem_foldS m s e l, mem_spartP, or_assoc]
      refine or_congr_right ⟨fun h => ?_, fun ⟨b, hb, h⟩ => ?_⟩
      · rcases h with h | ⟨b, hb, h⟩
        · exact ⟨x, List.mem_cons_self, h⟩
        · exact ⟨b, List.mem_cons_of_mem _ hb, h⟩
      · rcases List.mem_cons.1 hb with rfl | hb
        · exact .inl h
        · exact .inr ⟨b, hb, h⟩
theorem mem_sUptoP {m s : Mach} {e : Int} {l : List Pl} {y : Pl} : y ∈ sUptoP m s e l l.length ↔ ∃ x ∈ l, ∃ a ∈ m.arrows, a.frm = x.1 ∧ a.evt = e ∧ y = (a.to_, stepL s x.2 e) := by
  unfold sUptoP
  rw [List.take_length, mem_foldS]
  exact ⟨fun h => h.elim (fun h => by simp at h) id, .inr⟩

/-- Where a machine may be, and where the other one is then, by what was seen. -/
inductive RelP (m s : Mach) (seen : List Int) : List Int → Pl → Prop
  | start {x : Int} : x ∈ m.starts → RelP m s seen [] (x, s.starts)
  | quiet {v : List Int} {x : Pl} {a : Arr} : RelP m s seen v x → a ∈ m.arrows → a.frm = x.1 → a.evt ∉ seen → RelP m s seen v (a.to_, stepL s x.2 a.evt)
  | event {v : List Int} {e : Int} {x : Pl} {a : Arr} : RelP m s seen v x → a ∈ m.arrows → a.frm = x.1 → a.evt = e → RelP m s seen (v ++ [e]) (a.to_, stepL s x.2 e)
theorem RelP.snoc {m s : Mach} {seen : List Int} {u : List Int} {y : Pl} (h : RelP m s seen u y) : ∀ {v : List Int} {e : Int}, u = v ++ [e] → ∀ {l : List Pl}, (∀ x, x ∈ l ↔ RelP m s seen v x) → UnS m s seen (sUptoP m s e l l.length) y := by
  induction h with
  | start hx => intro v e he; simp at he
  | quiet _ ha h1 h2 ih => intro v e he l hl; exact .step (ih he hl) ha h1 h2
  | @event v' e' x a hx ha h1 h2 ih =>
    intro v e he l hl
    obtain ⟨rfl, he'⟩ := List.append_inj' he rfl
    obtain rfl : e' = e := by simpa using he'
    exact .base (mem_sUptoP.2 ⟨x, (hl x).2 hx, a, ha, h1, h2, rfl⟩)
theorem RelP.nil {m s : Mach} {seen : List Int} {u : List Int} {y : Pl} (h : RelP m s seen u y) : u = [] → UnS m s seen (firstPl m s m.starts.length) y := by
  induction h with
  | start hx => intro _; exact .base (by unfold firstPl; rw [List.take_length]; exact List.mem_map.2 ⟨_, hx, rfl⟩)
  | quiet _ ha h1 h2 ih => intro he; exact .step (ih he) ha h1 h2
  | event => intro he; simp at he
/-- What After answers, by what it has. -/
theorem AftP.mem {m s : Mach} {seen : List Int} {v : List Int} {l : List Pl} (h : AftP m s seen v l) : ∀ x, x ∈ l ↔ RelP m s seen v x := by
  induction h with
  | first e =>
    intro x
    rw [mem_wide e]
    refine ⟨fun h => ?_, fun h => h.nil rfl⟩
    induction h with
    | base hx =>
      unfold firstPl at hx
      rw [List.take_length] at hx
      obtain ⟨y, hy, rfl⟩ := List.mem_map.1 hx
      exact .start hy
    | step _ ha h1 h2 ih => exact .quiet ih ha h1 h2
  | step _ e ih =>
    intro x
    rw [mem_wide e]
    refine ⟨fun h => ?_, fun h => h.snoc rfl ih⟩
    induction h with
    | base hx =>
      obtain ⟨y, hy, a, ha, h1, h2, rfl⟩ := mem_sUptoP.1 hx
      exact .event ((ih y).1 hy) ha h1 h2
    | step _ ha h1 h2 ih2 => exact .quiet ih2 ha h1 h2
end Go.Proofs.YtcjinmgieiebbaaDoor
