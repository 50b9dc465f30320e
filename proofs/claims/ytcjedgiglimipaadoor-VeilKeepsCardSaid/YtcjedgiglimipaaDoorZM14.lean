/-
  Maps from sets of states to numbers, by what they answer.
-/
import Derived.Test.YtcjedgiglimipaaDoorZM13
namespace Go.Proofs.YtcjedgiglimipaaDoor
set_option linter.unusedSimpArgs false
set_option linter.unusedVariables false
set_option linter.unusedSectionVars false
open Go.RowKit

theorem setV_rows {s t : List Int} (hs : IsRow s 6) (ht : IsRow t 6) (h : setV s = setV t) : s = t := setV_inj ⟨hs.strict, hs.small (by decide)⟩ ⟨ht.strict, ht.small (by decide)⟩ h
/-- What a map answers at rows. -/
def SMap (w : World) (g : Nat) (φ : List Int → Option Int) : Prop := ∃ kv, MapIs Tryd.prog 76 w g kv ∧ ∀ s v, IsRow s 6 → ((setV s, v) ∈ kv ↔ ∃ x, φ s = some x ∧ v = .int .i64 x)
def putF (φ : List Int → Option Int) (s : List Int) (x : Int) : List Int → Option Int := fun t => if t = s then some x else φ t
section
variable {w w' : World} {g : Nat} {φ : List Int → Option Int}
theorem SMap.lt (h : SMap w g φ) : g < w.heap.size := by obtain ⟨kv, h1, _⟩ := h; exact h1.lt
theorem SMap.keep (h : SMap w g φ) (hk : w'.heap[g]? = w.heap[g]?) : SMap w' g φ := by obtain ⟨kv, h1, h2⟩ := h; exact ⟨kv, h1.keep hk, h2⟩
theorem SMap.below {B : Nat} (h : SMap w g φ) (hb : Below B w w') (hB : g < B) : SMap w' g φ := h.keep (hb.block g hB)
theorem SMap.empty (h : MapIs Tryd.prog 76 w g []) : SMap w g fun _ => none := ⟨[], h, fun s v _ => by simp⟩
theorem SMap.grown {row : Option Nat} (h : SMap w g φ) (hb : w.grownBy w' row) (hg : some g ≠ row) : SMap w' g φ := h.keep (hb.block g h.lt hg)
section
variable {K : Fr → World → Prop} {f : Fr} {d : Option Nat} {u : World}
theorem mapT : Tryd.prog.underlying 106 = some (.map 76 3) := Tryd.underlying106
theorem zeroI : (Tryd.prog.info? 3).map (·.zero) = some (some (.int .i64 0)) := by kernel_rfl
theorem SMap.look (h : SMap u g φ) {s : List Int} (hs : IsRow s 6) : Val1 Tryd.prog K (Instr.lookup 106 (.map (some g)) (setV s) false) u f d w = K (updO f d (.int .i64 ((φ s).getD 0))) w := by
  have h3 : Val1 Tryd.prog (fun f' _ => f' 0 = .int .i64 ((φ s).getD 0)) (Instr.lookup 106 (.map (some g)) (setV s) false) u f (some 0) u := by
    obtain ⟨kv, hm, h2⟩ := h
    refine map_look keyed_set mapT zeroI false hm (key_set s) (fun v hv => ?_) fun hno => ?_
    · obtain ⟨x, hx, rfl⟩ := (h2 s v hs).1 hv
      rw [hx]; rfl
    · cases hφ : φ s with
      | none => rfl
      | some x => exact absurd rfl (hno _ ((h2 s _ hs).2 ⟨x, hφ, rfl⟩))
  obtain ⟨v', hr, hv⟩ := h3
  have hv' : v' = .int .i64 ((φ s).getD 0) := hv
  rw [← hv']
  exact val1_of u f d w hr
theorem SMap.look2 (h : SMap u g φ) {s : List Int} (hs : IsRow s 6) : Val1 Tryd.prog K (Instr.lookup 106 (.map (some g)) (setV s) true) u f d w = K (updO f d (.tuple #[.int .i64 ((φ s).getD 0), .bool (φ s).isSome])) w := by
  have h3 : Val1 Tryd.prog (fun f' _ => f' 0 = .tuple #[.int .i64 ((φ s).getD 0), .bool (φ s).isSome]) (Instr.lookup 106 (.map (some g)) (setV s) true) u f (some 0) u := by
    obtain ⟨kv, hm, h2⟩ := h
    refine map_look keyed_set mapT zeroI true hm (key_set s) (fun v hv => ?_) fun hno => ?_
    · obtain ⟨x, hx, rfl⟩ := (h2 s v hs).1 hv
      rw [hx]; rfl
    · cases hφ : φ s with
      | none => rfl
      | some x => exact absurd rfl (hno _ ((h2 s _ hs).2 ⟨x, hφ, rfl⟩))
  obtain ⟨v', hr, hv⟩ := h3
  have hv' : v' = .tuple #[.int .i64 ((φ s).getD 0), .bool (φ s).isSome] := hv
  rw [← hv']
  exact val1_of u f d w hr
theorem SMap.absent (h : SMap w g φ) {kv : List (Value × Value)} (h2 : ∀ s v, IsRow s 6 → ((setV s, v) ∈ kv ↔ ∃ x, φ s = some x ∧ v = .int .i64 x)) {s : List Int} (hs : IsRow s 6) (hn : φ s = none) : ∀ p ∈ kv, p.1 ≠ setV s := fun p hp e => by
  obtain ⟨x, hx, _⟩ := (h2 s p.2 hs).1 (by rw [← e]; exact hp)
  rw [hn] at hx; cases hx
theorem SMap.put (h : SMap w g φ) {s : List Int} (hs : IsRow s 6) (x : Int) (h1 : ∀ w', SMap w' g (putF φ s x) → Grew w w' (some ⟨g, 0, none⟩) → w'.heap.size = w.heap.size → K (updO f d undef) w') :
    Eff1 Tryd.prog K (do Instr.mapUpdate 106 (.map (some g)) (setV s) (.int .i64 x); pure undef) f d w := by
  have h0 := h
  obtain ⟨kv, hm, h2⟩ := h
  cases hφ : φ s with
  | none =>
    refine map_new keyed_set mapT hm (key_set s) (h0.absent h2 hs hφ) _ fun w' m' g' z' => h1 w' ⟨_, m', fun t v ht => ?_⟩ g' z'
    rw [List.mem_append, List.mem_singleton, Prod.mk.injEq]
    unfold putF
    by_cases c : t = s
    · subst c
      rw [if_pos rfl]
      constructor
      · rintro (hh | ⟨_, rfl⟩)
        · exact absurd rfl (h0.absent h2 hs hφ _ hh)
        · exact ⟨x, rfl, rfl⟩
      · rintro ⟨y, hy, rfl⟩
        injection hy with hy
        exact .inr ⟨rfl, by rw [hy]⟩
    · rw [if_neg c, ← h2 t v ht]
      constructor
      · rintro (hh | ⟨hh, _⟩)
        · exact hh
        · exact absurd (setV_rows ht hs hh) c
      · exact .inl
  | some old =>
    have hin : (setV s, Value.int .i64 old) ∈ kv := (h2 s _ hs).2 ⟨old, hφ, rfl⟩
    refine map_old keyed_set mapT hm (key_set s) hin _ fun j w' hj m' g' z' => h1 w' ⟨_, m', fun t v ht => ?_⟩ g' z'
    have hjl := (List.getElem?_eq_some_iff.1 hj).1
    obtain ⟨_, _, _, _, _, hnd⟩ := m'
    have hself : (setV s, Value.int .i64 x) ∈ kv.set j (setV s, .int .i64 x) := List.mem_of_getElem? (List.getElem?_set_self hjl)
    unfold putF
    by_cases c : t = s
    · subst c
      rw [if_pos rfl]
      constructor
      · intro hh
        exact ⟨x, rfl, pair_inj hnd hh hself⟩
      · rintro ⟨y, hy, rfl⟩
        injection hy with hy
        rw [← hy]; exact hself
    · rw [if_neg c, ← h2 t v ht]
      constructor
      · intro hh
        obtain ⟨i, hi⟩ := List.mem_iff_getElem?.1 hh
        by_cases ci : j = i
        · subst ci
          rw [List.getElem?_set_self hjl] at hi
          injection hi with hi
          injection hi with hi _
          exact absurd (setV_rows hs ht hi).symm c
        · rw [List.getElem?_set_ne ci] at hi
          exact List.mem_of_getElem? hi
      · intro hh
        obtain ⟨i, hi⟩ := List.mem_iff_getElem?.1 hh
        by_cases ci : j = i
        · subst ci
          rw [hj] at hi
          injection hi with hi
          injection hi with hi _
          exact absurd (setV_rows hs ht hi).symm c
        · exact List.mem_of_getElem? (by rw [List.getElem?_set_ne ci]; exact hi)
end
end
end Go.Proofs.YtcjedgiglimipaaDoor

/-
  Chapter 15, in plain Lean: what the program's keeps goes through. No program in sight.
-/
namespace Go.Proofs.YtcjedgiglimipaaDoor
set_option linter.unusedSimpArgs false
set_option linter.unusedVariables false
set_option linter.unusedSectionVars false
open Go.RowKit

/-- What is known of sets: 1 it can be kept, 2 it can't. -/
def GOk (p : Plt) (free : List Int) (φ : List Int → Option Int) : Prop := ∀ s x, IsRow s 6 → φ s = some x → (x = 1 ∧ Kp p free s) ∨ (x = 2 ∧ ¬ Kp p free s)
theorem GOk.put {p : Plt} {free : List Int} {φ : List Int → Option Int} (h : GOk p free φ) {s : List Int} {x : Int} (hx : (x = 1 ∧ Kp p free s) ∨ (x = 2 ∧ ¬ Kp p free s)) : GOk p free (putF φ s x) := fun t y ht hy => by
  unfold putF at hy
  by_cases c : t = s
  · subst c; rw [if_pos rfl] at hy; injection hy with hy; subst hy; exact hx
  · rw [if_neg c] at hy; exact h t y ht hy
def Rch (p : Plt) (free s t : List Int) : Prop := ∃ u : List Int, (∀ e ∈ u, e ∈ ufE p free) ∧ t = u.foldl (nextP p) s
theorem Rch.refl (p : Plt) (free s : List Int) : Rch p free s s := ⟨[], by simp, rfl⟩
theorem Rch.next {p : Plt} {free s t : List Int} (h : Rch p free s t) {e : Int} (he : e ∈ ufE p free) : Rch p free s (nextP p t e) := by
  obtain ⟨u, h1, rfl⟩ := h
  refine ⟨u ++ [e], fun x hx => ?_, by rw [List.foldl_append]; rfl⟩
  rcases List.mem_append.1 hx with hx | hx
  · exact h1 x hx
  · rw [List.mem_singleton.1 hx]; exact he
theorem Rch.kp {p : Plt} {free s t : List Int} (h : Rch p free s t) (hs : Kp p free s) : Kp p free t := by
  obtain ⟨u, h1, rfl⟩ := h
  intro v hv
  rw [← List.foldl_append]
  exact hs (u ++ v) fun e he => by
    rcases List.mem_append.1 he with he | he
    · exact h1 e he
    · exact hv e he
/-- What was reached, as far as some of it was looked at. -/
structure KRG (p : Plt) (free s : List Int) (R : List (List Int)) (i : Nat) : Prop where
  nodup : R.Nodup
  row : ∀ t ∈ R, IsRow t p.m.states
  rch : ∀ t ∈ R, Rch p free s t
  self : s ∈ R
  le : i ≤ R.length
  seen : ∀ j t, j < i → R[j]? = some t → Kp p free t ∨ (¬ TellsL t p.secret ∧ ∀ e ∈ ufE p free, nextP p t e ∈ R)
theorem KRG.start {p : Plt} {free s : List Int} (hs : IsRow s p.m.states) : KRG p free s [s] 0 :=
  ⟨by simp, fun t ht => by rw [List.mem_singleton.1 ht]; exact hs, fun t ht => by rw [List.mem_singleton.1 ht]; exact Rch.refl _ _ _, by simp, Nat.zero_le _, fun j t hj => absurd hj (by omega)⟩
theorem KRG.add {p : Plt} {free s : List Int} {R : List (List Int)} {i : Nat} (h : KRG p free s R i) (hm : p.m.May) {t : List Int} (ht : t ∈ R) {e : Int} (he : e ∈ ufE p free) (hn : nextP p t e ∉ R) : KRG p free s (R ++ [nextP p t e]) i := by
  refine ⟨?_, ?_, ?_, List.mem_append_left _ h.self, by have := h.le; rw [List.length_append]; omega, fun j x hj hx => ?_⟩
  · rw [List.nodup_append]
    exact ⟨h.nodup, by simp, fun a ha b hb => by rw [List.mem_singleton.1 hb]; exact fun e => hn (e ▸ ha)⟩
  · intro x hx
    rcases List.mem_append.1 hx with hx | hx
    · exact h.row x hx
    · rw [List.mem_singleton.1 hx]; exact seeL_row hm _ _ _
  · intro x hx
    rcases List.mem_append.1 hx with hx | hx
    · exact h.rch x hx
    · rw [List.mem_singleton.1 hx]; exact (h.rch t ht).next he
  · rw [List.getElem?_append_left (by have := h.le; omega)] at hx
    rcases h.seen j x hj hx with k | ⟨k1, k2⟩
    · exact .inl k
    · exact .inr ⟨k1, fun e he => List.mem_append_left _ (k2 e he)⟩
/-- One more was looked at. -/
theorem KRG.next {p : Plt} {free s : List Int} {R : List (List Int)} {i : Nat} (h : KRG p free s R i) {t : List Int} (ht : R[i]? = some t) (hk : Kp p free t ∨ (¬ TellsL t p.secret ∧ ∀ e ∈ ufE p free, nextP p t e ∈ R)) : KRG p free s R (i + 1) :=
  ⟨h.nodup, h.row, h.rch, h.self, (List.getElem?_eq_some_iff.1 ht).1, fun j x hj hx => by
    by_cases c : j = i
    · subst c; rw [ht] at hx; injection hx with hx; subst hx; exact hk
    · exact h.seen j x (by omega) hx⟩
theorem KRG.len {p : Plt} {free s : List Int} {R : List (List Int)} {i : Nat} (h : KRG p free s R i) (h6 : p.m.states ≤ 6) : R.length ≤ 64 := by
  have : (R.map codeR).length ≤ 64 := nodup_nat_len 64 _ (List.Pairwise.map _ (fun a b hab => hab) (List.Pairwise.imp_of_mem (fun {x y} hx hy hxy e => hxy (codeR_inj ((h.row x hx).more h6) ((h.row y hy).more h6) e)) h.nodup)) fun n hn => by
    obtain ⟨l, hl, rfl⟩ := List.mem_map.1 hn
    exact codeR_lt ((h.row l hl).more h6)
  simpa using this
theorem KRG.done {p : Plt} {free s : List Int} {R : List (List Int)} (h : KRG p free s R R.length) : ∀ t ∈ R, Kp p free t := fun t ht => by
  refine Kp.of (G := fun t => t ∈ R ∨ Kp p free t) ?_ ?_ (.inl ht)
  · rintro x (hx | hx)
    · obtain ⟨j, hj⟩ := List.mem_iff_getElem?.1 hx
      rcases h.seen j x (List.getElem?_eq_some_iff.1 hj).1 hj with k | k
      · exact k.self
      · exact k.1
    · exact hx.self
  · rintro x (hx | hx) e he
    · obtain ⟨j, hj⟩ := List.mem_iff_getElem?.1 hx
      rcases h.seen j x (List.getElem?_eq_some_iff.1 hj).1 hj with k | k
      · exact .inr (k.next he)
      · exact .inl (k.2 e he)
    · exact .inr (hx.next he)
end Go.Proofs.YtcjedgiglimipaaDoor

/-
  Chapter 15: the program's keeps: by its contract.
-/
namespace Go.Proofs.YtcjedgiglimipaaDoor
set_option linter.unusedSimpArgs false
set_option linter.unusedVariables false
set_option linter.unusedSectionVars false
open Go.RowKit

structure KeepM (g : Nat) (w w' : World) : Prop where
  os : w'.os = w.os
  tape : w'.tape = w.tape
  output : w'.output = w.output
  size : w.heap.size ≤ w'.heap.size
  block : ∀ b, b < w.heap.size → b ≠ g → w'.heap[b]? = w.heap[b]?
section
variable {g : Nat} {w w' w2 : World}
theorem KeepM.refl (g : Nat) (w : World) : KeepM g w w := ⟨rfl, rfl, rfl, Nat.le_refl _, fun _ _ _ => rfl⟩
theorem KeepM.trans (h : KeepM g w w') (k : KeepM g w' w2) : KeepM g w w2 := ⟨k.os.trans h.os, k.tape.trans h.tape, k.output.trans h.output, Nat.le_trans h.size k.size, fun b hb hne => (k.block b (Nat.lt_of_lt_of_le hb h.size) hne).trans (h.block b hb hne)⟩
theorem KeepM.of (h : Below w.heap.size w w') : KeepM g w w' := ⟨h.os, h.tape, h.output, h.size, fun b hb _ => h.block b hb⟩
theorem KeepM.below {B : Nat} (h : KeepM g w w') (b : Below B w' w2) (hB : w'.heap.size ≤ B) : KeepM g w w2 := h.trans ⟨b.os, b.tape, b.output, b.size, fun x hx _ => b.block x (Nat.lt_of_lt_of_le hx hB)⟩
theorem KeepM.grew {A : Option Addr} (h : KeepM g w w') (hg : Grew w' w2 A) (hA : ∀ a, A = some a → w.heap.size ≤ a.block) : KeepM g w w2 :=
  ⟨hg.by_.os.trans h.os, hg.by_.tape.trans h.tape, hg.by_.output.trans h.output, Nat.le_trans h.size hg.by_.size, fun b hb hne => by
    rw [hg.by_.block b (Nat.lt_of_lt_of_le hb h.size) (by
      cases A with
      | none => simp
      | some a => have := hA a rfl; simp only [Option.map_some, ne_eq, Option.some.injEq]; omega)]
    exact h.block b hb hne⟩
theorem KeepM.self {o : Nat} (h : KeepM g w w') (hg : Grew w' w2 (some ⟨g, o, none⟩)) : KeepM g w w2 :=
  ⟨hg.by_.os.trans h.os, hg.by_.tape.trans h.tape, hg.by_.output.trans h.output, Nat.le_trans h.size hg.by_.size, fun b hb hne => by
    rw [hg.by_.block b (Nat.lt_of_lt_of_le hb h.size) (by simp only [Option.map_some, ne_eq, Option.some.injEq]; exact hne)]
    exact h.block b hb hne⟩
theorem KeepM.to_below {B : Nat} {w0 : World} (k : KeepM g w w') (b : Below B w0 w) (hB : B ≤ w.heap.size) (hg : B ≤ g) : Below B w0 w' :=
  ⟨k.os.trans b.os, k.tape.trans b.tape, k.output.trans b.output, Nat.le_trans b.size k.size, fun x hx => (k.block x (by omega) (by omega)).trans (b.block x hx)⟩
theorem Blk.keepM {x t : Nat} {cs : List Value} (h : Blk w x t cs) (k : KeepM g w w') (hne : x ≠ g) : Blk w' x t cs := by unfold Blk at *; rw [k.block x (by have := h; exact (Array.getElem?_eq_some_iff.1 h).1) hne]; exact h
theorem IsP.keepM {B : Nat} {a : PV} {p : Plt} (h : IsP (· < B) w a p) (k : KeepM g w w') (hB : B ≤ g) (hw : B ≤ w.heap.size) : IsP (· < B) w' a p := h.keep fun b hb => k.block b (Nat.lt_of_lt_of_le hb hw) (by omega)
theorem Ints.keepB {B : Nat} {A : Option Addr} {l : List Int} (h : Ints (· < B) w A l) (k : KeepM g w w') (hB : B ≤ g) (hw : B ≤ w.heap.size) : Ints (· < B) w' A l := h.keep fun b hb => k.block b (Nat.lt_of_lt_of_le hb hw) (by omega)
end
theorem Own.ne_ltV {B e sz c n g : Nat} {w : World} {A : Option Addr} {xs : List Value} (h : Own B e sz w A c n xs) (hg : g < B) : some g ≠ A.map (·.block) := by
  intro e
  cases A with
  | none => cases e
  | some a =>
    have e' : g = a.block := Option.some.inj e
    have := h.geB a rfl
    omega
abbrev kpC (a : PV) (p : Plt) (A : Option Addr) (free : List Int) (c gM : Nat) : List Value := [.int .i64 p.m.states, .int .i64 p.m.events, .slice a.m.As p.m.starts.length a.m.cs, .slice a.m.Aa p.m.arrows.length a.m.ca, .slice a.m.Ae p.m.ends.length a.m.ce, .slice a.Ap p.seen.length a.cp, .slice a.Aq p.secret.length a.cq, .slice A free.length c, .map (some gM)]
section
variable {K : Fr → World → Prop} {u : World} {f : Fr} {d : Option Nat} {w : World} {g t : Nat} {a : PV} {p : Plt} {A : Option Addr} {free : List Int} {c gM : Nat}
theorem Blk.kM (h : Blk u g t (kpC a p A free c gM)) : Val1 Tryd.prog K (Instr.loadAt 106 (.pointer (some ⟨g, 8, none⟩))) u f d w = K (updO f d (.map (some gM))) w := h.ld ty_ag_106 8 (by simp)
theorem Blk.kF (h : Blk u g t (kpC a p A free c gM)) : Val1 Tryd.prog K (Instr.loadAt 22 (.pointer (some ⟨g, 7, none⟩))) u f d w = K (updO f d (.slice A free.length c)) w := h.ld ty_ag_22 7 (by simp)
theorem Blk.kS (h : Blk u g t (kpC a p A free c gM)) : Val1 Tryd.prog K (Instr.loadAt 22 (.pointer (some ⟨g, 6, none⟩))) u f d w = K (updO f d (.slice a.Aq p.secret.length a.cq)) w := h.ld ty_ag_22 6 (by simp)
theorem Blk.kE (h : Blk u g t (kpC a p A free c gM)) : Val1 Tryd.prog K (Instr.loadAt 22 (.pointer (some ⟨g, 5, none⟩))) u f d w = K (updO f d (.slice a.Ap p.seen.length a.cp)) w := h.ld ty_ag_22 5 (by simp)
theorem Blk.kP (h : Blk u g t (kpC a p A free c gM)) : Val1 Tryd.prog K (Instr.loadAt 43 (.pointer (some ⟨g, 0, none⟩))) u f d w = K (updO f d (a.val p)) w :=
  h.ldSub ty_ag_43 0 (vs := a.cells p) ty_sz_43 fun k v hv => by
    match k, hv with
    | 0, hv => exact hv
    | 1, hv => exact hv
    | 2, hv => exact hv
    | 3, hv => exact hv
    | 4, hv => exact hv
    | 5, hv => exact hv
    | 6, hv => exact hv
    | k + 7, hv => simp [PV.cells] at hv
end
/-- Behind keeps: the map of what is known has grown; nothing else that was there was touched. -/
def KeepsRes (p : Plt) (free s : List Int) (gM : Nat) (w : World) (v : Value) (w' : World) : Prop :=
  (∃ b : Bool, v = .bool b ∧ (b = true ↔ Kp p free s)) ∧ (∃ φ, GOk p free φ ∧ SMap w' gM φ) ∧ KeepM gM w w'
theorem veil_keeps {w : World} {a : PV} {p : Plt} (ha : IsP (· < w.heap.size) w a p) (hf : p.Fits) (hp : p.May) {A1 : Option Addr} {c1 : Nat} {free : List Int} (h1 : Ints (· < w.heap.size) w A1 free) (n1 : free.length ≤ 17592186043904)
    {gK gM : Nat} (hK : Blk w gK 108 (kpC a p A1 free c1 gM)) {φ : List Int → Option Int} (hφ : GOk p free φ) (hM : SMap w gM φ) {s : List Int} (hs : IsRow s p.m.states) :
    Cal Tryd.prog 72 [.pointer (some ⟨gK, 0, none⟩), setV s] w (KeepsRes p free s gM w) := by
  have hm := hp.1
  have s6 : IsRow s 6 := hs.more hp.2.1
  have n8 : p.seen.length ≤ 8 := by have := row_lenV hp.2.2.1; have := hm.2.2.2.1; omega
  refine cal_veil_keeper_keeps (by simp) 1000000 fun Q hQ => ?_
  simp (disch := first | with_reducible assumption | omega) only [push_cast, x_blk, x_cd, ↓reduceIte, Nat.reduceEqDiff, List.map_cons, List.map_nil, Int.reduceEq, Int.lt_irrefl, F_veil_keeper_keeps]
  refine blk_of (box_agg _ (setCells (wordsOf s))) ?_
  intro w1 kS b1 z1
  have bd : Below w1.heap.size w1 w1.drew := (Same.refl w1).drew.below _
  have b1d := b1.trans (bd.mono b1.size)
  have kS2 := kS.below bd kS.lt
  have kK := hK.below b1d hK.lt
  have mM := hM.below b1d hM.lt
  generalize hu : w1.drew = u at *
  have lk := fun {K : Fr → World → Prop} {f : Fr} {d : Option Nat} {w : World} => mM.look (K := K) (f := f) (d := d) (w := w) s6
  have hbig : w.heap.size ≤ u.heap.size := b1d.size
  have g01 : (0 : Int) < 1 := by decide
  have g02 : (0 : Int) < 2 := by decide
  have hk0 : ∀ b, b < w.heap.size → b ≠ gM → u.heap[b]? = w.heap[b]? := fun b hb _ => b1d.block b hb
  cases hφs : φ s with
  | some x =>
    have hx := hφ s x s6 hφs
    rw [hφs] at lk
    have bd2 : Below u.heap.size u u.drew := (Same.refl u).drew.below _
    have kS3 := kS2.below bd2 kS2.lt
    have kK3 := kK.below bd2 kK.lt
    have mM3 := mM.below bd2 mM.lt
    have b3 := b1d.trans (bd2.mono hbig)
    generalize hu2 : u.drew = u2 at *
    have lk3 := fun {K : Fr → World → Prop} {f : Fr} {d : Option Nat} {w : World} => mM3.look (K := K) (f := f) (d := d) (w := w) s6
    rw [hφs] at lk3
    rcases hx with ⟨rfl, hk⟩ | ⟨rfl, hk⟩
    · simp (disch := first | with_reducible assumption | omega) only [push_cast, x_blk, x_cd, ↓reduceIte, Nat.reduceEqDiff, List.map_cons, List.map_nil, Int.reduceEq, Int.lt_irrefl, hu, kK.kM, kS2.setA (wordsOf_words _) ty_ag_76 ty_sz_76, v_lookup, lk, Option.getD_some, g01, g02, hu2, kK3.kM, kS3.setA (wordsOf_words _) ty_ag_76 ty_sz_76, lk3, g01, eq_self]
      exact fin_1 (hQ _ _ ⟨⟨true, (by simp only [push_cast, ↓reduceIte, Nat.reduceEqDiff, Int.reduceEq]), ⟨fun _ => hk, fun _ => rfl⟩⟩, ⟨φ, hφ, mM3⟩, KeepM.of b3⟩)
    · simp (disch := first | with_reducible assumption | omega) only [push_cast, x_blk, x_cd, ↓reduceIte, Nat.reduceEqDiff, List.map_cons, List.map_nil, Int.reduceEq, Int.lt_irrefl, hu, kK.kM, kS2.setA (wordsOf_words _) ty_ag_76 ty_sz_76, v_lookup, lk, Option.getD_some, g01, g02, hu2, kK3.kM, kS3.setA (wordsOf_words _) ty_ag_76 ty_sz_76, lk3]
      exact fin_1 (hQ _ _ ⟨⟨false, (by simp only [push_cast, ↓reduceIte, Nat.reduceEqDiff, Int.reduceEq]), ⟨fun h => (by cases h), fun h => absurd h hk⟩⟩, ⟨φ, hφ, mM3⟩, KeepM.of b3⟩)
  | none =>
  rw [hφs] at lk
  simp (disch := first | with_reducible assumption | omega) only [push_cast, x_blk, x_cd, ↓reduceIte, Nat.reduceEqDiff, List.map_cons, List.map_nil, Int.reduceEq, Int.lt_irrefl, hu, kK.kM, kS2.setA (wordsOf_words _) ty_ag_76 ty_sz_76, v_lookup, lk, Option.getD_none, bs_rec setEnc slT_72 _ (by decide)]
  have o2 := own_rec setEnc u s 76
  have b2 : Below u.heap.size u (u.alloc (.cells (setC s).toArray 76)) := (Below.refl _ _).alloc (Nat.le_refl _) _
  generalize u.alloc (.cells (setC s).toArray 76) = w2 at *
  have hz2 := b2.size
  have b02 := b1d.trans (b2.mono hbig)
  replace kS2 := kS2.below b2 kS2.lt
  replace o2 := o2.base (B' := w.heap.size + 1) (by have := bd.size; omega)
  simp (disch := first | with_reducible assumption | omega) only [push_cast, x_blk, x_cd, ↓reduceIte, Nat.reduceEqDiff, List.map_cons, List.map_nil, Int.reduceEq, Int.lt_irrefl, e_makeMap]
  refine map_made (k := 76) _ ?_
  intro w3 m3 b3 z3
  have b03 := b02.trans (b3.mono b02.size)
  have kS3 := kS2.below b3 kS2.lt
  have o3 := o2.below b3 (Nat.le_refl _)
  have hm3 := SMap.empty m3
  have lM3 := hm3.lt
  generalize hgN : w2.heap.size = gN at *
  have hN : w.heap.size ≤ gN := by rw [← hgN]; exact b02.size
  have hN2 : w.heap.size < gN := by rw [← hgN]; exact kS2.lt
  simp (disch := first | with_reducible assumption | omega) only [push_cast, x_blk, x_cd, ↓reduceIte, Nat.reduceEqDiff, List.map_cons, List.map_nil, Int.reduceEq, Int.lt_irrefl, e_insert, kS3.setA (wordsOf_words _) ty_ag_76 ty_sz_76]
  refine hm3.put s6 1 ?_
  intro w4 m4 g4 z4
  have b04 := g4.below b03 b03.size (by intro a ha; injection ha with ha; subst ha; exact hN)
  simp (disch := first | with_reducible assumption | omega) only [push_cast, x_blk, x_cd, ↓reduceIte, Nat.reduceEqDiff, List.map_cons, List.map_nil, Int.reduceEq, Int.lt_irrefl]
  have o4 := o3.grew g4 (.inr (fun e => by
    have h1 := (hm3 : SMap w3 gN _).lt
    obtain ⟨kv, hkv, _⟩ := hm3
    exact hkv.ne_own o3 e.symm))
  have hg0 : ∀ t, IsRow t 6 → putF (fun _ => none) s 1 t = if t ∈ [s] then some 1 else none := fun t _ => by
    unfold putF
    by_cases c : t = s
    · rw [if_pos c, if_pos (by simp [c])]
    · rw [if_neg c, if_neg (by simpa using c)]
  have hR0 := KRG.start (free := free) hs
  refine loop_rule (fun f w' => ∃ (i : Nat) (R : List (List Int)) (A : Option Addr) (c : Nat) (ψ : List Int → Option Int), KRG p free s R i ∧ (f 0 = .pointer (some ⟨gK, 0, none⟩) ∧ f 3 = .pointer (some ⟨w.heap.size, 0, none⟩) ∧ f 5 = .slice A R.length c ∧ f 6 = .map (some gN) ∧ f 7 = .int .i64 i) ∧
      OwnR setC (w.heap.size + 1) 76 4 w' A c R ∧ SMap w' gN ψ ∧ (∀ t, IsRow t 6 → ψ t = if t ∈ R then some 1 else none) ∧ Blk w' w.heap.size 76 (setCells (wordsOf s)) ∧ Below w.heap.size w w')
    (fun f _ => 65 - (intOf (f 7)).toNat) ⟨0, [s], _, 1, _, hR0, ⟨rfl, rfl, rfl, rfl, rfl⟩, o4, m4, hg0, ?_, b04⟩ ?_
  · exact kS3.grown g4.by_ (by simp; omega)
  clear o4 m4 hg0 hR0 b04 g4 o3 hm3 b03 kS3
  rintro f w5 ⟨i, R, A, c, ψ, hR, fr, ho, mN, hψ, kS5, b5⟩ J hJ
  have hz5 := b5.size
  have kK5 := hK.below b5 hK.lt
  have mM5 := hM.below b5 hM.lt
  have hRl := hR.len hp.2.1
  by_cases hil : i < R.length
  case neg =>
    have hie : i = R.length := by have := hR.le; omega
    subst hie
    have hall := hR.done
    have hks := hall s hR.self
    simp (disch := first | with_reducible assumption | omega) only [push_cast, x_blk, x_cd, ↓reduceIte, Nat.reduceEqDiff, List.map_cons, List.map_nil, Int.reduceEq, Int.lt_irrefl, L_veil_keeper_keeps_2, fr, Nat.lt_irrefl]
    refine loop_rule (fun f w' => ∃ (k : Nat) (χ : List Int → Option Int), k ≤ R.length ∧ (f 0 = .pointer (some ⟨gK, 0, none⟩) ∧ f 112 = .slice A R.length c ∧ f 113 = .int .i64 R.length ∧ f 114 = .int .i64 k) ∧ GOk p free χ ∧ SMap w' gM χ ∧ KeepM gM w5 w')
      (fun f _ => R.length - (intOf (f 114)).toNat) ⟨0, φ, Nat.zero_le _, (by simp only [push_cast, ↓reduceIte, Nat.reduceEqDiff, true_and, and_true, and_self, eq_self, fr]), hφ, mM5, KeepM.refl _ _⟩ ?_
    clear fr
    rintro f w6 ⟨k, χ, hk, fr, hχ, mM6, hkm⟩ J2 hJ2
    have hz6 := hkm.size
    have hk6 := hkm.block
    by_cases hkl : k < R.length
    case neg =>
      obtain rfl : k = R.length := by omega
      simp (disch := first | with_reducible assumption | omega) only [push_cast, x_blk, x_cd, ↓reduceIte, Nat.reduceEqDiff, List.map_cons, List.map_nil, Int.reduceEq, Int.lt_irrefl, L_veil_keeper_keeps_0, fr, Nat.lt_irrefl]
      exact fin_1 (hQ _ _ ⟨⟨true, (by simp only [push_cast, ↓reduceIte, Nat.reduceEqDiff, Int.reduceEq]), ⟨fun _ => hks, fun _ => rfl⟩⟩, ⟨χ, hχ, mM6⟩, (KeepM.of b5).trans hkm⟩)
    obtain ⟨t, ht⟩ : ∃ t, R[k]? = some t := ⟨_, List.getElem?_eq_getElem hkl⟩
    have htm := List.mem_of_getElem? ht
    have ht6 : IsRow t 6 := (hR.row t htm).more hp.2.1
    have hRb : Recs setC 4 (fun b => w.heap.size ≤ b ∧ b < w5.heap.size) w5 A R := ((OwnR.recs ho setEnc (by decide)).both (Recs.lt setEnc (by decide) (OwnR.recs ho setEnc (by decide)))).mono fun b hb => ⟨by have := hb.1.1; omega, hb.2⟩
    have lM := hM.lt
    have lK := hK.lt
    have hR6 := hRb.keep fun b hb => hk6 b hb.2 (by omega)
    have sA := hR6.isSome (by omega)
    have hldx := fun {K : Fr → World → Prop} {f : Fr} {d : Option Nat} {w' : World} => hR6.ldAll (P := Tryd.prog) (K := K) (f := f) (d := d) (w := w') setEnc ty_ag_76 ht ty_sz_76
    simp (disch := first | with_reducible assumption | omega) only [push_cast, x_blk, x_cd, ↓reduceIte, Nat.reduceEqDiff, List.map_cons, List.map_nil, Int.reduceEq, Int.lt_irrefl, L_veil_keeper_keeps_0, fr, hkl, sA, hldx]
    refine blk_of (cs := setCells (wordsOf [])) al_76 ?_
    intro w7 k7 b7 z7
    simp (disch := first | with_reducible assumption | omega) only [push_cast, x_blk, x_cd, ↓reduceIte, Nat.reduceEqDiff, List.map_cons, List.map_nil, Int.reduceEq, Int.lt_irrefl]
    refine sto_blk k7 (cs := setCells (wordsOf t)) (e4_set _) (by rw [setCells_4, setCells_4]) (setCells_one _) ?_
    intro w8 k8 g8 z8
    have b8 := g8.below b7 b7.size (by intro a ha; injection ha with ha; subst ha; exact Nat.le_refl _)
    have bd : Below w8.heap.size w8 w8.drew := (Same.refl w8).drew.below _
    have b9 := b8.trans (bd.mono b8.size)
    have k9 := k8.below bd k8.lt
    have hne : gK ≠ gM := by
      obtain ⟨kv, hkv, _⟩ := hM
      exact fun e => hkv.ne_blk hK e.symm
    have kK6 : Blk w6 gK 108 (kpC a p A1 free c1 gM) := by
      unfold Blk at kK5 ⊢
      rw [hk6 gK (by omega) hne]; exact kK5
    have kK9 := kK6.below b9 (by omega)
    have mM9 := mM6.below b9 (by omega)
    have hz9 := b9.size
    generalize hu9 : w8.drew = u9 at *
    simp (disch := first | with_reducible assumption | omega) only [push_cast, x_blk, x_cd, ↓reduceIte, Nat.reduceEqDiff, List.map_cons, List.map_nil, Int.reduceEq, Int.lt_irrefl, fr, hu9, kK9.kM, k9.setA (wordsOf_words _) ty_ag_76 ty_sz_76]
    refine mM9.put ht6 1 ?_
    intro w10 m10 g10 z10
    simp (disch := first | with_reducible assumption | omega) only [push_cast, x_blk, x_cd, ↓reduceIte, Nat.reduceEqDiff, List.map_cons, List.map_nil, Int.reduceEq, Int.lt_irrefl, fr]
    exact hJ2 _ _ ⟨k + 1, _, hkl, (by simp only [push_cast, ↓reduceIte, Nat.reduceEqDiff, true_and, and_true, and_self, eq_self, fr]), hχ.put (.inl ⟨rfl, hall t htm⟩), m10, (hkm.below b9 (Nat.le_refl _)).self g10⟩ (by simp only [push_cast, ↓reduceIte, Nat.reduceEqDiff, intOf, fr]; omega)
  obtain ⟨t, ht⟩ : ∃ t, R[i]? = some t := ⟨_, List.getElem?_eq_getElem hil⟩
  have htm := List.mem_of_getElem? ht
  have ht6 : IsRow t 6 := (hR.row t htm).more hp.2.1
  have lM := hM.lt
  have lK := hK.lt
  have bd : Below w5.heap.size w5 w5.drew := (Same.refl w5).drew.below _
  have b6 := b5.trans (bd.mono hz5)
  have ho6 := ho.below bd (Nat.le_refl _)
  have kK6 := hK.below b6 lK
  have mM6 := hM.below b6 lM
  have kS6 := kS5.below bd kS5.lt
  have mN6 := mN.below bd mN.lt
  have hz6 := bd.size
  generalize hu6 : w5.drew = u6 at *
  have hR6 := Recs.lt setEnc (by decide) (OwnR.recs ho6 setEnc (by decide))
  have sA := hR6.isSome (by omega)
  have hldx := fun {K : Fr → World → Prop} {f : Fr} {d : Option Nat} {w' : World} => hR6.ldAll (P := Tryd.prog) (K := K) (f := f) (d := d) (w := w') setEnc ty_ag_76 ht ty_sz_76
  have lk6 : ∀ {K : Fr → World → Prop} {f : Fr} {d : Option Nat} {w : World}, Val1 Tryd.prog K (Instr.lookup 106 (.map (some gM)) (.agg (setC t).toArray) false) u6 f d w = K (updO f d (.int .i64 ((φ t).getD 0))) w := fun {K f d w} => mM6.look ht6
  have hmu : (intOf (f 7)).toNat = i := by rw [fr.2.2.2.2]; simp [intOf]
  by_cases hg1 : (φ t).getD 0 = 1
  · have hkt : Kp p free t := by
      cases hφt : φ t with
      | none => rw [hφt] at hg1; cases hg1
      | some x =>
        rw [hφt] at hg1
        have hx1 : x = 1 := hg1
        rcases hφ t x ht6 hφt with ⟨_, h⟩ | ⟨h, _⟩
        · exact h
        · omega
    simp (disch := first | with_reducible assumption | omega) only [push_cast, x_blk, x_cd, ↓reduceIte, Nat.reduceEqDiff, List.map_cons, List.map_nil, Int.reduceEq, Int.lt_irrefl, L_veil_keeper_keeps_2, fr, hil, hu6, kK6.kM, sA, hldx, v_lookup, lk6, hg1, eq_self]
    exact hJ _ _ ⟨i + 1, R, A, c, ψ, hR.next ht (.inl hkt), (by simp only [push_cast, ↓reduceIte, Nat.reduceEqDiff, true_and, and_true, and_self, eq_self, fr]), ho6, mN6, hψ, kS6, b6⟩ (by rw [hmu]; simp only [push_cast, ↓reduceIte, Nat.reduceEqDiff, intOf, fr]; omega)
  simp (disch := first | with_reducible assumption | omega) only [push_cast, x_blk, x_cd, ↓reduceIte, Nat.reduceEqDiff, List.map_cons, List.map_nil, Int.reduceEq, Int.lt_irrefl, L_veil_keeper_keeps_2, fr, hil, hu6, kK6.kM, sA, hldx, v_lookup, lk6, hg1]
  have bd7 : Below u6.heap.size u6 u6.drew := (Same.refl u6).drew.below _
  have b7 := b6.trans (bd7.mono (by omega))
  have ho7 := ho6.below bd7 (by omega)
  have kK7 := hK.below b7 lK
  have mM7 := hM.below b7 lM
  have kS7 := kS6.below bd7 kS6.lt
  have mN7 := mN6.below bd7 mN6.lt
  have hz7 := bd7.size
  generalize hu7 : u6.drew = u7 at *
  have hR7 := Recs.lt setEnc (by decide) (OwnR.recs ho7 setEnc (by decide))
  have sA7 := hR7.isSome (by omega)
  have hldx7 := fun {K : Fr → World → Prop} {f : Fr} {d : Option Nat} {w' : World} => hR7.ldAll (P := Tryd.prog) (K := K) (f := f) (d := d) (w := w') setEnc ty_ag_76 ht ty_sz_76
  have nQ := hf.lenQ
  simp (disch := first | with_reducible assumption | omega) only [push_cast, x_blk, x_cd, ↓reduceIte, Nat.reduceEqDiff, List.map_cons, List.map_nil, Int.reduceEq, Int.lt_irrefl, fr, hil, hu7, kK7.kS, sA7, hldx7]
  refine call_of (current_Tells (ht6.small (by decide)) (ha.up b7).secret nQ (hp.2.2.2.small hm.2.1)) ?_
  rintro v w8 ⟨rfl, b8⟩
  have b58 := b7.trans (b8.mono (by have := b7.size; omega))
  have ho8 := ho7.below b8 (by have := b7.size; omega)
  have kK8 := hK.below b58 lK
  have mM8 := hM.below b58 lM
  have kS8 := kS7.below b8 kS7.lt
  have mN8 := mN7.below b8 mN7.lt
  have hbad : ¬ Kp p free t → ¬ Kp p free s := fun hn hk => hn ((hR.rch t htm).kp hk)
  have hz8 := b58.size
  have bd9 : Below w8.heap.size w8 w8.drew := (Same.refl w8).drew.below _
  have b9 := b58.trans (bd9.mono hz8)
  have kK9 := hK.below b9 lK
  have mM9 := hM.below b9 lM
  have kS9 := kS8.below bd9 kS8.lt
  by_cases ct : TellsL t p.secret
  · simp (disch := first | with_reducible assumption | omega) only [push_cast, x_blk, x_cd, ↓reduceIte, Nat.reduceEqDiff, List.map_cons, List.map_nil, Int.reduceEq, Int.lt_irrefl, fr, decide_eq_true ct]
    refine ⟨b8, ?_⟩
    generalize hu9 : w8.drew = u9 at *
    simp (disch := first | with_reducible assumption | omega) only [push_cast, x_blk, x_cd, ↓reduceIte, Nat.reduceEqDiff, List.map_cons, List.map_nil, Int.reduceEq, Int.lt_irrefl, fr, hu9, kK9.kM, kS9.setA (wordsOf_words _) ty_ag_76 ty_sz_76]
    refine mM9.put s6 2 ?_
    intro w10 m10 g10 z10
    have hz9 := b9.size
    simp (disch := first | with_reducible assumption | omega) only [push_cast, x_blk, x_cd, ↓reduceIte, Nat.reduceEqDiff, List.map_cons, List.map_nil, Int.reduceEq, Int.lt_irrefl, fr]
    exact fin_1 (hQ _ _ ⟨⟨false, (by simp only [push_cast, ↓reduceIte, Nat.reduceEqDiff, Int.reduceEq, fr]), ⟨fun h => (by cases h), fun h => absurd h (hbad (Kp.not_tells ct))⟩⟩, ⟨_, hφ.put (.inr ⟨rfl, hbad (Kp.not_tells ct)⟩), m10⟩, (KeepM.of b9).self g10⟩)
  have lk7 : ∀ {K : Fr → World → Prop} {f : Fr} {d : Option Nat} {w : World}, Val1 Tryd.prog K (Instr.lookup 106 (.map (some gM)) (.agg (setC t).toArray) false) u7 f d w = K (updO f d (.int .i64 ((φ t).getD 0))) w := fun {K f d w} => mM7.look ht6
  simp (disch := first | with_reducible assumption | omega) only [push_cast, x_blk, x_cd, ↓reduceIte, Nat.reduceEqDiff, List.map_cons, List.map_nil, Int.reduceEq, Int.lt_irrefl, fr, decide_eq_false ct]
  refine ⟨b8, ?_⟩
  by_cases hg2 : (φ t).getD 0 = 2
  · have hkt : ¬ Kp p free t := by
      cases hφt : φ t with
      | none => rw [hφt] at hg2; cases hg2
      | some x =>
        rw [hφt] at hg2
        have hx1 : x = 2 := hg2
        rcases hφ t x ht6 hφt with ⟨h, _⟩ | ⟨_, h⟩
        · omega
        · exact h
    generalize hu9 : w8.drew = u9 at *
    simp (disch := first | with_reducible assumption | omega) only [push_cast, x_blk, x_cd, ↓reduceIte, Nat.reduceEqDiff, List.map_cons, List.map_nil, Int.reduceEq, Int.lt_irrefl, fr, kK7.kM, hil, sA7, hldx7, v_lookup, lk7, hg2, eq_self, hu9, kK9.kM, kS9.setA (wordsOf_words _) ty_ag_76 ty_sz_76]
    refine mM9.put s6 2 ?_
    intro w10 m10 g10 z10
    have hz9 := b9.size
    simp (disch := first | with_reducible assumption | omega) only [push_cast, x_blk, x_cd, ↓reduceIte, Nat.reduceEqDiff, List.map_cons, List.map_nil, Int.reduceEq, Int.lt_irrefl, fr]
    exact fin_1 (hQ _ _ ⟨⟨false, (by simp only [push_cast, ↓reduceIte, Nat.reduceEqDiff, Int.reduceEq, fr]), ⟨fun h => (by cases h), fun h => absurd h (hbad (hkt))⟩⟩, ⟨_, hφ.put (.inr ⟨rfl, hbad (hkt)⟩), m10⟩, (KeepM.of b9).self g10⟩)
  clear kK9 mM9 kS9 b9 bd9
  simp (disch := first | with_reducible assumption | omega) only [push_cast, x_blk, x_cd, ↓reduceIte, Nat.reduceEqDiff, List.map_cons, List.map_nil, Int.reduceEq, Int.lt_irrefl, fr, kK7.kM, hil, sA7, hldx7, v_lookup, lk7, hg2, kK8.kE]
  have hkg : ∀ {R2 : List (List Int)}, R <+: R2 → R2[i]? = some t := fun h => by rw [prefix_getElem? h hil]; exact ht
  refine loop_rule (fun f' w' => ∃ (j : Nat) (R2 : List (List Int)) (A : Option Addr) (c : Nat) (ψ : List Int → Option Int), j ≤ p.seen.length ∧ R <+: R2 ∧ KRG p free s R2 i ∧ (∀ e ∈ p.seen.take j, e ∉ free → nextP p t e ∈ R2) ∧ (f' 0 = .pointer (some ⟨gK, 0, none⟩) ∧ f' 3 = .pointer (some ⟨w.heap.size, 0, none⟩) ∧ f' 5 = .slice A R2.length c ∧ f' 6 = .map (some gN) ∧ f' 7 = .int .i64 i ∧ f' 79 = .slice a.Ap p.seen.length a.cp ∧ f' 80 = .int .i64 p.seen.length ∧ f' 81 = .int .i64 j) ∧
      OwnR setC (w.heap.size + 1) 76 4 w' A c R2 ∧ SMap w' gN ψ ∧ (∀ t, IsRow t 6 → ψ t = if t ∈ R2 then some 1 else none) ∧ Blk w' w.heap.size 76 (setCells (wordsOf s)) ∧ Below w.heap.size w w')
    (fun f' _ => p.seen.length - (intOf (f' 81)).toNat) ⟨0, R, A, c, ψ, Nat.zero_le _, List.prefix_refl _, hR, fun e he => by simp at he, (by simp only [push_cast, ↓reduceIte, Nat.reduceEqDiff, true_and, and_true, and_self, eq_self, fr]), ho8, mN8, hψ, kS8, b58⟩ ?_
  clear fr hR ho8 mN8 hψ kS8 b58 kK8 mM8 hRl
  rintro f w9 ⟨j, R2, A, c, ψ, hj, hpre, hR, hsn, fr, ho, mN, hψ, kS9, b9⟩ J2 hJ2
  have hRl := hR.len hp.2.1
  have hil2 : i < R2.length := Nat.lt_of_lt_of_le hil hpre.length_le
  have ht2 := hkg hpre
  by_cases hjl : j < p.seen.length
  case neg =>
    obtain rfl : j = p.seen.length := by omega
    rw [List.take_length] at hsn
    have hnx := hR.next ht2 (.inr ⟨ct, fun e he => hsn e (ufE_mem.1 he).1 (ufE_mem.1 he).2⟩)
    simp (disch := first | with_reducible assumption | omega) only [push_cast, x_blk, x_cd, ↓reduceIte, Nat.reduceEqDiff, List.map_cons, List.map_nil, Int.reduceEq, Int.lt_irrefl, L_veil_keeper_keeps_1, fr, Nat.lt_irrefl]
    exact hJ _ _ ⟨i + 1, R2, A, c, ψ, hnx, (by simp only [push_cast, ↓reduceIte, Nat.reduceEqDiff, true_and, and_true, and_self, eq_self, fr]), ho, mN, hψ, kS9, b9⟩ (by rw [hmu]; simp only [push_cast, ↓reduceIte, Nat.reduceEqDiff, intOf, fr]; omega)
  have hz9 := b9.size
  have kK9 := hK.below b9 lK
  have hIs := (ha.up b9).seen
  have sI := hIs.isSome (by omega)
  have hld := fun {K : Fr → World → Prop} {f : Fr} {d : Option Nat} {w : World} => hIs.ld (P := Tryd.prog) (K := K) (f := f) (d := d) (w := w) ty_ag_3 j hjl
  have hem := getD_mem p.seen 0 j hjl
  have htk := take_snoc p.seen (0 : Int) j hjl
  generalize p.seen.getD j 0 = e at *
  have hmu2 : (intOf (f 81)).toNat = j := by rw [fr.2.2.2.2.2.2.2]; simp [intOf]
  simp (disch := first | with_reducible assumption | omega) only [push_cast, x_blk, x_cd, ↓reduceIte, Nat.reduceEqDiff, List.map_cons, List.map_nil, Int.reduceEq, Int.lt_irrefl, L_veil_keeper_keeps_1, fr, hjl, sI, hld, kK9.kF]
  refine call_of (row_Has (h1.up b9) c1 e (by omega)) ?_
  rintro v w10 ⟨rfl, s10⟩
  have b10 := s10.below w9.heap.size
  have ho10 := ho.below b10 (Nat.le_refl _)
  have mN10 := mN.below b10 mN.lt
  have kS10 := kS9.below b10 kS9.lt
  have b910 := b9.trans (b10.mono hz9)
  have hz10 := b10.size
  by_cases q : e ∈ free
  · simp (disch := first | with_reducible assumption | omega) only [push_cast, x_blk, x_cd, ↓reduceIte, Nat.reduceEqDiff, List.map_cons, List.map_nil, Int.reduceEq, Int.lt_irrefl, fr, decide_eq_true q]
    exact hJ2 _ _ ⟨j + 1, R2, A, c, ψ, hjl, hpre, hR, fun x hx hnf => by
      rw [htk] at hx
      rcases List.mem_append.1 hx with hx | hx
      · exact hsn x hx hnf
      · rw [List.mem_singleton.1 hx] at hnf; exact absurd q hnf, (by simp only [push_cast, ↓reduceIte, Nat.reduceEqDiff, true_and, and_true, and_self, eq_self, fr]), ho10, mN10, hψ, kS10, b910⟩ (by rw [hmu2]; simp only [push_cast, ↓reduceIte, Nat.reduceEqDiff, intOf, fr]; omega)
  have bd : Below w10.heap.size w10 w10.drew := (Same.refl w10).drew.below _
  have ho11 := ho10.below bd (Nat.le_refl _)
  have mN11 := mN10.below bd mN10.lt
  have kS11 := kS10.below bd kS10.lt
  have b911 := b910.trans (bd.mono (by omega))
  have kK11 := hK.below b911 lK
  have hz11 := bd.size
  have hR11 := Recs.lt setEnc (by decide) (OwnR.recs ho11 setEnc (by decide))
  have sA11 := hR11.isSome (by omega)
  have hldx11 := fun {K : Fr → World → Prop} {f : Fr} {d : Option Nat} {w' : World} => hR11.ldAll (P := Tryd.prog) (K := K) (f := f) (d := d) (w := w') setEnc ty_ag_76 ht2 ty_sz_76
  generalize hu11 : w10.drew = u11 at *
  have hue : e ∈ ufE p free := ufE_mem.2 ⟨hem, q⟩
  simp (disch := first | with_reducible assumption | omega) only [push_cast, x_blk, x_cd, ↓reduceIte, Nat.reduceEqDiff, List.map_cons, List.map_nil, Int.reduceEq, Int.lt_irrefl, fr, decide_eq_false q, hu11, kK11.kP, hil2, sA11, hldx11]
  have rT := seeL_row hm p.seen t e
  have r6 : IsRow (nextP p t e) 6 := rT.more hp.2.1
  refine cutT (fun f' w' => ∃ g : Nat, (f' 0 = .pointer (some ⟨gK, 0, none⟩) ∧ f' 3 = .pointer (some ⟨w.heap.size, 0, none⟩) ∧ f' 5 = .slice A R2.length c ∧ f' 6 = .map (some gN) ∧ f' 7 = .int .i64 i ∧ f' 79 = .slice a.Ap p.seen.length a.cp ∧ f' 80 = .int .i64 p.seen.length ∧ f' 81 = .int .i64 j ∧ f' 10 = .pointer (some ⟨g, 0, none⟩)) ∧
      Blk w' g 76 (setCells (wordsOf (nextP p t e))) ∧ u11.heap.size ≤ g ∧ Below u11.heap.size u11 w') 20000 40000 (by decide) ?_ ?_
  · intro E hE
    rw [x_t_two]
    refine ⟨?_, ?_⟩
    · simp (disch := first | with_reducible assumption | omega) only [push_cast, x_blk, x_cd, ↓reduceIte, Nat.reduceEqDiff, List.map_cons, List.map_nil, Int.reduceEq, Int.lt_irrefl, fr]
      refine call_of (current_Next (ha.up b911) hf hm t e) ?_
      rintro v w12 ⟨rfl, b12⟩
      simp (disch := first | with_reducible assumption | omega) only [push_cast, x_blk, x_cd, ↓reduceIte, Nat.reduceEqDiff, List.map_cons, List.map_nil, Int.reduceEq, Int.lt_irrefl, fr]
      refine ⟨b12, ?_⟩
      refine blk_of (cs := setCells (wordsOf [])) al_76 ?_
      intro w13 k13 b13 z13
      have b13' := b12.trans (b13.mono b12.size)
      simp (disch := first | with_reducible assumption | omega) only [push_cast, x_blk, x_cd, ↓reduceIte, Nat.reduceEqDiff, List.map_cons, List.map_nil, Int.reduceEq, Int.lt_irrefl, fr]
      refine ⟨b13', ?_⟩
      refine sto_blk k13 (cs := setCells (wordsOf (nextP p t e))) (e4_set _) (by rw [setCells_4, setCells_4]) (setCells_one _) ?_
      intro w14 k14 g14 z14
      simp (disch := first | with_reducible assumption | omega) only [push_cast, x_blk, x_cd, ↓reduceIte, Nat.reduceEqDiff, List.map_cons, List.map_nil, Int.reduceEq, Int.lt_irrefl, fr]
      exact hE _ _ ⟨_, (by simp only [push_cast, ↓reduceIte, Nat.reduceEqDiff, true_and, and_true, and_self, eq_self, fr]), k14, b12.size, g14.below b13' b13'.size (by intro a ha; injection ha with ha; subst ha; exact b12.size)⟩
    · simp (disch := first | with_reducible assumption | omega) only [push_cast, x_blk, x_cd, ↓reduceIte, Nat.reduceEqDiff, List.map_cons, List.map_nil, Int.reduceEq, Int.lt_irrefl, fr]
      refine blk_of (cs := setCells (wordsOf [])) al_76 ?_
      intro w13 k13 b13 z13
      simp (disch := first | with_reducible assumption | omega) only [push_cast, x_blk, x_cd, ↓reduceIte, Nat.reduceEqDiff, List.map_cons, List.map_nil, Int.reduceEq, Int.lt_irrefl, fr]
      refine ⟨b13, ?_⟩
      refine call_of (current_Next (ha.up (b911.trans (b13.mono (by omega)))) hf hm t e) ?_
      rintro v w12 ⟨rfl, b12⟩
      have b12' := b13.trans (b12.mono b13.size)
      replace k13 := k13.below b12 k13.lt
      simp (disch := first | with_reducible assumption | omega) only [push_cast, x_blk, x_cd, ↓reduceIte, Nat.reduceEqDiff, List.map_cons, List.map_nil, Int.reduceEq, Int.lt_irrefl, fr]
      refine ⟨b12', ?_⟩
      refine sto_blk k13 (cs := setCells (wordsOf (nextP p t e))) (e4_set _) (by rw [setCells_4, setCells_4]) (setCells_one _) ?_
      intro w14 k14 g14 z14
      simp (disch := first | with_reducible assumption | omega) only [push_cast, x_blk, x_cd, ↓reduceIte, Nat.reduceEqDiff, List.map_cons, List.map_nil, Int.reduceEq, Int.lt_irrefl, fr]
      exact hE _ _ ⟨_, (by simp only [push_cast, ↓reduceIte, Nat.reduceEqDiff, true_and, and_true, and_self, eq_self, fr]), k14, Nat.le_refl _, g14.below b12' b12'.size (by intro a ha; injection ha with ha; subst ha; exact Nat.le_refl _)⟩
  clear fr
  rintro f w12 ⟨g, fr, kT, hg, b12⟩
  have hz12 := b12.size
  have ho12 := ho11.below b12 (by omega)
  have mN12 := mN11.below b12 mN11.lt
  have kS12 := kS11.below b12 kS11.lt
  have b912 := b911.trans (b12.mono (by omega))
  have hkT : ∀ {K : Fr → World → Prop} {f : Fr} {d : Option Nat} {w : World}, Val1 Tryd.prog K (Instr.lookup 106 (.map (some gN)) (.agg (setC (nextP p t e)).toArray) false) w12 f d w = K (updO f d (.int .i64 ((ψ (nextP p t e)).getD 0))) w := fun {K f d w} => mN12.look r6
  have hnx : ∀ {R3 : List (List Int)}, R2 <+: R3 → nextP p t e ∈ R3 → ∀ x ∈ p.seen.take (j + 1), x ∉ free → nextP p t x ∈ R3 := fun hp3 hin x hx hnf => by
    rw [htk] at hx
    rcases List.mem_append.1 hx with hx | hx
    · exact hp3.subset (hsn x hx hnf)
    · rw [List.mem_singleton.1 hx]; exact hin
  rw [hψ _ r6] at hkT
  by_cases hin : nextP p t e ∈ R2
  · rw [if_pos hin] at hkT
    simp (disch := first | with_reducible assumption | omega) only [push_cast, x_blk, x_cd, ↓reduceIte, Nat.reduceEqDiff, List.map_cons, List.map_nil, Int.reduceEq, Int.lt_irrefl, fr, kT.setA (wordsOf_words _) ty_ag_76 ty_sz_76, v_lookup, hkT, Option.getD_some]
    exact hJ2 _ _ ⟨j + 1, R2, A, c, ψ, hjl, hpre, hR, hnx (List.prefix_refl _) hin, (by simp only [push_cast, ↓reduceIte, Nat.reduceEqDiff, true_and, and_true, and_self, eq_self, fr]), ho12, mN12, hψ, kS12, b912⟩ (by rw [hmu2]; simp only [push_cast, ↓reduceIte, Nat.reduceEqDiff, intOf, fr]; omega)
  rw [if_neg hin] at hkT
  have hlt12 := mN12.lt
  have hne : ∀ {w' : World} {A' : Option Addr} {c' : Nat} {l : List (List Int)} {χ : List Int → Option Int}, SMap w' gN χ → OwnR setC (w.heap.size + 1) 76 4 w' A' c' l → some gN ≠ A'.map (·.block) := fun hs ho => by
    obtain ⟨kv, hkv, _⟩ := hs
    exact hkv.ne_own ho
  have lN11 := mN11.lt
  have hgT : g ≠ gN := by omega
  have hRl2 := hRl
  simp (disch := first | with_reducible assumption | omega) only [push_cast, x_blk, x_cd, ↓reduceIte, Nat.reduceEqDiff, List.map_cons, List.map_nil, Int.reduceEq, Int.lt_irrefl, fr, kT.setA (wordsOf_words _) ty_ag_76 ty_sz_76, v_lookup, hkT, Option.getD_none, eq_self]
  refine mN12.put r6 1 ?_
  intro w13 m13 g13 z13
  have ho13 := ho12.grew g13 (.inr (fun e => hne mN12 ho12 e.symm))
  have kT13 := kT.grown g13.by_ (by simp; omega)
  have kS13 := kS12.grown g13.by_ (by simp; omega)
  have b913 := g13.below b912 b912.size (by intro a ha; injection ha with ha; subst ha; exact hN)
  simp (disch := first | with_reducible assumption | omega) only [push_cast, x_blk, x_cd, ↓reduceIte, Nat.reduceEqDiff, List.map_cons, List.map_nil, Int.reduceEq, Int.lt_irrefl, fr, kT13.setA (wordsOf_words _) ty_ag_76 ty_sz_76, bs_rec setEnc slT_72 _ (by decide)]
  refine app_rec setEnc slT_72 ho13 (nextP p t e) (by omega) (by omega) (by have := kS13.lt; omega) ?_
  intro A14 c14 w14 o14 g14 hA14 hs14 z14
  simp (disch := first | with_reducible assumption | omega) only [push_cast, x_blk, x_cd, ↓reduceIte, Nat.reduceEqDiff, List.map_cons, List.map_nil, Int.reduceEq, Int.lt_irrefl, fr]
  exact hJ2 _ _ ⟨j + 1, R2 ++ [nextP p t e], A14, c14, putF ψ (nextP p t e) 1, hjl, hpre.trans (List.prefix_append _ _), hR.add hm (List.mem_of_getElem? ht2) hue hin, hnx (List.prefix_append _ _) (by simp), (by simp only [push_cast, ↓reduceIte, Nat.reduceEqDiff, true_and, and_true, and_self, eq_self, fr, List.length_append, List.length_cons, List.length_nil]), o14, m13.grown g14.by_ (hne m13 ho13), fun x hx => by
    unfold putF
    by_cases cx : x = nextP p t e
    · rw [if_pos cx, if_pos (by simp [cx])]
    · rw [if_neg cx, hψ x hx]
      by_cases cy : x ∈ R2
      · rw [if_pos cy, if_pos (by simp [cy])]
      · rw [if_neg cy, if_neg (by simp [cy, cx])], kS13.grown g14.by_ (ho13.ne_ltV (Nat.lt_succ_self _)), g14.below b913 b913.size (fun a ha => by have := ho13.geB a ha; omega)⟩ (by rw [hmu2]; simp only [push_cast, ↓reduceIte, Nat.reduceEqDiff, intOf, fr]; omega)
end Go.Proofs.YtcjedgiglimipaaDoor

/-
  Chapter 15, in plain Lean: what the program's most and move go through; bits of numbers. No program in sight.
-/
namespace Go.Proofs.YtcjedgiglimipaaDoor
set_option linter.unusedSimpArgs false
set_option linter.unusedVariables false
set_option linter.unusedSectionVars false
open Go.RowKit

def subK (l : List Int) (b k : Nat) : List Int := ((List.range k).filter fun i => b.testBit i).map fun i => l.getD i 0
theorem subK_succ (l : List Int) (b k : Nat) : subK l b (k + 1) = if b.testBit k = true then subK l b k ++ [l.getD k 0] else subK l b k := by
  unfold subK
  rw [List.range_succ, List.filter_append, List.map_append]
  by_cases h : b.testBit k = true
  · rw [if_pos h, List.filter_cons, if_pos h]; rfl
  · rw [if_neg h, List.filter_cons, if_neg h]; simp
theorem subK_mem {l : List Int} {b k : Nat} {x : Int} : x ∈ subK l b k ↔ ∃ i, i < k ∧ b.testBit i = true ∧ l.getD i 0 = x := by
  unfold subK
  simp only [List.mem_map, List.mem_filter, List.mem_range]
  exact ⟨fun ⟨i, ⟨h1, h2⟩, h3⟩ => ⟨i, h1, h2, h3⟩, fun ⟨i, h1, h2, h3⟩ => ⟨i, ⟨h1, h2⟩, h3⟩⟩
theorem subK_in {l : List Int} {b k : Nat} (hk : k ≤ l.length) : ∀ x ∈ subK l b k, x ∈ l := fun x hx => by
  obtain ⟨i, h1, _, rfl⟩ := subK_mem.1 hx
  exact getD_mem l 0 i (by omega)
theorem strict_at {l : List Int} (h : Strict l) {i j : Nat} (hij : i < j) (hj : j < l.length) : l.getD i 0 < l.getD j 0 := by
  have := List.pairwise_iff_getElem.1 h i j (by omega) hj hij
  rw [List.getD_eq_getElem?_getD, List.getD_eq_getElem?_getD, List.getElem?_eq_getElem (by omega : i < l.length), List.getElem?_eq_getElem hj]
  exact this
theorem subK_strict {l : List Int} (h : Strict l) {b k : Nat} (hk : k ≤ l.length) : Strict (subK l b k) := by
  unfold subK Strict
  rw [List.pairwise_map]
  refine List.Pairwise.imp_of_mem (fun {i j} _ hj hij => strict_at h hij ?_) (List.Pairwise.filter _ List.pairwise_lt_range)
  have := List.mem_range.1 (List.mem_filter.1 hj).1
  omega
/-- Each part of a row has its bits. -/
theorem sub_all {l t : List Int} (hl : Strict l) (n : l.length ≤ 256) (ht : Strict t) (hin : ∀ y ∈ t, y ∈ l) : ∃ b, b < 2 ^ l.length ∧ subK l b l.length = t := by
  let ix : List Int := ((List.range l.length).filter fun i => decide (l.getD i 0 ∈ t)).map fun (i : Nat) => (i : Int)
  have hs : Strict ix := by
    show List.Pairwise _ _
    rw [List.pairwise_map]
    exact List.Pairwise.imp (fun h => Int.ofNat_lt.2 h) (List.Pairwise.filter _ List.pairwise_lt_range)
  have hx : ∀ i : Nat, ((i : Int) ∈ ix ↔ i < l.length ∧ l.getD i 0 ∈ t) := fun i => by
    show (i : Int) ∈ List.map _ _ ↔ _
    simp only [List.mem_map, List.mem_filter, List.mem_range, decide_eq_true_eq]
    constructor
    · rintro ⟨j, h1, h2⟩
      have : j = i := by omega
      subst this; exact h1
    · intro h; exact ⟨i, h, rfl⟩
  have hr : IsRow ix (l.length : Int) := IsRow.of_strict hs fun x hxm => by
    obtain ⟨j, hj, rfl⟩ := List.mem_map.1 hxm
    have := List.mem_range.1 (List.mem_filter.1 hj).1
    omega
  refine ⟨vnum ix, num_lt hr, (subK_strict hl (Nat.le_refl _)).ext ht fun x => ?_⟩
  rw [subK_mem]
  constructor
  · rintro ⟨i, h1, h2, rfl⟩
    rw [num_bit hr] at h2
    exact ((hx i).1 (of_decide_eq_true h2)).2
  · intro hxt
    obtain ⟨i, h1, rfl⟩ := (mem_iff_getD l 0 x).1 (hin x hxt)
    exact ⟨i, h1, by rw [num_bit hr]; exact decide_eq_true ((hx i).2 ⟨h1, hxt⟩), rfl⟩
/-- What is joined, as far as the n-th part. -/
def MostB (p : Plt) (free l out : List Int) (n : Nat) : Prop := ∀ x, x ∈ out ↔ ∃ k, 1 ≤ k ∧ k < n ∧ Kp p free (wideL p.m p.seen (subK l k l.length)) ∧ x ∈ subK l k l.length
section
variable {p : Plt} {free l out : List Int} {n : Nat}
theorem MostB.start : MostB p free l [] 1 := fun x => ⟨fun h => by simp at h, fun ⟨k, h1, h2, _⟩ => absurd h2 (by omega)⟩
theorem MostB.skip (h : MostB p free l out n) (hn : ¬ Kp p free (wideL p.m p.seen (subK l n l.length))) : MostB p free l out (n + 1) := fun x => by
  rw [h x]
  constructor
  · rintro ⟨k, h1, h2, h3⟩; exact ⟨k, h1, by omega, h3⟩
  · rintro ⟨k, h1, h2, h3, h4⟩
    by_cases c : k = n
    · subst c; exact absurd h3 hn
    · exact ⟨k, h1, by omega, h3, h4⟩
theorem MostB.join (h : MostB p free l out n) (h1 : 1 ≤ n) (hn : Kp p free (wideL p.m p.seen (subK l n l.length))) : MostB p free l (out ++ subK l n l.length) (n + 1) := fun x => by
  rw [List.mem_append, h x]
  constructor
  · rintro (⟨k, g1, g2, g3⟩ | hx)
    · exact ⟨k, g1, by omega, g3⟩
    · exact ⟨n, h1, by omega, hn, hx⟩
  · rintro ⟨k, g1, g2, g3, g4⟩
    by_cases c : k = n
    · subst c; exact .inr g4
    · exact .inl ⟨k, g1, by omega, g3, g4⟩
theorem MostB.small (hl : Small l) (h : MostB p free l out n) : Small out := fun x hx => by
  obtain ⟨k, _, _, _, hx⟩ := (h x).1 hx
  exact hl x (subK_in (Nat.le_refl _) x hx)
theorem MostB.done (hl : Strict l) (hs : Small l) (h6 : l.length ≤ 256) (h : MostB p free l out (2 ^ l.length)) : setV out = setV (mostL p free l) := by
  unfold setV
  rw [wordsOf_ext fun x h0 h1 => ?_]
  rw [h x, mostL, mem_pick]
  constructor
  · rintro ⟨k, g1, g2, g3, g4⟩
    exact ⟨⟨h0, h1⟩, _, subK_strict hl (Nat.le_refl _), subK_in (Nat.le_refl _), g4, g3⟩
  · rintro ⟨_, t, g1, g2, g3, g4⟩
    obtain ⟨k, k1, rfl⟩ := sub_all hl h6 g1 g2
    refine ⟨k, ?_, k1, g4, g3⟩
    rcases Nat.eq_zero_or_pos k with c | c
    · subst c
      obtain ⟨i, _, hi, _⟩ := subK_mem.1 g3
      simp at hi
    · exact c
end

def movK (m : Mach) (s to : List Int) (e : Int) (k : Nat) : List Int := ((m.arrows.take k).filter fun a => decide (a.evt = e) && decide (a.frm ∈ s) && decide (a.to_ ∈ to)).map (·.frm)
theorem movK_succ (m : Mach) (s to : List Int) (e : Int) {k : Nat} (h : k < m.arrows.length) :
    movK m s to e (k + 1) = if (m.arrows.getD k default).evt = e ∧ (m.arrows.getD k default).frm ∈ s ∧ (m.arrows.getD k default).to_ ∈ to then movK m s to e k ++ [(m.arrows.getD k default).frm] else movK m s to e k := by
  unfold movK
  rw [take_snoc _ default k h, List.filter_append, List.map_append]
  generalize m.arrows.getD k default = y
  by_cases h1 : y.evt = e <;> by_cases h2 : y.frm ∈ s <;> by_cases h3 : y.to_ ∈ to <;> simp [h1, h2, h3]
theorem movK_len (m : Mach) (s to : List Int) (e : Int) (k : Nat) : (movK m s to e k).length ≤ k := by
  unfold movK
  rw [List.length_map]
  exact Nat.le_trans (List.length_filter_le _ _) (List.length_take_le _ _)
theorem mov_stay {m : Mach} (hm : m.May) (hp : PlainM m) {s to : List Int} (hs : Strict s) (e : Int) : movK m s to e m.arrows.length = stayL m to s e := by
  have one : ∀ a b, a ∈ m.arrows → b ∈ m.arrows → a.frm = b.frm → a.evt = b.evt → a.to_ = b.to_ := fun a b ha hb h1 h2 => by
    obtain ⟨⟨a1, a2⟩, _, a5, a6⟩ := May.arr hm ha
    have hl := hp.2 _ _ a1 a2 a5 a6
    have ma : a.to_ ∈ stepL m [a.frm] a.evt := mem_stepL.2 ⟨a, ha, rfl, by simp, rfl⟩
    have mb : b.to_ ∈ stepL m [a.frm] a.evt := mem_stepL.2 ⟨b, hb, h2.symm, by simp [h1], rfl⟩
    generalize stepL m [a.frm] a.evt = l at *
    match l, hl with
    | [], _ => simp at ma
    | [x], _ => exact (List.mem_singleton.1 ma).trans (List.mem_singleton.1 mb).symm
  refine Strict.ext ?_ ?_ fun x => ?_
  · unfold movK Strict
    rw [List.take_length, List.pairwise_map]
    refine List.Pairwise.imp_of_mem (fun {a b} ha hb hab => ?_) (List.Pairwise.filter _ (May.ord hm))
    rw [List.mem_filter] at ha hb
    simp only [Bool.and_eq_true, decide_eq_true_eq] at ha hb
    have := one a b ha.1 hb.1
    have e1 := ha.2.1.1
    have e2 := hb.2.1.1
    unfold Arr.lt at hab
    rcases Int.lt_trichotomy a.frm b.frm with c | c | c
    · exact c
    · have := this c (e1.trans e2.symm); omega
    · omega
  · unfold stayL; exact List.Pairwise.filter _ hs
  · rw [stayL_mem]
    unfold movK
    rw [List.take_length, List.mem_map]
    simp only [List.mem_filter, Bool.and_eq_true, decide_eq_true_eq]
    constructor
    · rintro ⟨a, ⟨ha, ⟨h1, h2⟩, h3⟩, rfl⟩
      refine ⟨h2, a.to_, h3, ?_⟩
      obtain ⟨⟨a1, a2⟩, _, a5, a6⟩ := May.arr hm ha
      have hl := hp.2 _ _ a1 a2 a5 a6
      have ma : a.to_ ∈ stepL m [a.frm] a.evt := mem_stepL.2 ⟨a, ha, rfl, by simp, rfl⟩
      rw [h1] at hl ma
      generalize stepL m [a.frm] e = l at *
      match l, hl with
      | [], _ => simp at ma
      | [x], _ => rw [List.mem_singleton.1 ma]
    · rintro ⟨h1, t, h2, h3⟩
      have ht : t ∈ stepL m [x] e := by rw [h3]; simp
      obtain ⟨a, ha, b1, b2, rfl⟩ := mem_stepL.1 ht
      rw [List.mem_singleton] at b2
      exact ⟨a, ⟨ha, ⟨b1, by rw [b2]; exact h1⟩, h2⟩, b2⟩

section
variable {P : Program} {K : Fr → World → Prop} {u : World} {f : Fr} {d : Option Nat} {w : World} {t : Nat} {xo yo : Operand}
theorem shl_i64 {k z : Nat} (h : 2 ^ k = z) (hk : k < 62) : Val1 P K (binS .shl t xo yo (.int .i64 1) (.int .i64 k)) u f d w = K (updO f d (.int .i64 z)) w :=
  val1_of u f d w fun w' _ => by
    subst h
    have h0 : ¬ ((k : Int) < 0) := by omega
    have hb : IntKind.i64.bits = 64 := rfl
    have h1 : min k 64 = k := by omega
    have h2 : (1 : Int) * 2 ^ k = ((2 ^ k : Nat) : Int) := by simp
    have h3 : 2 ^ k < 2 ^ 62 := Nat.pow_lt_pow_right (by decide) hk
    have h4 : IntKind.i64.wrap ((2 ^ k : Nat) : Int) = ((2 ^ k : Nat) : Int) := by
      generalize 2 ^ k = q at *
      exact wrap_i64 _ (by omega) (by omega)
    simp only [binS, eqGuard, binOp, Op.shift, if_neg h0, Int.toNat_natCast, hb, h1, h2, h4]
    simp
theorem shr_i64 {x k z : Nat} (h : x >>> k = z) (hk : k < 64) : Val1 P K (binS .shr t xo yo (.int .i64 x) (.int .i64 k)) u f d w = K (updO f d (.int .i64 z)) w :=
  val1_of u f d w fun w' _ => by
    subst h
    have h0 : ¬ ((k : Int) < 0) := by omega
    have hb : IntKind.i64.bits = 64 := rfl
    have h1 : min k 64 = k := by omega
    have h2 : (x : Int).fdiv (2 ^ k) = ((x >>> k : Nat) : Int) := by
      have e : (2 : Int) ^ k = ((2 ^ k : Nat) : Int) := by simp
      rw [e, Nat.shiftRight_eq_div_pow, Int.fdiv_eq_ediv_of_nonneg _ (Int.natCast_nonneg _)]
      rfl
    show (Op.shift .shr .i64 x .i64 k : Sem Value).run P w' = _
    unfold Op.shift
    rw [if_neg h0]
    show Result.ok (Value.int .i64 ((x : Int).fdiv (2 ^ (min (k : Int).toNat 64)))) w' = _
    rw [Int.toNat_natCast, h1, h2]
theorem and1_i64 {x z : Nat} (h : x &&& 1 = z) (hx : x < 2 ^ 62) : Val1 P K (binS .and t xo yo (.int .i64 x) (.int .i64 1)) u f d w = K (updO f d (.int .i64 z)) w :=
  val1_of u f d w fun w' _ => by
    subst h
    have h1 : (BitVec.ofInt 64 (x : Int) &&& BitVec.ofInt 64 ((1 : Nat) : Int)).toNat = x &&& 1 := by
      rw [BitVec.toNat_and]
      have : x < 2 ^ 64 := by omega
      simp [BitVec.toNat_ofInt, Nat.mod_eq_of_lt this]
    have h2 : x &&& 1 ≤ 1 := Nat.and_le_right
    have h3 : IntKind.i64.wrap ((x &&& 1 : Nat) : Int) = ((x &&& 1 : Nat) : Int) := wrap_i64 _ (by omega) (by omega)
    show Result.ok (Value.int .i64 (IntKind.i64.wrap ((BitVec.ofInt 64 (x : Int) &&& BitVec.ofInt 64 ((1 : Nat) : Int)).toNat : Int))) w' = _
    rw [h1, h3]
theorem bit_and1 (x k : Nat) : (x >>> k) &&& 1 = if x.testBit k then 1 else 0 := by
  rw [Nat.and_one_is_mod, Nat.shiftRight_eq_div_pow, Nat.testBit_eq_decide_div_mod_eq]
  by_cases h : x / 2 ^ k % 2 = 1
  · rw [h]; simp
  · have h0 : x / 2 ^ k % 2 = 0 := by omega
    rw [h0]; simp
end
end Go.Proofs.YtcjedgiglimipaaDoor

/-
  Chapter 15, in plain Lean: what a veil lets be; what holds of the veil that is made: it keeps the secret, and forbids nothing but what is free. No program in sight.
-/
namespace Go.Proofs.YtcjedgiglimipaaDoor
set_option linter.unusedSimpArgs false
set_option linter.unusedVariables false
set_option linter.unusedSectionVars false
open Go.RowKit

theorem clos_one {es : List (Int × Int)} {l : List Int} {x : Int} : Clos es l x ↔ ∃ y ∈ l, Clos es [y] x := by
  constructor
  · intro h
    induction h with
    | base x h => exact ⟨x, h, .base x (by simp)⟩
    | step p hp _ ih =>
      obtain ⟨y, h1, h2⟩ := ih
      exact ⟨y, h1, .step p hp h2⟩
  · rintro ⟨y, h1, h2⟩
    exact Clos.mono (fun x hx => by rw [List.mem_singleton.1 hx]; exact h1) h2
theorem step_one {m : Mach} {l : List Int} {e x : Int} : x ∈ stepL m l e ↔ ∃ y ∈ l, x ∈ stepL m [y] e := by
  rw [mem_stepL]
  constructor
  · rintro ⟨a, h1, h2, h3, h4⟩
    exact ⟨a.frm, h3, mem_stepL.2 ⟨a, h1, h2, by simp, h4⟩⟩
  · rintro ⟨y, hy, h⟩
    obtain ⟨a, h1, h2, h3, h4⟩ := mem_stepL.1 h
    rw [List.mem_singleton] at h3
    exact ⟨a, h1, h2, by rw [h3]; exact hy, h4⟩
section
variable {p : Plt} {free : List Int}
theorem next_mem (hm : p.m.May) {S : List Int} {e x : Int} : x ∈ nextP p S e ↔ Clos (unE p.m p.seen) (stepL p.m S e) x := mem_wideL hm (stepL_range hm S e)
theorem next_one (hm : p.m.May) {S : List Int} {e x : Int} : x ∈ nextP p S e ↔ ∃ y ∈ S, x ∈ nextP p [y] e := by
  rw [next_mem hm, clos_one]
  constructor
  · rintro ⟨z, h1, h2⟩
    obtain ⟨y, h3, h4⟩ := step_one.1 h1
    exact ⟨y, h3, (next_mem hm).2 (clos_one.2 ⟨z, h4, h2⟩)⟩
  · rintro ⟨y, h1, h2⟩
    obtain ⟨z, h3, h4⟩ := clos_one.1 ((next_mem hm).1 h2)
    exact ⟨z, step_one.2 ⟨y, h1, h3⟩, h4⟩
theorem fold_one (hm : p.m.May) : ∀ (u S : List Int) {x : Int}, x ∈ u.foldl (nextP p) S ↔ ∃ y ∈ S, x ∈ u.foldl (nextP p) [y]
  | [], S, x => by simp
  | e :: u, S, x => by
    rw [List.foldl_cons, fold_one hm u]
    constructor
    · rintro ⟨z, h1, h2⟩
      obtain ⟨y, h3, h4⟩ := (next_one hm).1 h1
      exact ⟨y, h3, by rw [List.foldl_cons, fold_one hm u]; exact ⟨z, h4, h2⟩⟩
    · rintro ⟨y, h1, h2⟩
      rw [List.foldl_cons, fold_one hm u] at h2
      obtain ⟨z, h3, h4⟩ := h2
      exact ⟨z, (next_one hm).2 ⟨y, h1, h3⟩, h4⟩
theorem fold_mono (hm : p.m.May) {u S S' : List Int} (h : ∀ x ∈ S, x ∈ S') : ∀ x ∈ u.foldl (nextP p) S, x ∈ u.foldl (nextP p) S' := fun x hx => by
  obtain ⟨y, h1, h2⟩ := (fold_one hm u S).1 hx
  exact (fold_one hm u S').2 ⟨y, h y h1, h2⟩
/-- What is joined out of what can be kept can be kept. -/
theorem Kp.join (hm : p.m.May) {S : List Int} (h : ∀ x ∈ S, ∃ T, x ∈ T ∧ (∀ y ∈ T, y ∈ S) ∧ Kp p free T) : Kp p free S := by
  intro u hu ht
  obtain ⟨hne, hin⟩ := ht
  obtain ⟨x, hx⟩ := List.exists_mem_of_ne_nil _ hne
  obtain ⟨y, h1, h2⟩ := (fold_one hm u S).1 hx
  obtain ⟨T, h3, h4, h5⟩ := h y h1
  refine h5 u hu ⟨fun e => ?_, fun z hz => hin z (fold_mono hm h4 z hz)⟩
  have : x ∈ u.foldl (nextP p) T := (fold_one hm u T).2 ⟨y, h3, h2⟩
  rw [e] at this; simp at this
theorem wide_mono (hm : p.m.May) {s t : List Int} (hs : ∀ x ∈ s, 0 ≤ x ∧ x < p.m.states) (ht : ∀ x ∈ t, 0 ≤ x ∧ x < p.m.states) (h : ∀ x ∈ s, x ∈ t) : ∀ x ∈ wideL p.m p.seen s, x ∈ wideL p.m p.seen t := fun _ hx =>
  (mem_wideL hm ht).2 (Clos.mono h ((mem_wideL hm hs).1 hx))
theorem mostL_mem {to : List Int} {x : Int} : x ∈ mostL p free to ↔ (0 ≤ x ∧ x < 256) ∧ ∃ t, Strict t ∧ (∀ y ∈ t, y ∈ to) ∧ x ∈ t ∧ Kp p free (wideL p.m p.seen t) := mem_pick
theorem most_kept (hm : p.m.May) {to : List Int} (hto : ∀ x ∈ to, 0 ≤ x ∧ x < p.m.states) : Kp p free (wideL p.m p.seen (mostL p free to)) := by
  have hst : p.m.states ≤ 256 := hm.2.1
  have hM : ∀ x ∈ mostL p free to, 0 ≤ x ∧ x < p.m.states := fun x hx => by
    obtain ⟨_, t, _, h2, h3, _⟩ := mostL_mem.1 hx
    exact hto x (h2 x h3)
  refine Kp.join hm fun x hx => ?_
  obtain ⟨y, h1, h2⟩ := clos_one.1 ((mem_wideL hm hM).1 hx)
  obtain ⟨_, t, g1, g2, g3, g4⟩ := mostL_mem.1 h1
  have ht : ∀ x ∈ t, 0 ≤ x ∧ x < p.m.states := fun x hx => hto x (g2 x hx)
  refine ⟨wideL p.m p.seen t, (mem_wideL hm ht).2 (clos_one.2 ⟨y, g3, h2⟩), wide_mono hm ht hM fun z hz => ?_, g4⟩
  exact mostL_mem.2 ⟨by have := ht z hz; omega, t, g1, g2, hz, g4⟩
theorem to_kept (hm : p.m.May) {N : List Int} (hN : Kp p free N) {e : Int} (he : e ∈ p.seen) : Kp p free (wideL p.m p.seen (toL p free N e)) := by
  unfold toL
  split
  · exact most_kept hm (stepL_range hm N e)
  · rename_i hf
    exact hN.next (ufE_mem.2 ⟨he, hf⟩)
theorem wide_closed (hm : p.m.May) {s : List Int} (hs : ∀ x ∈ s, 0 ≤ x ∧ x < p.m.states) : UnClosed p.m p.seen (wideL p.m p.seen s) := fun a ha hne hf =>
  (mem_wideL hm hs).2 (Clos.step (a.frm, a.to_) (mem_eds.2 ⟨a, ha, by simp [unA, hne], rfl⟩) ((mem_wideL hm hs).1 hf))
/-- What holds of the nodes and the moves. -/
structure VKept (p : Plt) (free : List Int) (st : VS) : Prop where
  node : ∀ N ∈ st.nodes, Kp p free N ∧ UnClosed p.m p.seen N
  move : ∀ mv ∈ st.moves, ∃ N, st.nodes[mv.node]? = some N ∧ mv.evt ∈ p.seen ∧ mv.stay = stayL p.m (toL p free N mv.evt) N mv.evt ∧ st.nodes[mv.to_]? = some (wideL p.m p.seen (toL p free N mv.evt))
theorem VKept.step (hm : p.m.May) {st : VS} (h : VKept p free st) (k : Nat) {e : Int} (he : e ∈ p.seen) : VKept p free (vE p free k st e) := by
  rcases Nat.lt_or_ge k st.nodes.length with hk | hk
  · have hpre := vE_pre (p := p) (free := free) k st e
    have hN : st.nodes[k]? = some (st.nodes.getD k []) := by rw [List.getD_eq_getElem?_getD, List.getElem?_eq_getElem hk]; rfl
    have hNm := List.mem_of_getElem? hN
    unfold vE at hpre ⊢
    generalize st.nodes.getD k [] = N at *
    split
    · exact h
    · rename_i hne
      rw [if_neg hne] at hpre
      dsimp only at hpre
      generalize hx : wideL p.m p.seen (toL p free N e) = x at *
      have hkx : Kp p free x ∧ UnClosed p.m p.seen x := by
        rw [← hx]
        exact ⟨to_kept hm (h.node N hNm).1 he, wide_closed hm (row_range (toL_row hm free N e))⟩
      have up : ∀ i y, st.nodes[i]? = some y → (if x ∈ st.nodes then st.nodes else st.nodes ++ [x])[i]? = some y := fun i y hy => by
        rw [prefix_getElem? hpre (List.getElem?_eq_some_iff.1 hy).1]; exact hy
      refine ⟨fun M hM => ?_, fun mv hmv => ?_⟩
      · dsimp only at hM
        split at hM
        · exact h.node M hM
        · rcases List.mem_append.1 hM with hM | hM
          · exact h.node M hM
          · rw [List.mem_singleton.1 hM]; exact hkx
      · dsimp only at hmv ⊢
        rcases List.mem_append.1 hmv with hmv | hmv
        · obtain ⟨M, g1, g2, g3, g4⟩ := h.move mv hmv
          exact ⟨M, up _ _ g1, g2, g3, up _ _ g4⟩
        · rw [List.mem_singleton.1 hmv]
          dsimp only
          refine ⟨N, up _ _ hN, he, rfl, ?_⟩
          rw [hx]
          by_cases c : x ∈ st.nodes
          · rw [if_pos c]; exact (ixL_lt c).2
          · rw [if_neg c, ixL_none c, List.getElem?_append_right (Nat.le_refl _), Nat.sub_self]; rfl
  · rw [vE_stop hk]; exact h
theorem VKept.fold (hm : p.m.May) (k : Nat) : ∀ (es : List Int) {st : VS}, (∀ e ∈ es, e ∈ p.seen) → VKept p free st → VKept p free (es.foldl (vE p free k) st)
  | [], _, _, h => h
  | e :: es, st, he, h => VKept.fold hm k es (fun x hx => he x (by simp [hx])) (h.step hm k (he e (by simp)))
theorem vIter_kept (hm : p.m.May) (hf : Kp p free (firstP p)) : ∀ k, VKept p free (vIter p free k)
  | 0 => ⟨fun N hN => by
      have : N = firstP p := by simpa [vIter] using hN
      rw [this]
      exact ⟨hf, wide_closed hm (row_range (may_starts hm))⟩, fun mv hmv => by simp [vIter] at hmv⟩
  | k + 1 => VKept.fold hm k p.seen (fun _ h => h) (vIter_kept hm hf k)
theorem vE_moves (k : Nat) (st : VS) (e : Int) : st.moves <+: (vE p free k st e).moves := by
  unfold vE
  split
  · exact List.prefix_refl _
  · exact List.prefix_append _ _
theorem vFold_pre (k : Nat) : ∀ (es : List Int) (st : VS), st.moves <+: (es.foldl (vE p free k) st).moves ∧ st.nodes <+: (es.foldl (vE p free k) st).nodes
  | [], _ => ⟨List.prefix_refl _, List.prefix_refl _⟩
  | e :: es, st => ⟨(vE_moves k st e).trans (vFold_pre k es _).1, (vE_pre k st e).trans (vFold_pre k es _).2⟩
/-- Of a node that was gone through, each event that is let be anywhere has its move. -/
def VFull (p : Plt) (free : List Int) (st : VS) (n : Nat) (e : Int) : Prop := ∀ N, st.nodes[n]? = some N → stayL p.m (toL p free N e) N e ≠ [] → ∃ mv ∈ st.moves, mv.node = n ∧ mv.evt = e
theorem VFull.up {st st' : VS} {n : Nat} {e : Int} (h : VFull p free st n e) (hn : n < st.nodes.length) (h1 : st.nodes <+: st'.nodes) (h2 : st.moves <+: st'.moves) : VFull p free st' n e := fun N hN hs => by
  rw [prefix_getElem? h1 hn] at hN
  obtain ⟨mv, g1, g2⟩ := h N hN hs
  exact ⟨mv, h2.subset g1, g2⟩
theorem vFold_full (k : Nat) : ∀ (es : List Int) (st : VS), k < st.nodes.length → ∀ e ∈ es, VFull p free (es.foldl (vE p free k) st) k e
  | [], _, _, e, he => by simp at he
  | e :: es, st, hk, f, hf => by
    have hk1 : k < (vE p free k st e).nodes.length := Nat.lt_of_lt_of_le hk (vE_pre k st e).length_le
    have hp := vFold_pre (p := p) (free := free) k es (vE p free k st e)
    rcases List.mem_cons.1 hf with rfl | hf
    · refine VFull.up (st := vE p free k st f) (fun N hN hs => ?_) hk1 hp.2 hp.1
      rw [prefix_getElem? (vE_pre k st f) hk] at hN
      have hNN : st.nodes.getD k [] = N := by rw [List.getD_eq_getElem?_getD, hN]; rfl
      unfold vE
      rw [hNN, if_neg hs]
      exact ⟨⟨k, f, stayL p.m (toL p free N f) N f, ixL (wideL p.m p.seen (toL p free N f)) st.nodes⟩, List.mem_append_right _ (List.mem_singleton.2 rfl), rfl, rfl⟩
    · exact vFold_full k es _ hk1 f hf
theorem vIter_pre {j k : Nat} (h : j ≤ k) : (vIter p free j).moves <+: (vIter p free k).moves ∧ (vIter p free j).nodes <+: (vIter p free k).nodes := by
  induction k with
  | zero => rw [show j = 0 by omega]; exact ⟨List.prefix_refl _, List.prefix_refl _⟩
  | succ k ih =>
    rcases Nat.lt_or_ge k j with c | c
    · rw [show j = k + 1 by omega]; exact ⟨List.prefix_refl _, List.prefix_refl _⟩
    · have h1 := ih c
      have h2 := vFold_pre (p := p) (free := free) k p.seen (vIter p free k)
      exact ⟨h1.1.trans h2.1, h1.2.trans h2.2⟩
theorem vIter_full {n k : Nat} (h : n < k) (hn : n < (vIter p free k).nodes.length) {e : Int} (he : e ∈ p.seen) : VFull p free (vIter p free k) n e := by
  have hp := vIter_pre (p := p) (free := free) (show n + 1 ≤ k from h)
  rcases Nat.lt_or_ge n (vIter p free n).nodes.length with c | c
  · have h1 := vFold_full (p := p) (free := free) n p.seen (vIter p free n) c e he
    have hl : n < (vIter p free (n + 1)).nodes.length := Nat.lt_of_lt_of_le c (vIter_pre (p := p) (free := free) (Nat.le_succ n)).2.length_le
    exact VFull.up (st := vIter p free (n + 1)) h1 hl hp.2 hp.1
  · rw [vIter_stop c k (by omega)] at hn; omega
end
def mvFind (ms : List Mv) (n : Nat) (e : Int) : Option Mv := ms.find? fun a => decide (a.node = n) && decide (a.evt = e)
def letsS (p : Plt) (V : VS) : Option (Int × Nat) → Int → Option (Int × Nat)
  | none, _ => none
  | some (s, n), e => match stepL p.m [s] e with
    | [t] => if e ∈ p.seen then (match mvFind V.moves n e with
      | some mv => if s ∈ mv.stay ∧ mv.to_ < V.nodes.length then some (t, mv.to_) else none
      | none => none) else some (t, n)
    | _ => none
theorem letsS_some (p : Plt) (V : VS) (s : Int) (n : Nat) (e : Int) : letsS p V (some (s, n)) e = match stepL p.m [s] e with
    | [t] => if e ∈ p.seen then (match mvFind V.moves n e with
      | some mv => if s ∈ mv.stay ∧ mv.to_ < V.nodes.length then some (t, mv.to_) else none
      | none => none) else some (t, n)
    | _ => none := rfl
def letsI (p : Plt) (V : VS) : Option (Int × Nat) := match p.m.starts with
  | [s] => if V.nodes = [] then none else some (s, 0)
  | _ => none
def letsL (p : Plt) (V : VS) (word : List Int) : Option (Int × Nat) := word.foldl (letsS p V) (letsI p V)
theorem letsL_snoc (p : Plt) (V : VS) (word : List Int) (e : Int) : letsL p V (word ++ [e]) = letsS p V (letsL p V word) e := by unfold letsL; rw [List.foldl_append]; rfl
theorem mvFind_some {ms : List Mv} {n : Nat} {e : Int} {mv : Mv} (h : mvFind ms n e = some mv) : mv ∈ ms ∧ mv.node = n ∧ mv.evt = e := by
  have h1 := List.mem_of_find?_eq_some h
  have h2 := List.find?_some h
  simp only [Bool.and_eq_true, decide_eq_true_eq] at h2
  exact ⟨h1, h2⟩
theorem mvFind_none {ms : List Mv} {n : Nat} {e : Int} (h : mvFind ms n e = none) {mv : Mv} (hm : mv ∈ ms) : ¬ (mv.node = n ∧ mv.evt = e) := fun hh => by
  have := List.find?_eq_none.1 h mv hm
  simp [hh.1, hh.2] at this
section
variable {p : Plt} {free : List Int}
theorem arr_step {m : Mach} {s e t : Int} (h : t ∈ stepL m [s] e) : ∃ a ∈ m.arrows, a.frm = s ∧ a.evt = e ∧ a.to_ = t := by
  obtain ⟨a, h1, h2, h3, h4⟩ := mem_stepL.1 h
  exact ⟨a, h1, List.mem_singleton.1 h3, h2, h4⟩
theorem letsI_some {V : VS} {s : Int} {n : Nat} (h : letsI p V = some (s, n)) : n = 0 ∧ p.m.starts = [s] ∧ V.nodes ≠ [] := by
  unfold letsI at h
  split at h
  · rename_i s0 hs
    split at h
    · cases h
    · rename_i hne
      injection h with h
      injection h with h1 h2
      subst h1 h2
      exact ⟨rfl, hs, hne⟩
  · cases h
/-- Where a veil lets a word be, its node has the state. -/
theorem lets_in (hm : p.m.May) (hf : Kp p free (firstP p)) (k : Nat) : ∀ word {s : Int} {n : Nat}, letsL p (vIter p free k) word = some (s, n) → ∃ N, (vIter p free k).nodes[n]? = some N ∧ s ∈ N := by
  have hV := vIter_kept (free := free) hm hf k
  have h0 : (vIter p free k).nodes[0]? = some (firstP p) := by
    rw [prefix_getElem? (vIter_pre (p := p) (free := free) (Nat.zero_le k)).2 (by simp [vIter])]
    simp [vIter]
  generalize vIter p free k = V at *
  refine snoc_indV (P := fun word => ∀ {s : Int} {n : Nat}, letsL p V word = some (s, n) → ∃ N, V.nodes[n]? = some N ∧ s ∈ N) ?_ ?_
  · intro s n h
    obtain ⟨rfl, h1, h2⟩ := letsI_some (h : letsI p V = some (s, n))
    exact ⟨_, h0, (mem_wideL hm (row_range (may_starts hm))).2 (.base _ (by rw [h1]; simp))⟩
  · intro word e ih s n h
    rw [letsL_snoc] at h
    cases hl : letsL p V word with
    | none => rw [hl] at h; cases h
    | some sn =>
      obtain ⟨s0, n0⟩ := sn
      obtain ⟨N, hN, hs0⟩ := ih hl
      rw [hl, letsS_some] at h
      · split at h
        · rename_i t ht
          have htm : t ∈ stepL p.m [s0] e := by rw [ht]; simp
          split at h
          · rename_i hes
            split at h
            · rename_i mv hmv
              split at h
              · rename_i hst
                injection h with h
                injection h with h1 h2
                subst h1 h2
                obtain ⟨g1, g2, g3⟩ := mvFind_some hmv
                obtain ⟨N', k1, k2, k3, k4⟩ := hV.move mv g1
                rw [g2, hN] at k1
                injection k1 with k1
                subst k1
                refine ⟨_, k4, ?_⟩
                have hs1 := hst.1
                rw [k3, stayL_mem, g3] at hs1
                obtain ⟨_, t', q1, q2⟩ := hs1
                rw [ht] at q2
                injection q2 with q2
                subst q2
                rw [g3]
                exact (mem_wideL hm (row_range (toL_row hm free N e))).2 (.base _ q1)
              · cases h
            · cases h
          · rename_i hes
            injection h with h
            injection h with h1 h2
            subst h1 h2
            obtain ⟨a, b1, b2, b3, b4⟩ := arr_step htm
            exact ⟨N, hN, by rw [← b4]; exact (hV.node N (List.mem_of_getElem? hN)).2 a b1 (by rw [b3]; exact hes) (by rw [b2]; exact hs0)⟩
        · cases h
/-- What can't be forbidden is not. -/
theorem lets_on (hm : p.m.May) (hf : Kp p free (firstP p)) {k : Nat} (hk : (vIter p free k).nodes.length = k) {word : List Int} {s : Int} {n : Nat} (h : letsL p (vIter p free k) word = some (s, n)) {e : Int} (he : e ∉ free) (h1 : (stepL p.m [s] e).length = 1) :
    letsL p (vIter p free k) (word ++ [e]) ≠ none := by
  obtain ⟨N, hN, hs⟩ := lets_in hm hf k word h
  have hV := vIter_kept (free := free) hm hf k
  have hnl := (List.getElem?_eq_some_iff.1 hN).1
  have hfull := fun he' => vIter_full (p := p) (free := free) (n := n) (k := k) (by omega) hnl (e := e) he' N hN
  generalize vIter p free k = V at *
  rw [letsL_snoc, h]
  obtain ⟨t, ht⟩ : ∃ t, stepL p.m [s] e = [t] := by
    generalize stepL p.m [s] e = l at *
    match l, h1 with
    | [x], _ => exact ⟨x, rfl⟩
  simp only [letsS, ht]
  by_cases hes : e ∈ p.seen
  · rw [if_pos hes]
    have htN : t ∈ toL p free N e := by
      unfold toL
      rw [if_neg he]
      exact step_one.2 ⟨s, hs, by rw [ht]; simp⟩
    have hst : s ∈ stayL p.m (toL p free N e) N e := stayL_mem.2 ⟨hs, t, htN, ht⟩
    obtain ⟨mv0, m1, m2⟩ := hfull hes (fun hh => by rw [hh] at hst; simp at hst)
    cases hmv : mvFind V.moves n e with
    | none => exact absurd m2 (mvFind_none hmv m1)
    | some mv =>
      obtain ⟨g1, g2, g3⟩ := mvFind_some hmv
      obtain ⟨N', k1, k2, k3, k4⟩ := hV.move mv g1
      rw [g2, hN] at k1
      injection k1 with k1
      subst k1
      dsimp only
      rw [if_pos ⟨by rw [k3, g3]; exact hst, (List.getElem?_eq_some_iff.1 k4).1⟩]
      simp
  · rw [if_neg hes]; simp
end
end Go.Proofs.YtcjedgiglimipaaDoor

/-
  Chapter 15, in plain Lean: another way to forbid; the veil lets all be that it lets be. No program in sight.
-/
namespace Go.Proofs.YtcjedgiglimipaaDoor
set_option linter.unusedSimpArgs false
set_option linter.unusedVariables false
set_option linter.unusedSectionVars false
open Go.RowKit

abbrev Plc := Int × List Int
def onP (p : Plt) (o : Mach) (x : Plc) (e : Int) : Option Plc := match stepL p.m [x.1] e with
  | [s] => if stepL o x.2 e = [] then none else some (s, stepL o x.2 e)
  | _ => none
theorem onP_some {p : Plt} {o : Mach} {x y : Plc} {e : Int} : onP p o x e = some y ↔ stepL p.m [x.1] e = [y.1] ∧ stepL o x.2 e ≠ [] ∧ y.2 = stepL o x.2 e := by
  unfold onP
  split
  · rename_i s hs
    rw [hs]
    by_cases c : stepL o x.2 e = []
    · rw [if_pos c]
      exact ⟨fun h => by (cases h), fun h => absurd c h.2.1⟩
    · rw [if_neg c]
      constructor
      · intro h
        injection h with h
        subst h
        exact ⟨rfl, c, rfl⟩
      · rintro ⟨h1, _, h3⟩
        injection h1 with h1
        rw [h1, ← h3]
  · rename_i hn
    exact ⟨fun h => by (cases h), fun h => absurd h.1 (hn _)⟩
/-- What unseen events lead to. -/
inductive OR (p : Plt) (o : Mach) (l0 : List Plc) : Plc → Prop
  | base (x : Plc) (h : x ∈ l0) : OR p o l0 x
  | step (x : Plc) (e : Int) (y : Plc) (h : OR p o l0 x) (he : e ∉ p.seen) (h0 : 0 ≤ e) (h1 : e < p.m.events) (hy : onP p o x e = some y) : OR p o l0 y
def onsL (p : Plt) (o : Mach) (l : List Plc) (e : Int) : List Plc := l.filterMap fun x => onP p o x e
structure SetsOk (p : Plt) (o : Mach) (S : List (List Plc)) : Prop where
  wide : ∀ l ∈ S, ∃ l0, (∀ x ∈ l0, 0 ≤ x.1 ∧ x.1 < p.m.states) ∧ ∀ y, y ∈ l ↔ OR p o l0 y
  first : ∀ s, p.m.starts = [s] → ∃ l ∈ S, ∀ y, y ∈ l ↔ OR p o [(s, o.starts)] y
  next : ∀ l ∈ S, ∀ e ∈ p.seen, ∃ l' ∈ S, ∀ y, y ∈ l' ↔ OR p o (onsL p o l e) y
section
variable {p : Plt} {free : List Int} {o : Mach}
theorem OR.range (hm : p.m.May) {l0 : List Plc} (h0 : ∀ x ∈ l0, 0 ≤ x.1 ∧ x.1 < p.m.states) {x : Plc} (h : OR p o l0 x) : 0 ≤ x.1 ∧ x.1 < p.m.states := by
  induction h with
  | base x h => exact h0 x h
  | step x e y _ _ _ _ hy _ =>
    have := (onP_some.1 hy).1
    exact stepL_range hm [x.1] e y.1 (by rw [this]; simp)
theorem SetsOk.range (hm : p.m.May) {S : List (List Plc)} (hS : SetsOk p o S) : ∀ l ∈ S, ∀ x ∈ l, 0 ≤ x.1 ∧ x.1 < p.m.states := fun l hl x hx => by
  obtain ⟨l0, h0, h1⟩ := hS.wide l hl
  exact ((h1 x).1 hx).range hm h0
theorem SetsOk.closed {S : List (List Plc)} (hS : SetsOk p o S) {l : List Plc} (hl : l ∈ S) {x : Plc} (hx : x ∈ l) {e : Int} (he : e ∉ p.seen) (h0 : 0 ≤ e) (h1 : e < p.m.events) {y : Plc} (hy : onP p o x e = some y) : y ∈ l := by
  obtain ⟨l0, _, h⟩ := hS.wide l hl
  exact (h y).2 (.step x e y ((h x).1 hx) he h0 h1 hy)
def evL (n : Nat) : List Int := (List.range n).map fun (i : Nat) => (i : Int)
theorem evL_succ (n : Nat) : evL (n + 1) = evL n ++ [(n : Int)] := by unfold evL; rw [List.range_succ, List.map_append]; rfl
def putO (l : List Plc) (y : Option Plc) : List Plc := match y with
  | some y => if y ∈ l then l else l ++ [y]
  | none => l
def oAdd (p : Plt) (o : Mach) (x : Plc) (l : List Plc) (e : Int) : List Plc := if e ∈ p.seen then l else putO l (onP p o x e)
def oPart (p : Plt) (o : Mach) (x : Plc) (l : List Plc) (i : Nat) : List Plc := (evL i).foldl (oAdd p o x) l
theorem oPart_succ (x : Plc) (l : List Plc) (i : Nat) : oPart p o x l (i + 1) = oAdd p o x (oPart p o x l i) (i : Int) := by unfold oPart; rw [evL_succ, List.foldl_append]; rfl
def UPc (p : Plt) (o : Mach) (x : Plc) : Prop := (0 ≤ x.1 ∧ x.1 < p.m.states) ∧ IsRow x.2 o.states
structure GoodC (p : Plt) (o : Mach) (l : List Plc) : Prop where
  nodup : l.Nodup
  univ : ∀ x ∈ l, UPc p o x
theorem GoodC.len {l : List Plc} (h : GoodC p o l) (h6 : p.m.states ≤ 6) (o6 : o.states ≤ 6) : l.length ≤ 384 := by
  have := nodup_nat_len 384 (l.map fun x => x.1.toNat * 64 + codeR x.2) (by
    rw [List.nodup_iff_pairwise_ne, List.pairwise_map]
    refine (List.nodup_iff_pairwise_ne.1 h.nodup).imp_of_mem fun {x y} hx hy hxy e => hxy ?_
    have hx1 := h.univ x hx
    have hy1 := h.univ y hy
    have c1 := codeR_lt (hx1.2.more o6)
    have c2 := codeR_lt (hy1.2.more o6)
    have e1 : x.1.toNat = y.1.toNat := by omega
    have e2 : codeR x.2 = codeR y.2 := by omega
    exact Prod.ext (by have := hx1.1; have := hy1.1; omega) (codeR_inj (hx1.2.more o6) (hy1.2.more o6) e2)) fun n hn => by
    obtain ⟨x, hx, rfl⟩ := List.mem_map.1 hn
    have hx1 := h.univ x hx
    have := codeR_lt (hx1.2.more o6)
    have := hx1.1
    omega
  simpa using this
theorem GoodC.nil : GoodC p o [] := ⟨List.nodup_nil, fun x hx => absurd hx (by simp)⟩
theorem onP_univ (hm : p.m.May) (om : o.May) {x y : Plc} {e : Int} (h : onP p o x e = some y) : UPc p o y := by
  obtain ⟨h1, _, h3⟩ := onP_some.1 h
  refine ⟨stepL_range hm [x.1] e y.1 (by rw [h1]; simp), ?_⟩
  rw [h3]; exact stepL_row om _ _
theorem GoodC.put (hm : p.m.May) (om : o.May) {l : List Plc} (h : GoodC p o l) (x : Plc) (e : Int) : GoodC p o (putO l (onP p o x e)) := by
  unfold putO
  split
  · rename_i y hy
    split
    · exact h
    · rename_i hn
      refine ⟨?_, fun z hz => ?_⟩
      · rw [List.nodup_append]
        refine ⟨h.nodup, by simp, fun a ha b hb hab => ?_⟩
        rw [List.mem_singleton.1 hb] at hab
        exact hn (hab ▸ ha)
      · rcases List.mem_append.1 hz with hz | hz
        · exact h.univ z hz
        · rw [List.mem_singleton.1 hz]; exact onP_univ hm om hy
  · exact h
theorem GoodC.part (hm : p.m.May) (om : o.May) {l : List Plc} (h : GoodC p o l) (x : Plc) : ∀ i, GoodC p o (oPart p o x l i)
  | 0 => h
  | i + 1 => by
    rw [oPart_succ]
    unfold oAdd
    split
    · exact GoodC.part hm om h x i
    · exact (GoodC.part hm om h x i).put hm om x _
end
end Go.Proofs.YtcjedgiglimipaaDoor

/-
  Chapter 15: the program's most and move: by their contracts.
-/
namespace Go.Proofs.YtcjedgiglimipaaDoor
set_option linter.unusedSimpArgs false
set_option linter.unusedVariables false
set_option linter.unusedSectionVars false
open Go.RowKit

theorem Blk.kM0 {K : Fr → World → Prop} {u : World} {f : Fr} {d : Option Nat} {w : World} {g t : Nat} {a : PV} {p : Plt} {A : Option Addr} {free : List Int} {c gM : Nat} (h : Blk u g t (kpC a p A free c gM)) : Val1 Tryd.prog K (Instr.loadAt 25 (.pointer (some ⟨g, 0, none⟩))) u f d w = K (updO f d (a.m.val p.m)) w :=
  h.ldSub ty_ag_25 0 (vs := a.m.cells p.m) ty_sz_25 fun k v hv => by
    match k, hv with
    | 0, hv => exact hv
    | 1, hv => exact hv
    | 2, hv => exact hv
    | 3, hv => exact hv
    | 4, hv => exact hv
    | k + 5, hv => simp [MV.cells] at hv
section
variable {g : Nat} {w w' w2 : World}
/-- What lies in memory, apart from one block. -/
def OkM (g : Nat) (w : World) (b : Nat) : Prop := b < w.heap.size ∧ b ≠ g
theorem Ints.keepM {A : Option Addr} {l : List Int} (h : Ints (OkM g w) w A l) (k : KeepM g w w') : Ints (OkM g w') w' A l := h.keep' fun b hb => ⟨k.block b hb.1 hb.2, Nat.lt_of_lt_of_le hb.1 k.size, hb.2⟩
theorem Ints.mlt {A : Option Addr} {l : List Int} (h : Ints (OkM g w) w A l) : Ints (· < w.heap.size) w A l := h.mono fun _ hb => hb.1
end
def MoveRes (p : Plt) (free : List Int) (gM : Nat) (w w' : World) : Prop := (∃ φ, GOk p free φ ∧ SMap w' gM φ) ∧ KeepM gM w w'
theorem keepsKM {p : Plt} {free s : List Int} {gM : Nat} {w w' : World} {v : Value} (h : KeepsRes p free s gM w v w') : (∃ b : Bool, v = .bool b ∧ (b = true ↔ Kp p free s)) ∧ (∃ φ, GOk p free φ ∧ SMap w' gM φ) ∧ KeepM gM w w' := h
theorem Blk.ne_map {w : World} {g gM t : Nat} {cs : List Value} {φ : List Int → Option Int} (h : Blk w g t cs) (hM : SMap w gM φ) : g ≠ gM := by
  obtain ⟨kv, hkv, _⟩ := hM
  exact fun e => hkv.ne_blk h e.symm
theorem pow_le64 {k : Nat} (h : k ≤ 6) : 2 ^ k ≤ 64 := Nat.le_trans (Nat.pow_le_pow_right (by decide) h) (by decide)
set_option maxHeartbeats 1000000 in
theorem veil_most {B : Nat} {w : World} {a : PV} {p : Plt} (hBw : B ≤ w.heap.size) (ha : IsP (· < B) w a p) (hf : p.Fits) (hp : p.May) {A1 : Option Addr} {c1 : Nat} {free : List Int} (h1 : Ints (· < B) w A1 free) (n1 : free.length ≤ 17592186043904)
    {gK gM : Nat} (hBM : B ≤ gM) (hK : Blk w gK 108 (kpC a p A1 free c1 gM)) {φ : List Int → Option Int} (hφ : GOk p free φ) (hM : SMap w gM φ) {A2 : Option Addr} {c2 : Nat} {l : List Int} (h2 : Ints (OkM gM w) w A2 l) (hl : IsRow l p.m.states) :
    Cal Tryd.prog 107 [.pointer (some ⟨gK, 0, none⟩), .slice A2 l.length c2] w fun v w' => v = setV (mostL p free l) ∧ MoveRes p free gM w w' := by
  have hm := hp.1
  have hst := hp.2.1
  have n8 : p.seen.length ≤ 8 := by have := row_lenV hp.2.2.1; have := hm.2.2.2.1; omega
  have n6 : l.length ≤ 6 := by have := row_lenV (hl.more hst); omega
  have hl6 := hl.more hst
  have hdone := fun {out : List Int} (h : MostB p free l out (2 ^ l.length)) => h.done hl.strict (hl6.small (by decide)) (by omega)
  have hz64 := pow_le64 n6
  have hlM := hM.lt
  have hKM := hK.ne_map hM
  refine cal_veil_keeper_most (by simp) 1000000 fun Q hQ => ?_
  simp (disch := first | with_reducible assumption | omega) only [push_cast, x_blk, x_cd, ↓reduceIte, Nat.reduceEqDiff, List.map_cons, List.map_nil, Int.reduceEq, Int.lt_irrefl, F_veil_keeper_most]
  refine blk_of (cs := setCells (wordsOf [])) al_76 ?_
  intro w1 kR b1 z1
  simp (disch := first | with_reducible assumption | omega) only [push_cast, x_blk, x_cd, ↓reduceIte, Nat.reduceEqDiff, List.map_cons, List.map_nil, Int.reduceEq, Int.lt_irrefl]
  refine blk_of (cs := setCells (wordsOf [])) al_76 ?_
  intro w2 kO b2 z2
  have b02 := b1.trans (b2.mono b1.size)
  replace kR := kR.below b2 kR.lt
  have k02 : KeepM gM w w2 := .of b02
  have hM2 := hM.below b02 hM.lt
  obtain ⟨z, hz⟩ : ∃ z, 2 ^ l.length = z := ⟨_, rfl⟩
  rw [hz] at hdone hz64
  have hsh := fun {K : Fr → World → Prop} {u w : World} {f : Fr} {d : Option Nat} {t : TypeId} {xo yo : Operand} => shl_i64 (P := Tryd.prog) (K := K) (u := u) (w := w) (f := f) (d := d) (t := t) (xo := xo) (yo := yo) hz (by omega)
  have hz1 : 1 ≤ z := by rw [← hz]; exact Nat.one_le_two_pow
  simp (disch := first | with_reducible assumption | omega) only [push_cast, x_blk, x_cd, ↓reduceIte, Nat.reduceEqDiff, List.map_cons, List.map_nil, Int.reduceEq, Int.lt_irrefl]
  refine loop_rule (fun f w' => ∃ (n : Nat) (out : List Int) (χ : List Int → Option Int), 1 ≤ n ∧ n ≤ z ∧ MostB p free l out n ∧ (f 0 = .pointer (some ⟨gK, 0, none⟩) ∧ f 1 = .slice A2 l.length c2 ∧ f 4 = .pointer (some ⟨w.heap.size, 0, none⟩) ∧ f 5 = .pointer (some ⟨w1.heap.size, 0, none⟩) ∧ f 6 = .int .i64 n) ∧
      Blk w' w.heap.size 76 (setCells (wordsOf [])) ∧ Blk w' w1.heap.size 76 (setCells (wordsOf out)) ∧ GOk p free χ ∧ SMap w' gM χ ∧ KeepM gM w w')
    (fun f _ => z - (intOf (f 6)).toNat) ⟨1, [], φ, by omega, by omega, MostB.start, ⟨rfl, rfl, rfl, rfl, rfl⟩, kR, kO, hφ, hM2, k02⟩ ?_
  clear kR kO hM2 k02 b02 b2 b1
  rintro f w3 ⟨n, out, χ, hn1, hnz, hO, fr, kR, kO, hχ, mM, k3⟩ J hJ
  have hz3 := k3.size
  by_cases hlt : n < z
  case neg =>
    obtain rfl : n = z := by omega
    have e := hdone hO
    simp (disch := first | with_reducible assumption | omega) only [push_cast, x_blk, x_cd, ↓reduceIte, Nat.reduceEqDiff, List.map_cons, List.map_nil, Int.reduceEq, Int.lt_irrefl, L_veil_keeper_most_1, fr, hsh, Nat.lt_irrefl, kO.setA (wordsOf_words _) ty_ag_76 ty_sz_76]
    refine sto_blk kR (cs := setCells (wordsOf out)) (e4_set _) (by rw [setCells_4, setCells_4]) (setCells_one _) ?_
    intro w4 k4 g4 z4
    simp (disch := first | with_reducible assumption | omega) only [push_cast, x_blk, x_cd, ↓reduceIte, Nat.reduceEqDiff, List.map_cons, List.map_nil, Int.reduceEq, Int.lt_irrefl]
    exact fin_cell k4 ty_ag_76 (e4_set _) (by simp only [push_cast, ↓reduceIte, Nat.reduceEqDiff, true_and, and_true, and_self, eq_self, fr]) (hQ _ _ ⟨e, ⟨χ, hχ, mM.grown g4.by_ (by simp; omega)⟩, k3.grew g4 (by intro a ha; injection ha with ha; subst ha; exact Nat.le_refl _)⟩)
  have hmu : (intOf (f 6)).toNat = n := by rw [fr.2.2.2.2]; simp [intOf]
  rw [hmu] at hJ
  simp (disch := first | with_reducible assumption | omega) only [push_cast, x_blk, x_cd, ↓reduceIte, Nat.reduceEqDiff, List.map_cons, List.map_nil, Int.reduceEq, Int.lt_irrefl, L_veil_keeper_most_1, fr, hsh, hlt]
  refine blk_of (cs := setCells (wordsOf [])) al_76 ?_
  intro w4 kS b4 z4
  have lR := kR.lt
  have lO := kO.lt
  replace kR := kR.below b4 kR.lt
  replace kO := kO.below b4 kO.lt
  replace mM := mM.below b4 mM.lt
  have k4 := k3.below b4 (Nat.le_refl _)
  simp (disch := first | with_reducible assumption | omega) only [push_cast, x_blk, x_cd, ↓reduceIte, Nat.reduceEqDiff, List.map_cons, List.map_nil, Int.reduceEq, Int.lt_irrefl, fr]
  refine loop_rule (fun f' w' => ∃ i : Nat, i ≤ l.length ∧ (f' 0 = .pointer (some ⟨gK, 0, none⟩) ∧ f' 1 = .slice A2 l.length c2 ∧ f' 4 = .pointer (some ⟨w.heap.size, 0, none⟩) ∧ f' 5 = .pointer (some ⟨w1.heap.size, 0, none⟩) ∧ f' 6 = .int .i64 n ∧ f' 7 = .pointer (some ⟨w3.heap.size, 0, none⟩) ∧ f' 17 = .slice A2 l.length c2 ∧ f' 18 = .int .i64 l.length ∧ f' 19 = .int .i64 i) ∧
      Blk w' w3.heap.size 76 (setCells (wordsOf (subK l n i))) ∧ Blk w' w.heap.size 76 (setCells (wordsOf [])) ∧ Blk w' w1.heap.size 76 (setCells (wordsOf out)) ∧ SMap w' gM χ ∧ KeepM gM w w')
    (fun f' _ => l.length - (intOf (f' 19)).toNat) ⟨0, Nat.zero_le _, (by simp only [push_cast, ↓reduceIte, Nat.reduceEqDiff, true_and, and_true, and_self, eq_self, fr]), kS, kR, kO, mM, k4⟩ ?_
  clear kS kR kO mM k4 k3 fr b4
  rintro f w5 ⟨i, hi, fr, kS, kR, kO, mM, k5⟩ J2 hJ2
  have hz5 := k5.size
  by_cases hil : i < l.length
  case pos =>
    have hI := (h2.keepM k5).mlt
    have sI := hI.isSome (by omega)
    have hld := fun {K : Fr → World → Prop} {f : Fr} {d : Option Nat} {w : World} => hI.ld (P := Tryd.prog) (K := K) (f := f) (d := d) (w := w) ty_ag_3 i hil
    have hx := hl6.mem (getD_mem l 0 i hil)
    have hsu := subK_succ l n i
    have hba := bit_and1 n i
    obtain ⟨y, hy⟩ : ∃ y, n >>> i = y := ⟨_, rfl⟩
    have hyn : y ≤ n := by rw [← hy, Nat.shiftRight_eq_div_pow]; exact Nat.div_le_self _ _
    rw [hy] at hba
    have hsr := fun {K : Fr → World → Prop} {u w : World} {f : Fr} {d : Option Nat} {t : TypeId} {xo yo : Operand} => shr_i64 (P := Tryd.prog) (K := K) (u := u) (w := w) (f := f) (d := d) (t := t) (xo := xo) (yo := yo) hy (by omega)
    generalize l.getD i 0 = x at *
    have hmu2 : (intOf (f 19)).toNat = i := by rw [fr.2.2.2.2.2.2.2.2]; simp [intOf]
    by_cases hb : n.testBit i = true
    · rw [if_pos hb] at hsu hba
      have han := fun {K : Fr → World → Prop} {u w : World} {f : Fr} {d : Option Nat} {t : TypeId} {xo yo : Operand} => and1_i64 (P := Tryd.prog) (K := K) (u := u) (w := w) (f := f) (d := d) (t := t) (xo := xo) (yo := yo) hba (by omega)
      have e1 : ((1 : Nat) : Int) = 1 := rfl
      rw [e1] at han
      simp (disch := first | with_reducible assumption | omega) only [push_cast, x_blk, x_cd, ↓reduceIte, Nat.reduceEqDiff, List.map_cons, List.map_nil, Int.reduceEq, Int.lt_irrefl, L_veil_keeper_most_0, fr, hil, sI, hld, hsr, han, eq_self]
      refine call_of (set_Add' x (by omega) (by omega) kS) ?_
      rintro v w6 ⟨rfl, k6, g6, z6⟩
      simp (disch := first | with_reducible assumption | omega) only [push_cast, x_blk, x_cd, ↓reduceIte, Nat.reduceEqDiff, List.map_cons, List.map_nil, Int.reduceEq, Int.lt_irrefl, fr]
      exact hJ2 _ _ ⟨i + 1, by omega, (by simp only [push_cast, ↓reduceIte, Nat.reduceEqDiff, true_and, and_true, and_self, eq_self, fr]), by rw [hsu]; exact k6, kR.grown g6.by_ (by simp; omega), kO.grown g6.by_ (by simp; omega), mM.grown g6.by_ (by simp; omega), k5.grew g6 (by intro a ha; injection ha with ha; subst ha; show w.heap.size ≤ w3.heap.size; omega)⟩ (by rw [hmu2]; simp only [push_cast, ↓reduceIte, Nat.reduceEqDiff, intOf, fr]; omega)
    · rw [if_neg hb] at hsu hba
      have han := fun {K : Fr → World → Prop} {u w : World} {f : Fr} {d : Option Nat} {t : TypeId} {xo yo : Operand} => and1_i64 (P := Tryd.prog) (K := K) (u := u) (w := w) (f := f) (d := d) (t := t) (xo := xo) (yo := yo) hba (by omega)
      have e1 : ((0 : Nat) : Int) = 0 := rfl
      rw [e1] at han
      simp (disch := first | with_reducible assumption | omega) only [push_cast, x_blk, x_cd, ↓reduceIte, Nat.reduceEqDiff, List.map_cons, List.map_nil, Int.reduceEq, Int.lt_irrefl, L_veil_keeper_most_0, fr, hil, sI, hld, hsr, han]
      exact hJ2 _ _ ⟨i + 1, by omega, (by simp only [push_cast, ↓reduceIte, Nat.reduceEqDiff, true_and, and_true, and_self, eq_self, fr]), by rw [hsu]; exact kS, kR, kO, mM, k5⟩ (by rw [hmu2]; simp only [push_cast, ↓reduceIte, Nat.reduceEqDiff, intOf, fr]; omega)
  obtain rfl : i = l.length := by omega
  have hsr : IsRow (subK l n l.length) p.m.states := IsRow.of_strict (subK_strict hl.strict (Nat.le_refl _)) fun x hx => by have := hl.mem (subK_in (Nat.le_refl _) x hx); omega
  generalize hS : subK l n l.length = S at *
  have bd : Below w5.heap.size w5 w5.drew := (Same.refl w5).drew.below _
  have k6 := k5.below bd (Nat.le_refl _)
  have kK6 := hK.keepM k6 hKM
  have kS6 := kS.below bd kS.lt
  have kR6 := kR.below bd kR.lt
  have kO6 := kO.below bd kO.lt
  have mM6 := mM.below bd mM.lt
  have lS6 := kS6.lt
  generalize hu6 : w5.drew = u6 at *
  have hz6 := k6.size
  have ha6 := ha.keepM k6 hBM hBw
  have hw6 : B ≤ u6.heap.size := by omega
  simp (disch := first | with_reducible assumption | omega) only [push_cast, x_blk, x_cd, ↓reduceIte, Nat.reduceEqDiff, List.map_cons, List.map_nil, Int.reduceEq, Int.lt_irrefl, L_veil_keeper_most_0, fr, Nat.lt_irrefl, hu6, kK6.kP, kK6.kM0, kS6.setA (wordsOf_words _) ty_ag_76 ty_sz_76, kK6.kE]
  refine call_of (machine_Wide ((ha6.mono fun b hb => Nat.lt_of_lt_of_le hb hw6).m) hm (hsr.small (by omega)) ((ha6.mono fun b hb => Nat.lt_of_lt_of_le hb hw6).seen) hf.lenP) ?_
  rintro v w7 ⟨rfl, b7⟩
  have k7 := k6.below b7 (Nat.le_refl _)
  have kK7 := hK.keepM k7 hKM
  have kS7 := kS6.below b7 lS6
  have kR7 := kR6.below b7 kR6.lt
  have kO7 := kO6.below b7 kO6.lt
  have mM7 := mM6.below b7 mM6.lt
  have hz7 := k7.size
  have ha7 := (ha.keepM k7 hBM hBw).mono fun b hb => (Nat.lt_of_lt_of_le hb (by omega) : b < w7.heap.size)
  have h17 := (h1.keepB k7 hBM hBw).mono fun b hb => (Nat.lt_of_lt_of_le hb (by omega) : b < w7.heap.size)
  simp (disch := first | with_reducible assumption | omega) only [push_cast, x_blk, x_cd, ↓reduceIte, Nat.reduceEqDiff, List.map_cons, List.map_nil, Int.reduceEq, Int.lt_irrefl]
  refine ⟨b7, ?_⟩
  refine call_of (veil_keeps ha7 hf hp h17 n1 kK7 hχ mM7 (wideL_row hm (row_range hsr))) ?_
  intro v w8 h8
  obtain ⟨⟨b, rfl, hb⟩, ⟨χ2, hχ2, mM8⟩, k78⟩ := keepsKM h8
  have k8 := k7.trans k78
  have kS8 := kS7.keepM k78 (kS7.ne_map mM7)
  have kR8 := kR7.keepM k78 (kR7.ne_map mM7)
  have kO8 := kO7.keepM k78 (kO7.ne_map mM7)
  cases b with
  | false =>
    have hn : ¬ Kp p free (wideL p.m p.seen S) := fun hh => by have := hb.2 hh; cases this
    have hO2 := hO.skip (by rw [hS]; exact hn)
    simp (disch := first | with_reducible assumption | omega) only [push_cast, x_blk, x_cd, ↓reduceIte, Nat.reduceEqDiff, List.map_cons, List.map_nil, Int.reduceEq, Int.lt_irrefl, fr]
    exact hJ _ _ ⟨n + 1, out, χ2, by omega, by omega, hO2, (by simp only [push_cast, ↓reduceIte, Nat.reduceEqDiff, true_and, and_true, and_self, eq_self, fr]), kR8, kO8, hχ2, mM8, k8⟩ (by simp only [push_cast, ↓reduceIte, Nat.reduceEqDiff, intOf, fr]; omega)
  | true =>
    have hy := hb.1 rfl
    have hO2 := hO.join hn1 (by rw [hS]; exact hy)
    rw [hS] at hO2
    simp (disch := first | with_reducible assumption | omega) only [push_cast, x_blk, x_cd, ↓reduceIte, Nat.reduceEqDiff, List.map_cons, List.map_nil, Int.reduceEq, Int.lt_irrefl, fr, kS8.setA (wordsOf_words _) ty_ag_76 ty_sz_76]
    refine call_of (set_Join kO8) ?_
    rintro v w9 ⟨rfl, k9, g9⟩
    simp (disch := first | with_reducible assumption | omega) only [push_cast, x_blk, x_cd, ↓reduceIte, Nat.reduceEqDiff, List.map_cons, List.map_nil, Int.reduceEq, Int.lt_irrefl, fr]
    exact hJ _ _ ⟨n + 1, _, χ2, by omega, by omega, hO2, (by simp only [push_cast, ↓reduceIte, Nat.reduceEqDiff, true_and, and_true, and_self, eq_self, fr]), kR8.grown g9.by_ (by simp; omega), k9, hχ2, mM8.grown g9.by_ (by simp; omega), k8.grew g9 (by intro a ha; injection ha with ha; subst ha; show w.heap.size ≤ w1.heap.size; omega)⟩ (by simp only [push_cast, ↓reduceIte, Nat.reduceEqDiff, intOf, fr]; omega)
end Go.Proofs.YtcjedgiglimipaaDoor

/-
  Chapter 15: the program's move: by its contract.
-/
namespace Go.Proofs.YtcjedgiglimipaaDoor
set_option linter.unusedSimpArgs false
set_option linter.unusedVariables false
set_option linter.unusedSectionVars false
open Go.RowKit

theorem fin_cct {P : Program} {Rc : Value → World → Prop} {a t t' g b q q' h s : Nat} {cs ds : List Value} {f : Fr} {w : World} (hk : Blk w g t' cs) (ht : tyAgg P t = some true) (hs : tySize P t = some cs.length)
    (hk2 : Blk w h q' ds) (ht2 : tyAgg P q = some true) (hs2 : tySize P q = some ds.length)
    (hf : f a = .pointer (some ⟨g, 0, none⟩)) (hf2 : f b = .pointer (some ⟨h, 0, none⟩)) (hr : Rc (.tuple #[.agg cs.toArray, .agg ds.toArray, f s]) w) : FinX P #[.cell a t, .cell b q, .tmp s] Rc f w := by
  refine ⟨_, fun fn tmps hr hf' => ?_, hr⟩
  have e : tmps.getD a undef = .pointer (some ⟨g, 0, none⟩) := by rw [hf', hf]
  have e2 : tmps[a]?.getD undef = .pointer (some ⟨g, 0, none⟩) := by simpa using e
  have e' : tmps.getD b undef = .pointer (some ⟨h, 0, none⟩) := by rw [hf', hf2]
  have e2' : tmps[b]?.getD undef = .pointer (some ⟨h, 0, none⟩) := by simpa using e'
  have e3 : tmps[s]?.getD undef = f s := by simpa using hf' s
  unfold tyAgg at ht ht2
  unfold tySize at hs hs2
  cases hu : P.underlying t with
  | none => simp [hu] at ht
  | some de =>
    cases hu2 : P.underlying q with
    | none => simp [hu2] at ht2
    | some de2 =>
    cases hi : P.info? t with
    | none => simp [hi] at hs
    | some ie =>
      cases hi2 : P.info? q with
      | none => simp [hi2] at hs2
      | some ie2 =>
      simp only [hi, Option.map_some, Option.some.injEq] at hs
      simp only [hi2, Option.map_some, Option.some.injEq] at hs2
      simp only [hu, Option.map_some, Option.some.injEq] at ht
      simp only [hu2, Option.map_some, Option.some.injEq] at ht2
      have hr' := run_loadCells_list (P := P) w ⟨g, 0, none⟩ cs (fun j v hv => by rw [addr_add, Nat.zero_add, hk.cell, hv])
      have hr2 := run_loadCells_list (P := P) w ⟨h, 0, none⟩ ds (fun j v hv => by rw [addr_add, Nat.zero_add, hk2.cell, hv])
      cases de <;> simp at ht <;> cases de2 <;> simp at ht2 <;> simp [results, hr, e2, e2', e3, asAddr, loadVar, isAgg, run_underlying hu, run_underlying hu2, sizeOf, typeInfo, hi, hi2, hs, hs2, hr', hr2]
/-- A move, as it lies in memory. -/
structure MvH where
  n : Int
  e : Int
  A : Option Addr
  c : Nat
  st : List Int
  to_ : Int
def MvH.cells (x : MvH) : List Value := [.int .i64 x.n, .int .i64 x.e, .slice x.A x.st.length x.c, .int .i64 x.to_]
theorem mvEnc : Enc MvH.cells 4 := ⟨fun _ => rfl, fun x u hu => by
  unfold MvH.cells at hu
  simp only [List.mem_cons, List.not_mem_nil, or_false] at hu
  rcases hu with rfl | rfl | rfl | rfl <;> rfl⟩
theorem mv_one (x : MvH) : (MvH.cells x).all (·.oneCell') = true := List.all_eq_true.2 (mvEnc.one x)
theorem e4_mv (x : MvH) : tySize Tryd.prog 56 = some (MvH.cells x).length := ty_sz_56
theorem blt_mv : builtPl Tryd.prog 56 = some ([(0, 1), (1, 1), (2, 1), (3, 1)], [.int .i64 0, .int .i64 0, .slice none 0 0, .int .i64 0]) := by kernel_rfl
theorem bl_mv1 {K : Fr → World → Prop} {u : World} {f : Fr} {d : Option Nat} {w : World} (e : Int) : Val1 Tryd.prog K (Instr.build 56 #[(1, .int .i64 e)]) u f d w = K (updO f d (.agg (MvH.cells ⟨0, e, none, 0, [], 0⟩).toArray)) w := by
  refine bld_of ?_
  rw [built_of blt_mv]
  rw [fill_cons (off := 1) (size := 1) rfl rfl (by decide), fill_nil]
  simp [putL, Value.cells, MvH.cells]
section
variable {K : Fr → World → Prop} {u : World} {f : Fr} {d : Option Nat} {w : World} {g t ty : Nat} {x : MvH}
theorem Blk.v0 (h : Blk u g t x.cells) (ht : tyAgg Tryd.prog ty = some false) : Val1 Tryd.prog K (Instr.loadAt ty (.pointer (some ⟨g, 0, none⟩))) u f d w = K (updO f d (.int .i64 x.n)) w := h.ld ht 0 (by simp [MvH.cells])
theorem Blk.v1 (h : Blk u g t x.cells) (ht : tyAgg Tryd.prog ty = some false) : Val1 Tryd.prog K (Instr.loadAt ty (.pointer (some ⟨g, 1, none⟩))) u f d w = K (updO f d (.int .i64 x.e)) w := h.ld ht 1 (by simp [MvH.cells])
theorem Blk.v2 (h : Blk u g t x.cells) (ht : tyAgg Tryd.prog ty = some false) : Val1 Tryd.prog K (Instr.loadAt ty (.pointer (some ⟨g, 2, none⟩))) u f d w = K (updO f d (.slice x.A x.st.length x.c)) w := h.ld ht 2 (by simp [MvH.cells])
theorem Blk.v3 (h : Blk u g t x.cells) (ht : tyAgg Tryd.prog ty = some false) : Val1 Tryd.prog K (Instr.loadAt ty (.pointer (some ⟨g, 3, none⟩))) u f d w = K (updO f d (.int .i64 x.to_)) w := h.ld ht 3 (by simp [MvH.cells])
theorem Blk.vA (h : Blk u g t x.cells) : Val1 Tryd.prog K (Instr.loadAt 56 (.pointer (some ⟨g, 0, none⟩))) u f d w = K (updO f d (.agg x.cells.toArray)) w := h.ldAll ty_ag_56 (e4_mv x)
end
theorem Blk.kAr {K : Fr → World → Prop} {u : World} {f : Fr} {d : Option Nat} {w : World} {g t : Nat} {a : PV} {p : Plt} {A : Option Addr} {free : List Int} {c gM : Nat} (h : Blk u g t (kpC a p A free c gM)) : Val1 Tryd.prog K (Instr.loadAt 23 (.pointer (some ⟨g, 3, none⟩))) u f d w = K (updO f d (.slice a.m.Aa p.m.arrows.length a.m.ca)) w := h.ld ty_ag_23 3 (by simp)
theorem Tab.keepM {w w' : World} {gM : Nat} {φ : List Int → Option Int} (h : Tab w) (hM : SMap w gM φ) (k : KeepM gM w w') : Tab w' := by
  have hne : 0 ≠ gM := fun e => by
    obtain ⟨kv, ⟨es, cl, hh, _⟩, _⟩ := hM
    have h0 := h.cell 0 (by decide)
    unfold World.cell? at h0
    rw [e] at h0
    simp only [hh] at h0
    cases h0
  exact ⟨fun i hi => (World.cell?_of_block (k.block _ h.lt hne)).trans (h.cell i hi)⟩
theorem OwnI.okM {B e c gM : Nat} {w : World} {A : Option Addr} {l : List Int} (h : OwnI B e w A c l) (hB : gM < B) : Ints (OkM gM w) w A l := (OwnI.ints h).mono fun b hb => ⟨h.ltB hb.2.symm, by have := hb.1; omega⟩
theorem Own.keepM {B e sz c n gM : Nat} {w w' : World} {A : Option Addr} {xs : List Value} (h : Own B e sz w A c n xs) (hB : gM < B) (k : KeepM gM w w') : Own B e sz w' A c n xs :=
  h.keep fun g hg => k.block g (h.ltB hg.symm) (by
    cases A with
    | none => cases hg
    | some a =>
      injection hg with hg
      have := h.geB a rfl
      simp only at hg
      omega)
set_option maxHeartbeats 2000000 in
theorem veil_move {B : Nat} {w : World} {a : PV} {p : Plt} (hBw : B ≤ w.heap.size) (ha : IsP (· < B) w a p) (hf : p.Fits) (hp : p.May) (hpl : PlainM p.m) (hT : Tab w) {A1 : Option Addr} {c1 : Nat} {free : List Int} (h1 : Ints (· < B) w A1 free) (n1 : free.length ≤ 17592186043904)
    {gK gM : Nat} (hBM : B ≤ gM) (hK : Blk w gK 108 (kpC a p A1 free c1 gM)) {φ : List Int → Option Int} (hφ : GOk p free φ) (hM : SMap w gM φ) {s : List Int} (hs : IsRow s p.m.states) (e : Int) :
    Cal Tryd.prog 73 [.pointer (some ⟨gK, 0, none⟩), setV s, .int .i64 e] w fun v w' => ∃ A c, v = .tuple #[.agg (MvH.cells ⟨0, e, A, c, stayL p.m (toL p free s e) s e, 0⟩).toArray, setV (wideL p.m p.seen (toL p free s e)), .bool (decide (0 < (stayL p.m (toL p free s e) s e).length))] ∧
      OwnI w.heap.size 3 w' A c (stayL p.m (toL p free s e) s e) ∧ MoveRes p free gM w w' ∧ Tab w' := by
  have hm := hp.1
  have hst := hp.2.1
  have hKM := hK.ne_map hM
  have hlM := hM.lt
  have rS := stepL_row hm s e
  have nA := hm.2.2.2.2.1
  refine cal_veil_keeper_move (by simp) 1000000 fun Q hQ => ?_
  simp (disch := first | with_reducible assumption | omega) only [push_cast, x_blk, x_cd, ↓reduceIte, Nat.reduceEqDiff, List.map_cons, List.map_nil, Int.reduceEq, Int.lt_irrefl, F_veil_keeper_move]
  refine blk_of (box_agg _ (setCells (wordsOf s))) ?_
  intro w1 kS b1 z1
  simp (disch := first | with_reducible assumption | omega) only [push_cast, x_blk, x_cd, ↓reduceIte, Nat.reduceEqDiff, List.map_cons, List.map_nil, Int.reduceEq, Int.lt_irrefl]
  refine blk_of (cs := MvH.cells ⟨0, 0, none, 0, [], 0⟩) al_56 ?_
  intro w2 k6 b2 z2
  have b02 := b1.trans (b2.mono b1.size)
  replace kS := kS.below b2 kS.lt
  simp (disch := first | with_reducible assumption | omega) only [push_cast, x_blk, x_cd, ↓reduceIte, Nat.reduceEqDiff, List.map_cons, List.map_nil, Int.reduceEq, Int.lt_irrefl]
  refine blk_of (cs := setCells (wordsOf [])) al_76 ?_
  intro w3 k7 b3 z3
  have b03 := b02.trans (b3.mono b02.size)
  replace kS := kS.below b3 kS.lt
  replace k6 := k6.below b3 k6.lt
  have bd : Below w3.heap.size w3 w3.drew := (Same.refl w3).drew.below _
  have b04 := b03.trans (bd.mono b03.size)
  replace kS := kS.below bd kS.lt
  replace k6 := k6.below bd k6.lt
  replace k7 := k7.below bd k7.lt
  have hTu := hT.on b04
  generalize hu4 : w3.drew = u4 at *
  have hz4 := b04.size
  have hzz := bd.size
  have kK4 := hK.below b04 hK.lt
  have mM4 := hM.below b04 hM.lt
  have ha4 := ha.keepM (.of b04) hBM hBw
  have ha4' := ha4.mono fun b hb => (Nat.lt_of_lt_of_le hb (by omega) : b < u4.heap.size)
  have hK4 : KeepM gM w u4 := .of b04
  have l7 := k7.lt
  simp (disch := first | with_reducible assumption | omega) only [push_cast, x_blk, x_cd, ↓reduceIte, Nat.reduceEqDiff, List.map_cons, List.map_nil, Int.reduceEq, Int.lt_irrefl, hu4, kK4.kM0, kS.setA (wordsOf_words _) ty_ag_76 ty_sz_76]
  refine cutT (fun f' w' => ∃ g : Nat, (f' 0 = .pointer (some ⟨gK, 0, none⟩) ∧ f' 2 = .int .i64 e ∧ f' 4 = .pointer (some ⟨w.heap.size, 0, none⟩) ∧ f' 6 = .pointer (some ⟨w1.heap.size, 0, none⟩) ∧ f' 7 = .pointer (some ⟨w2.heap.size, 0, none⟩) ∧ f' 8 = .bool false ∧ f' 9 = .pointer (some ⟨g, 0, none⟩)) ∧
      Blk w' g 76 (setCells (wordsOf (stepL p.m s e))) ∧ u4.heap.size ≤ g ∧ Below u4.heap.size u4 w') 20000 40000 (by decide) ?_ ?_
  · intro E hE
    have fr := True.intro
    rw [x_t_two]
    refine ⟨?_, ?_⟩
    · simp (disch := first | with_reducible assumption | omega) only [push_cast, x_blk, x_cd, ↓reduceIte, Nat.reduceEqDiff, List.map_cons, List.map_nil, Int.reduceEq, Int.lt_irrefl]
      refine call_of (machine_Step ha4'.m hm s e) ?_
      rintro v w12 ⟨rfl, b12⟩
      simp (disch := first | with_reducible assumption | omega) only [push_cast, x_blk, x_cd, ↓reduceIte, Nat.reduceEqDiff, List.map_cons, List.map_nil, Int.reduceEq, Int.lt_irrefl]
      refine ⟨b12, ?_⟩
      refine blk_of (cs := setCells (wordsOf [])) al_76 ?_
      intro w13 k13 b13 z13
      have b13' := b12.trans (b13.mono b12.size)
      simp (disch := first | with_reducible assumption | omega) only [push_cast, x_blk, x_cd, ↓reduceIte, Nat.reduceEqDiff, List.map_cons, List.map_nil, Int.reduceEq, Int.lt_irrefl]
      refine ⟨b13', ?_⟩
      refine sto_blk k13 (cs := setCells (wordsOf (stepL p.m s e))) (e4_set _) (by rw [setCells_4, setCells_4]) (setCells_one _) ?_
      intro w14 k14 g14 z14
      simp (disch := first | with_reducible assumption | omega) only [push_cast, x_blk, x_cd, ↓reduceIte, Nat.reduceEqDiff, List.map_cons, List.map_nil, Int.reduceEq, Int.lt_irrefl]
      exact hE _ _ ⟨_, (by simp only [push_cast, ↓reduceIte, Nat.reduceEqDiff, true_and, and_true, and_self, eq_self, fr]), k14, b12.size, g14.below b13' b13'.size (by intro a ha; injection ha with ha; subst ha; exact b12.size)⟩
    · simp (disch := first | with_reducible assumption | omega) only [push_cast, x_blk, x_cd, ↓reduceIte, Nat.reduceEqDiff, List.map_cons, List.map_nil, Int.reduceEq, Int.lt_irrefl]
      refine blk_of (cs := setCells (wordsOf [])) al_76 ?_
      intro w13 k13 b13 z13
      simp (disch := first | with_reducible assumption | omega) only [push_cast, x_blk, x_cd, ↓reduceIte, Nat.reduceEqDiff, List.map_cons, List.map_nil, Int.reduceEq, Int.lt_irrefl]
      refine ⟨b13, ?_⟩
      refine call_of (machine_Step (ha4'.m.up b13) hm s e) ?_
      rintro v w12 ⟨rfl, b12⟩
      have b12' := b13.trans (b12.mono b13.size)
      replace k13 := k13.below b12 k13.lt
      simp (disch := first | with_reducible assumption | omega) only [push_cast, x_blk, x_cd, ↓reduceIte, Nat.reduceEqDiff, List.map_cons, List.map_nil, Int.reduceEq, Int.lt_irrefl]
      refine ⟨b12', ?_⟩
      refine sto_blk k13 (cs := setCells (wordsOf (stepL p.m s e))) (e4_set _) (by rw [setCells_4, setCells_4]) (setCells_one _) ?_
      intro w14 k14 g14 z14
      simp (disch := first | with_reducible assumption | omega) only [push_cast, x_blk, x_cd, ↓reduceIte, Nat.reduceEqDiff, List.map_cons, List.map_nil, Int.reduceEq, Int.lt_irrefl]
      exact hE _ _ ⟨_, (by simp only [push_cast, ↓reduceIte, Nat.reduceEqDiff, true_and, and_true, and_self, eq_self, fr]), k14, Nat.le_refl _, g14.below b12' b12'.size (by intro a ha; injection ha with ha; subst ha; exact Nat.le_refl _)⟩
  rintro f w5 ⟨g9, fr, k9, hg9, b5⟩
  replace kS := kS.below b5 kS.lt
  replace k6 := k6.below b5 k6.lt
  replace k7 := k7.below b5 k7.lt
  have hK5 := hK4.below b5 (Nat.le_refl _)
  have hT5 := hTu.on b5
  have kK5 := hK.keepM hK5 hKM
  have mM5 := mM4.below b5 mM4.lt
  have hz5 := hK5.size
  have h15 := (h1.keepB hK5 hBM hBw).mono fun b hb => (Nat.lt_of_lt_of_le hb (by omega) : b < w5.heap.size)
  have hg95 := k9.lt
  clear mM4 kK4 ha4 ha4' hTu b5 hK4
  rw [x_sq]
  refine cut (fun f' w' => ∃ (χ : List Int → Option Int), (f' 0 = .pointer (some ⟨gK, 0, none⟩) ∧ f' 2 = .int .i64 e ∧ f' 4 = .pointer (some ⟨w.heap.size, 0, none⟩) ∧ f' 6 = .pointer (some ⟨w1.heap.size, 0, none⟩) ∧ f' 7 = .pointer (some ⟨w2.heap.size, 0, none⟩) ∧ f' 8 = .bool false ∧ f' 9 = .pointer (some ⟨g9, 0, none⟩)) ∧
      Blk w' w.heap.size 76 (setCells (wordsOf s)) ∧ Blk w' w1.heap.size 56 (MvH.cells ⟨0, 0, none, 0, [], 0⟩) ∧ Blk w' w2.heap.size 76 (setCells (wordsOf [])) ∧ Blk w' g9 76 (setCells (wordsOf (toL p free s e))) ∧
      GOk p free χ ∧ SMap w' gM χ ∧ KeepM gM w w') 10000 29000 (by decide) ?_ ?_
  · intro E hE
    simp (disch := first | with_reducible assumption | omega) only [push_cast, x_blk, x_cd, ↓reduceIte, Nat.reduceEqDiff, List.map_cons, List.map_nil, Int.reduceEq, Int.lt_irrefl, fr, kK5.kF]
    refine call_of (row_Has h15 c1 e (by omega)) ?_
    rintro v w6 ⟨rfl, s6⟩
    have b6 := s6.below w5.heap.size
    have kK6 := kK5.below b6 kK5.lt
    replace kS := kS.below b6 kS.lt
    replace k6 := k6.below b6 k6.lt
    replace k7 := k7.below b6 k7.lt
    replace k9 := k9.below b6 k9.lt
    have mM6 := mM5.below b6 mM5.lt
    have hT6 := hT5.on b6
    have k56 : KeepM gM w5 w6 := .of b6
    have hz6 := b6.size
    by_cases q : e ∈ free
    · have hTe : mostL p free (stepL p.m s e) = toL p free s e := by unfold toL; rw [if_pos q]
      simp (disch := first | with_reducible assumption | omega) only [push_cast, x_blk, x_cd, ↓reduceIte, Nat.reduceEqDiff, List.map_cons, List.map_nil, Int.reduceEq, Int.lt_irrefl, fr, decide_eq_true q, k9.setA (wordsOf_words _) ty_ag_76 ty_sz_76]
      refine call_of (set_Row' rS.strict (rS.small (by omega)) hT6) ?_
      rintro v w7 ⟨A7, c7, rfl, o7, b7⟩
      have k57 := k56.below b7 (Nat.le_refl _)
      have hK7 := hK5.trans k57
      have hz7 := b7.size
      simp (disch := first | with_reducible assumption | omega) only [push_cast, x_blk, x_cd, ↓reduceIte, Nat.reduceEqDiff, List.map_cons, List.map_nil, Int.reduceEq, Int.lt_irrefl, fr]
      refine call_of (veil_most (B := B) (by omega) (ha.keepM hK7 hBM hBw) hf hp (h1.keepB hK7 hBM hBw) n1 hBM (kK6.below b7 kK6.lt) hφ (mM6.below b7 mM6.lt) (o7.okM (by omega)) rS) ?_
      rintro v w8 ⟨rfl, ⟨χ, hχ, mM8⟩, k78⟩
      have mM7 := mM6.below b7 mM6.lt
      have k58 := k57.trans k78
      have kk : ∀ {x t : Nat} {cs : List Value}, Blk w6 x t cs → Blk w8 x t cs := fun h => (h.below b7 h.lt).keepM k78 ((h.below b7 h.lt).ne_map mM7)
      have hT8 := (hT6.on b7).keepM mM7 k78
      rw [hTe]
      simp (disch := first | with_reducible assumption | omega) only [push_cast, x_blk, x_cd, ↓reduceIte, Nat.reduceEqDiff, List.map_cons, List.map_nil, Int.reduceEq, Int.lt_irrefl, fr]
      refine sto_blk (kk k9) (cs := setCells (wordsOf (toL p free s e))) (e4_set _) (by rw [setCells_4, setCells_4]) (setCells_one _) ?_
      intro w9' k9' g9' z9'
      have hne9 : g9 ≠ gM := (kk k9).ne_map mM8
      simp (disch := first | with_reducible assumption | omega) only [push_cast, x_blk, x_cd, ↓reduceIte, Nat.reduceEqDiff, List.map_cons, List.map_nil, Int.reduceEq, Int.lt_irrefl, fr]
      exact hE _ _ ⟨χ, (by simp only [push_cast, ↓reduceIte, Nat.reduceEqDiff, true_and, and_true, and_self, eq_self, fr]), (kk kS).grown g9'.by_ (by simp; omega), (kk k6).grown g9'.by_ (by simp; omega), (kk k7).grown g9'.by_ (by simp; omega), k9', hχ, mM8.grown g9'.by_ (by simp; omega), (hK5.trans k58).grew g9' (by intro a ha; injection ha with ha; subst ha; show w.heap.size ≤ g9; omega)⟩
    · have hTe : stepL p.m s e = toL p free s e := by unfold toL; rw [if_neg q]
      rw [hTe] at k9
      simp (disch := first | with_reducible assumption | omega) only [push_cast, x_blk, x_cd, ↓reduceIte, Nat.reduceEqDiff, List.map_cons, List.map_nil, Int.reduceEq, Int.lt_irrefl, fr, decide_eq_false q]
      exact hE _ _ ⟨φ, (by simp only [push_cast, ↓reduceIte, Nat.reduceEqDiff, true_and, and_true, and_self, eq_self, fr]), kS, k6, k7, k9, hφ, mM6, hK5.trans k56⟩
  clear fr kS k6 k7 k9 kK5 mM5 h15 hT5
  rintro f w10 ⟨χ, fr, kS, k6, k7, k9, hχ, mM, hK10⟩
  have rT := toL_row hm free s e
  have hmov := fun (T : List Int) => mov_stay hm hpl (to := T) hs.strict e
  generalize toL p free s e = T at *
  have hz10 := hK10.size
  have l9 := k9.lt
  simp (disch := first | with_reducible assumption | omega) only [push_cast, x_blk, x_cd, ↓reduceIte, Nat.reduceEqDiff, List.map_cons, List.map_nil, Int.reduceEq, Int.lt_irrefl, fr, bl_mv1]
  refine blk_of (cs := MvH.cells ⟨0, 0, none, 0, [], 0⟩) al_56 ?_
  intro w11 k10 b11 z11
  replace kS := kS.below b11 kS.lt
  replace k6 := k6.below b11 k6.lt
  replace k7 := k7.below b11 k7.lt
  replace k9 := k9.below b11 k9.lt
  have l6 := k6.lt
  have l7 := k7.lt
  replace mM := mM.below b11 mM.lt
  have hK11 := hK10.below b11 (Nat.le_refl _)
  have lM10 := hM.lt
  simp (disch := first | with_reducible assumption | omega) only [push_cast, x_blk, x_cd, ↓reduceIte, Nat.reduceEqDiff, List.map_cons, List.map_nil, Int.reduceEq, Int.lt_irrefl, fr]
  refine sto_blk k10 (cs := MvH.cells ⟨0, e, none, 0, [], 0⟩) (e4_mv _) rfl (mv_one _) ?_
  intro w12 k10' g12 z12
  clear k10
  replace kS := kS.grown g12.by_ (by simp; omega)
  replace k6 := k6.grown g12.by_ (by simp; omega)
  replace k7 := k7.grown g12.by_ (by simp; omega)
  replace k9 := k9.grown g12.by_ (by simp; omega)
  replace mM := mM.grown g12.by_ (by simp; omega)
  have hK12 := hK11.grew g12 (by intro a ha; injection ha with ha; subst ha; show w.heap.size ≤ w10.heap.size; omega)
  have kK12 := hK.keepM hK12 hKM
  generalize hg10 : w10.heap.size = g10 at *
  simp (disch := first | with_reducible assumption | omega) only [push_cast, x_blk, x_cd, ↓reduceIte, Nat.reduceEqDiff, List.map_cons, List.map_nil, Int.reduceEq, Int.lt_irrefl, fr, kK12.kAr]
  refine loop_rule (fun f w' => ∃ (k : Nat) (A : Option Addr) (c : Nat), k ≤ p.m.arrows.length ∧ (f 0 = .pointer (some ⟨gK, 0, none⟩) ∧ f 2 = .int .i64 e ∧ f 4 = .pointer (some ⟨w.heap.size, 0, none⟩) ∧ f 6 = .pointer (some ⟨w1.heap.size, 0, none⟩) ∧ f 7 = .pointer (some ⟨w2.heap.size, 0, none⟩) ∧ f 8 = .bool false ∧ f 9 = .pointer (some ⟨g9, 0, none⟩) ∧ f 10 = .pointer (some ⟨g10, 0, none⟩) ∧ f 38 = .slice a.m.Aa p.m.arrows.length a.m.ca ∧ f 39 = .int .i64 p.m.arrows.length ∧ f 40 = .int .i64 k) ∧
      Blk w' w.heap.size 76 (setCells (wordsOf s)) ∧ Blk w' w1.heap.size 56 (MvH.cells ⟨0, 0, none, 0, [], 0⟩) ∧ Blk w' w2.heap.size 76 (setCells (wordsOf [])) ∧ Blk w' g9 76 (setCells (wordsOf T)) ∧
      Blk w' g10 56 (MvH.cells ⟨0, e, A, c, movK p.m s T e k, 0⟩) ∧ OwnI (g10 + 1) 3 w' A c (movK p.m s T e k) ∧ SMap w' gM χ ∧ KeepM gM w w')
    (fun f _ => p.m.arrows.length - (intOf (f 40)).toNat) ⟨0, none, 0, Nat.zero_le _, (by simp only [push_cast, ↓reduceIte, Nat.reduceEqDiff, true_and, and_true, and_self, eq_self, fr]), kS, k6, k7, k9, k10', Own.nil _ _ _ _, mM, hK12⟩ ?_
  clear fr kS k6 k7 k9 k10' mM kK12 hK12 hK11 hK10 g12 b11
  rintro f w13 ⟨k, A, c, hk, fr, kS, k6, k7, k9, k10, ho, mM, hK13⟩ J hJ
  have hz13 := hK13.size
  have kK13 := hK.keepM hK13 hKM
  have ha13 := (ha.keepM hK13 hBM hBw).mono fun b hb => (Nat.lt_of_lt_of_le hb (by omega) : b < w13.heap.size)
  by_cases hlt : k < p.m.arrows.length
  case pos =>
    have hI := ha13.m.arrows
    have hA := hI.isSome (by omega)
    have hsu := movK_succ p.m s T e hlt
    have hln := movK_len p.m s T e k
    have hyr := May.arr hm (getD_mem p.m.arrows default k hlt)
    have hmu : (intOf (f 40)).toNat = k := by rw [fr.2.2.2.2.2.2.2.2.2.2]; simp [intOf]
    have hldA := fun {K : Fr → World → Prop} {f : Fr} {d : Option Nat} {w : World} => hI.ldA (P := Tryd.prog) (K := K) (f := f) (d := d) (w := w) (i := k) ty_ag_85 ty_sz_85
    generalize p.m.arrows.getD k default = y at *
    simp (disch := first | with_reducible assumption | omega) only [push_cast, x_blk, x_cd, ↓reduceIte, Nat.reduceEqDiff, List.map_cons, List.map_nil, Int.reduceEq, Int.lt_irrefl, L_veil_keeper_move_0, fr, hlt, hA, hldA]
    refine blk_of al_85 ?_
    intro w14 k14 b14 z14
    simp (disch := first | with_reducible assumption | omega) only [push_cast, x_blk, x_cd, ↓reduceIte, Nat.reduceEqDiff, List.map_cons, List.map_nil, Int.reduceEq, Int.lt_irrefl, fr]
    refine sto_blk k14 (cs := arrCells y) ty_sz_85 rfl (by simp [arrCells, Value.oneCell']) ?_
    intro w15 k15 g15 z15
    have b15 := g15.below b14 b14.size (by intro a ha; injection ha with ha; subst ha; exact Nat.le_refl _)
    have hz15 := b15.size
    replace kS := kS.below b15 kS.lt
    replace k6 := k6.below b15 k6.lt
    replace k7 := k7.below b15 k7.lt
    replace k9 := k9.below b15 k9.lt
    replace k10 := k10.below b15 k10.lt
    replace ho := ho.below b15 (Nat.le_refl _)
    replace mM := mM.below b15 mM.lt
    have hK15 := hK13.below b15 (Nat.le_refl _)
    clear g15 b14 k14
    by_cases q1 : y.evt = e
    case neg =>
      rw [if_neg (fun hh => q1 hh.1)] at hsu
      simp (disch := first | with_reducible assumption | omega) only [push_cast, x_blk, x_cd, ↓reduceIte, Nat.reduceEqDiff, List.map_cons, List.map_nil, Int.reduceEq, Int.lt_irrefl, fr, k15.a1 ty_ag_3, q1]
      exact hJ _ _ ⟨k + 1, A, c, hlt, (by simp only [push_cast, ↓reduceIte, Nat.reduceEqDiff, true_and, and_true, and_self, eq_self, fr]), kS, k6, k7, k9, by rw [hsu]; exact k10, by rw [hsu]; exact ho, mM, hK15⟩ (by rw [hmu]; simp only [push_cast, ↓reduceIte, Nat.reduceEqDiff, intOf, fr]; omega)
    simp (disch := first | with_reducible assumption | omega) only [push_cast, x_blk, x_cd, ↓reduceIte, Nat.reduceEqDiff, List.map_cons, List.map_nil, Int.reduceEq, Int.lt_irrefl, fr, k15.a1 ty_ag_3, k15.a0 ty_ag_3, q1, eq_self, kS.setA (wordsOf_words _) ty_ag_76 ty_sz_76]
    refine call_of (set_Has' s y.frm hyr.1.1 (by have := hyr.1.2; omega) w15) ?_
    rintro v w16 ⟨rfl, b16⟩
    have hz16 := b16.size
    replace kS := kS.below b16 kS.lt
    replace k6 := k6.below b16 k6.lt
    replace k7 := k7.below b16 k7.lt
    replace k9 := k9.below b16 k9.lt
    replace k10 := k10.below b16 k10.lt
    replace k15 := k15.below b16 k15.lt
    replace ho := ho.below b16 (Nat.le_refl _)
    replace mM := mM.below b16 mM.lt
    have hK16 := hK15.below b16 (Nat.le_refl _)
    by_cases q2 : y.frm ∈ s
    case neg =>
      rw [if_neg (fun hh => q2 hh.2.1)] at hsu
      simp (disch := first | with_reducible assumption | omega) only [push_cast, x_blk, x_cd, ↓reduceIte, Nat.reduceEqDiff, List.map_cons, List.map_nil, Int.reduceEq, Int.lt_irrefl, fr, decide_eq_false q2]
      exact hJ _ _ ⟨k + 1, A, c, hlt, (by simp only [push_cast, ↓reduceIte, Nat.reduceEqDiff, true_and, and_true, and_self, eq_self, fr]), kS, k6, k7, k9, by rw [hsu]; exact k10, by rw [hsu]; exact ho, mM, hK16⟩ (by rw [hmu]; simp only [push_cast, ↓reduceIte, Nat.reduceEqDiff, intOf, fr]; omega)
    simp (disch := first | with_reducible assumption | omega) only [push_cast, x_blk, x_cd, ↓reduceIte, Nat.reduceEqDiff, List.map_cons, List.map_nil, Int.reduceEq, Int.lt_irrefl, fr, decide_eq_true q2, k15.a2 ty_ag_3, k9.setA (wordsOf_words _) ty_ag_76 ty_sz_76]
    refine call_of (set_Has' T y.to_ hyr.2.1.1 (by have := hyr.2.1.2; omega) w16) ?_
    rintro v w17 ⟨rfl, b17⟩
    have hz17 := b17.size
    replace kS := kS.below b17 kS.lt
    replace k6 := k6.below b17 k6.lt
    replace k7 := k7.below b17 k7.lt
    replace k9 := k9.below b17 k9.lt
    replace k10 := k10.below b17 k10.lt
    replace k15 := k15.below b17 k15.lt
    replace ho := ho.below b17 (Nat.le_refl _)
    replace mM := mM.below b17 mM.lt
    have hK17 := hK16.below b17 (Nat.le_refl _)
    by_cases q3 : y.to_ ∈ T
    case neg =>
      rw [if_neg (fun hh => q3 hh.2.2)] at hsu
      simp (disch := first | with_reducible assumption | omega) only [push_cast, x_blk, x_cd, ↓reduceIte, Nat.reduceEqDiff, List.map_cons, List.map_nil, Int.reduceEq, Int.lt_irrefl, fr, decide_eq_false q3]
      exact hJ _ _ ⟨k + 1, A, c, hlt, (by simp only [push_cast, ↓reduceIte, Nat.reduceEqDiff, true_and, and_true, and_self, eq_self, fr]), kS, k6, k7, k9, by rw [hsu]; exact k10, by rw [hsu]; exact ho, mM, hK17⟩ (by rw [hmu]; simp only [push_cast, ↓reduceIte, Nat.reduceEqDiff, intOf, fr]; omega)
    rw [if_pos ⟨q1, q2, q3⟩] at hsu
    have l10 := k10.lt
    have l9 := k9.lt
    have l6 := k6.lt
    have l7 := k7.lt
    have lS := kS.lt
    simp (disch := first | with_reducible assumption | omega) only [push_cast, x_blk, x_cd, ↓reduceIte, Nat.reduceEqDiff, List.map_cons, List.map_nil, Int.reduceEq, Int.lt_irrefl, fr, decide_eq_true q3, k10.v2 ty_ag_22, k15.a0 ty_ag_3, bs_22]
    refine app_int slT_22 ho y.frm (by omega) (by omega) ?_
    intro A18 c18 w18 o18 g18 e18 hs18 z18
    have hgb := fun (x : Nat) (hx : x < g10 + 1) => (ho.ne_ltV hx)
    replace kS := kS.grown g18.by_ (hgb _ (by omega))
    replace k6 := k6.grown g18.by_ (hgb _ (by omega))
    replace k7 := k7.grown g18.by_ (hgb _ (by omega))
    replace k9 := k9.grown g18.by_ (hgb _ (by omega))
    replace k10 := k10.grown g18.by_ (hgb _ (by omega))
    replace mM := mM.grown g18.by_ (hgb _ (by omega))
    have hK18 := hK17.grew g18 (fun a ha => by have := ho.geB a ha; omega)
    simp (disch := first | with_reducible assumption | omega) only [push_cast, x_blk, x_cd, ↓reduceIte, Nat.reduceEqDiff, List.map_cons, List.map_nil, Int.reduceEq, Int.lt_irrefl, fr]
    refine sto_slice k10 (by kernel_rfl) 2 (by simp [MvH.cells]) A18 _ c18 ?_
    intro w19 k19 g19 z19
    have e19 : (MvH.cells ⟨0, e, A, c, movK p.m s T e k, 0⟩).set 2 (.slice A18 ((movK p.m s T e k).length + 1) c18) = MvH.cells ⟨0, e, A18, c18, movK p.m s T e (k + 1), 0⟩ := by rw [hsu]; simp [MvH.cells]
    rw [e19] at k19
    simp (disch := first | with_reducible assumption | omega) only [push_cast, x_blk, x_cd, ↓reduceIte, Nat.reduceEqDiff, List.map_cons, List.map_nil, Int.reduceEq, Int.lt_irrefl, fr]
    exact hJ _ _ ⟨k + 1, A18, c18, hlt, (by simp only [push_cast, ↓reduceIte, Nat.reduceEqDiff, true_and, and_true, and_self, eq_self, fr]), kS.grown g19.by_ (by simp; omega), k6.grown g19.by_ (by simp; omega), k7.grown g19.by_ (by simp; omega), k9.grown g19.by_ (by simp; omega), k19, by rw [hsu]; exact o18.grew g19 (.inr (fun h => o18.ne_ltV (Nat.lt_succ_self g10) h.symm)), mM.grown g19.by_ (by simp; omega), hK18.grew g19 (by intro a ha; injection ha with ha; subst ha; show w.heap.size ≤ g10; omega)⟩ (by rw [hmu]; simp only [push_cast, ↓reduceIte, Nat.reduceEqDiff, intOf, fr]; omega)
  obtain rfl : k = p.m.arrows.length := by omega
  have hst2 := hmov T
  have hlenS : (movK p.m s T e p.m.arrows.length).length ≤ 4096 := by have := movK_len p.m s T e p.m.arrows.length; omega
  rw [hst2] at k10 ho hlenS
  generalize hSt : stayL p.m T s e = St at *
  clear hmov hst2
  have bd2 : Below w13.heap.size w13 w13.drew := (Same.refl w13).drew.below _
  have hK14 := hK13.below bd2 (Nat.le_refl _)
  replace kS := kS.below bd2 kS.lt
  replace k6 := k6.below bd2 k6.lt
  replace k7 := k7.below bd2 k7.lt
  replace k9 := k9.below bd2 k9.lt
  replace k10 := k10.below bd2 k10.lt
  replace ho := ho.below bd2 (Nat.le_refl _)
  replace mM := mM.below bd2 mM.lt
  have kK14 := hK.keepM hK14 hKM
  simp (disch := first | with_reducible assumption | omega) only [push_cast, x_blk, x_cd, ↓reduceIte, Nat.reduceEqDiff, List.map_cons, List.map_nil, Int.reduceEq, Int.lt_irrefl, L_veil_keeper_move_0, fr, Nat.lt_irrefl]
  generalize hu14 : w13.drew = u14 at *
  have hz14 := hK14.size
  obtain ⟨S0, hS0⟩ : ∃ S0 : World → Prop, ∀ w'', S0 w'' ↔ (Blk w'' g10 56 (MvH.cells ⟨0, e, A, c, St, 0⟩) ∧ Blk w'' g9 76 (setCells (wordsOf T)) ∧ Blk w'' gK 108 (kpC a p A1 free c1 gM)) := ⟨_, fun _ => Iff.rfl⟩
  have hSu := (hS0 u14).2 ⟨k10, k9, kK14⟩
  refine ⟨S0, hSu, ?_⟩
  have q1 := fun {K : Fr → World → Prop} {f : Fr} {d : Option Nat} => valS_of (P := Tryd.prog) (S := S0) (K := K) (f := f) (d := d) (w := u14) (s := Instr.loadAt 56 (.pointer (some ⟨g10, 0, none⟩))) (fun w' hw => by rw [((hS0 w').1 hw).1.vA]) hSu
  have q2 := fun {K : Fr → World → Prop} {f : Fr} {d : Option Nat} => valS_of (P := Tryd.prog) (S := S0) (K := K) (f := f) (d := d) (w := u14) (s := Instr.loadAt 25 (.pointer (some ⟨gK, 0, none⟩))) (fun w' hw => by rw [((hS0 w').1 hw).2.2.kM0]) hSu
  have q3 := fun {K : Fr → World → Prop} {f : Fr} {d : Option Nat} => valS_of (P := Tryd.prog) (S := S0) (K := K) (f := f) (d := d) (w := u14) (s := Instr.loadAt 76 (.pointer (some ⟨g9, 0, none⟩))) (fun w' hw => by rw [((hS0 w').1 hw).2.1.setA (wordsOf_words _) ty_ag_76 ty_sz_76]) hSu
  have q4 := fun {K : Fr → World → Prop} {f : Fr} {d : Option Nat} => valS_of (P := Tryd.prog) (S := S0) (K := K) (f := f) (d := d) (w := u14) (s := Instr.loadAt 22 (.pointer (some ⟨gK, 5, none⟩))) (fun w' hw => by rw [((hS0 w').1 hw).2.2.kE]) hSu
  have q5 := fun {K : Fr → World → Prop} {f : Fr} {d : Option Nat} => valS_of (P := Tryd.prog) (S := S0) (K := K) (f := f) (d := d) (w := u14) (s := Instr.loadAt 22 (.pointer (some ⟨g10, 2, none⟩))) (fun w' hw => by rw [((hS0 w').1 hw).1.v2 ty_ag_22]) hSu
  have q6 := fun {K : Fr → World → Prop} {f : Fr} {d : Option Nat} => valS_of (P := Tryd.prog) (S := S0) (K := K) (f := f) (d := d) (w := u14) (v := .int .i64 St.length) (s := Builtin.len_ #[22] 3 #[.slice A St.length c]) (fun w' hw => by simp only [push_cast, ↓reduceIte]) hSu
  have q7 := fun {K : Fr → World → Prop} {f : Fr} {d : Option Nat} {xo yo : Operand} => valS_of (P := Tryd.prog) (S := S0) (K := K) (f := f) (d := d) (w := u14) (v := .bool (decide ((0 : Int) < (St.length : Int)))) (s := binS .gtr 3 xo yo (.int .i64 St.length) (.int .i64 0)) (fun w' hw => by rw [bin_gtr]; rfl) hSu
  simp (disch := first | with_reducible assumption | omega) only [push_cast, x_blk, x_cd, ↓reduceIte, Nat.reduceEqDiff, List.map_cons, List.map_nil, Int.reduceEq, Int.lt_irrefl, fr, q1, q2, q3, q4, q5, q6, q7]
  have ha14 := (ha.keepM hK14 hBM hBw).mono fun b hb => (Nat.lt_of_lt_of_le hb (by omega) : b < u14.heap.size)
  refine call_of (machine_Wide ha14.m hm (rT.small (by omega)) ha14.seen hf.lenP) ?_
  rintro v w15 ⟨rfl, b15⟩
  have S15 := (hS0 w15).2 ⟨k10.below b15 k10.lt, k9.below b15 k9.lt, kK14.below b15 kK14.lt⟩
  replace k6 := k6.below b15 k6.lt
  replace k7 := k7.below b15 k7.lt
  replace ho := ho.below b15 (Nat.le_refl _)
  replace mM := mM.below b15 mM.lt
  have hK15 := hK14.below b15 (Nat.le_refl _)
  have lK := hK.lt
  have S15' := (hS0 w15).1 S15
  simp (disch := first | with_reducible assumption | omega) only [push_cast, x_blk, x_cd, ↓reduceIte, Nat.reduceEqDiff, List.map_cons, List.map_nil, Int.reduceEq, Int.lt_irrefl, fr]
  refine ⟨S15, ?_⟩
  refine sto_blk k6 (cs := MvH.cells ⟨0, e, A, c, St, 0⟩) (e4_mv _) rfl (mv_one _) ?_
  intro w16 k6' g16 z16
  have S16 := (hS0 w16).2 ⟨S15'.1.grown g16.by_ (by simp; omega), S15'.2.1.grown g16.by_ (by simp; omega), S15'.2.2.grown g16.by_ (by simp; omega)⟩
  replace k7 := k7.grown g16.by_ (by simp; omega)
  replace ho := ho.grew g16 (.inr (fun h => ho.ne_ltV (show w1.heap.size < g10 + 1 by omega) h.symm))
  replace mM := mM.grown g16.by_ (by simp; omega)
  have hK16 := hK15.grew g16 (by intro a ha; injection ha with ha; subst ha; show w.heap.size ≤ w1.heap.size; omega)
  simp (disch := first | with_reducible assumption | omega) only [push_cast, x_blk, x_cd, ↓reduceIte, Nat.reduceEqDiff, List.map_cons, List.map_nil, Int.reduceEq, Int.lt_irrefl, fr]
  refine ⟨S16, ?_⟩
  refine sto_blk k7 (cs := setCells (wordsOf (wideL p.m p.seen T))) (e4_set _) (by rw [setCells_4, setCells_4]) (setCells_one _) ?_
  intro w17 k7' g17 z17
  have S16' := (hS0 w16).1 S16
  have S17 := (hS0 w17).2 ⟨S16'.1.grown g17.by_ (by simp; omega), S16'.2.1.grown g17.by_ (by simp; omega), S16'.2.2.grown g17.by_ (by simp; omega)⟩
  replace k6' := k6'.grown g17.by_ (by simp; omega)
  replace ho := ho.grew g17 (.inr (fun h => ho.ne_ltV (show w2.heap.size < g10 + 1 by omega) h.symm))
  replace mM := mM.grown g17.by_ (by simp; omega)
  have hK17 := hK16.grew g17 (by intro a ha; injection ha with ha; subst ha; show w.heap.size ≤ w2.heap.size; omega)
  simp (disch := first | with_reducible assumption | omega) only [push_cast, x_blk, x_cd, ↓reduceIte, Nat.reduceEqDiff, List.map_cons, List.map_nil, Int.reduceEq, Int.lt_irrefl, fr]
  refine ⟨S17, ?_⟩
  have hdec : decide ((0 : Int) < (St.length : Int)) = decide (0 < St.length) := decide_eq_decide.2 (by omega)
  exact fin_cct k6' ty_ag_56 (e4_mv _) k7' ty_ag_76 (e4_set _) (by simp only [push_cast, ↓reduceIte, Nat.reduceEqDiff, Int.reduceEq, fr]) (by simp only [push_cast, ↓reduceIte, Nat.reduceEqDiff, Int.reduceEq, fr]) (hQ _ _ ⟨A, c, (by simp only [push_cast, ↓reduceIte, Nat.reduceEqDiff, Int.reduceEq, fr, hdec]), ho.base (by omega), ⟨⟨χ, hχ, mM⟩, hK17⟩, hT.keepM hM hK17⟩)
end Go.Proofs.YtcjedgiglimipaaDoor
