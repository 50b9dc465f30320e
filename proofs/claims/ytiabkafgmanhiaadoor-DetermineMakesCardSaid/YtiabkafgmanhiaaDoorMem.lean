/-
  Laws of the executor for what makes or writes memory: new blocks, appends to rows of one's own, stores. No program in sight.
-/
import Derived.Test.YtiabkafgmanhiaaDoorData
import Derived.Maps.AppendAt
import Derived.Laws.OwnMore
import Derived.OwnWalk
namespace Go.Proofs.YtiabkafgmanhiaaDoor
set_option linter.unusedSimpArgs false
set_option linter.unusedVariables false
set_option linter.unusedSectionVars false
open Go.RowKit

/-! ## Slice types -/
structure SlT (P : Program) (t e sz bytes : Nat) : Prop where
  under : P.underlying t = some (.slice e)
  info : (P.info? e).map (fun i => (i.zero.map (·.cells.size), i.size, i.bytes)) = some (some sz, sz, bytes)
  pos : 0 < sz
theorem SlT.get {P : Program} {t e sz bytes : Nat} (h : SlT P t e sz bytes) : ∃ i z, P.info? e = some i ∧ i.zero = some z ∧ i.size = sz ∧ i.bytes = bytes ∧ z.cells.size = sz := by
  have := h.info
  cases hi : P.info? e with
  | none => simp [hi] at this
  | some i =>
    simp only [hi, Option.map_some, Option.some.injEq, Prod.mk.injEq] at this
    obtain ⟨hz, hs, hb⟩ := this
    cases hz' : i.zero with
    | none => simp [hz'] at hz
    | some z => exact ⟨i, z, rfl, hz', hs, hb, by simpa [hz'] using hz⟩

/-! ## Blocks -/
theorem addr_add (g j k : Nat) : (⟨g, j, none⟩ : Addr).add k = ⟨g, j + k, none⟩ := by
  unfold Addr.add; split <;> simp_all
theorem eA_zero (g k : Nat) : eA (some ⟨g, 0, none⟩) k = ⟨g, k, none⟩ := by rw [eA_some, addr_add, Nat.zero_add]

def Blk (w : World) (g : Nat) (t : TypeId) (cs : List Value) : Prop := w.heap[g]? = some (.cells cs.toArray t (0, 0))
section
variable {P : Program} {K : Fr → World → Prop} {w w' u : World} {g : Nat} {t : TypeId} {cs : List Value} {f : Fr} {d : Option Nat}
theorem Blk.lt (h : Blk w g t cs) : g < w.heap.size := by
  rcases Nat.lt_or_ge g w.heap.size with hlt | hge
  · exact hlt
  · unfold Blk at h; rw [Array.getElem?_eq_none hge] at h; cases h
theorem Blk.cell (h : Blk w g t cs) (i : Nat) : w.cell? ⟨g, i, none⟩ = cs[i]? := by rw [cell_of_row w g i cs.toArray t (0, 0) h]; simp
theorem Blk.frozen (h : Blk w g t cs) (i : Nat) : w.frozen? ⟨g, i, none⟩ = false := frozen_of_row w g i cs.toArray t h
theorem Blk.new (w : World) (t : TypeId) (cs : List Value) : Blk (w.alloc (.cells cs.toArray t)) w.heap.size t cs := heap_alloc_new w _
theorem Blk.keep (h : Blk w g t cs) (hk : w'.heap[g]? = w.heap[g]?) : Blk w' g t cs := hk.trans h
theorem Blk.same (h : Blk w g t cs) (hk : Same w w') : Blk w' g t cs := h.keep (by rw [hk.heap])
theorem Blk.drew (h : Blk w g t cs) : Blk w.drew g t cs := h
theorem Blk.alloc (h : Blk w g t cs) (o : Obj) : Blk (w.alloc o) g t cs := (Below.heap_alloc w o g h.lt).trans h
theorem Blk.set (h : Blk w g t cs) (i : Nat) (v : Value) : Blk (w.setCell ⟨g, i, none⟩ v) g t (cs.set i v) := by
  unfold Blk at h ⊢
  simp [World.setCell, Array.getElem?_modify, h]
theorem Blk.far (h : Blk w g t cs) {p : Addr} (hp : g ≠ p.block) (v : Value) : Blk (w.setCell p v) g t cs := (Below.heap_setCell w p v g hp).trans h
theorem Blk.below {B : Nat} (h : Blk w g t cs) (hb : Below B w w') (hg : g < B) : Blk w' g t cs := (hb.block g hg).trans h
theorem Blk.grown {row : Option Nat} (h : Blk w g t cs) (hb : w.grownBy w' row) (hg : some g ≠ row) : Blk w' g t cs := (hb.block g h.lt hg).trans h
theorem Blk.ld (h : Blk u g t cs) {ty : TypeId} (ht : tyAgg P ty = some false) (j : Nat) (hj : j < cs.length) :
    Val1 P K (Instr.loadAt ty (.pointer (some ⟨g, j, none⟩))) u f d w = K (updO f d (cs.getD j undef)) w :=
  load_one_of u f d w ht (by rw [h.cell]; simp [hj])
theorem load_agg_of {ty : TypeId} (h : tyAgg P ty = some true) {n : Nat} (hs : tySize P ty = some n) {a : Addr} {vs : List Value} (hl : vs.length = n) (hc : ∀ j v, vs[j]? = some v → u.cell? (a.add j) = some v) :
    Val1 P K (Instr.loadAt ty (.pointer (some a))) u f d w = K (updO f d (.agg vs.toArray)) w :=
  val1_of u f d w fun w' hw' => by
    unfold tyAgg at h
    unfold tySize at hs
    cases hu : P.underlying ty with
    | none => simp [hu] at h
    | some de =>
      cases hi : P.info? ty with
      | none => simp [hi] at hs
      | some ie =>
        simp only [hi, Option.map_some, Option.some.injEq] at hs
        simp only [hu, Option.map_some, Option.some.injEq] at h
        have hr := run_loadCells_list (P := P) w' a vs (fun j v hv => below_cell hw' (hc j v hv))
        cases de <;> simp at h <;> simp [Instr.loadAt, Instr.sureAddr, loadVar, isAgg, run_underlying hu, sizeOf, typeInfo, hi, hs, ← hl, hr]
/-- A whole variable of several cells. -/
theorem Blk.ldAll (h : Blk u g t cs) {ty : TypeId} (ht : tyAgg P ty = some true) (hs : tySize P ty = some cs.length) :
    Val1 P K (Instr.loadAt ty (.pointer (some ⟨g, 0, none⟩))) u f d w = K (updO f d (.agg cs.toArray)) w :=
  load_agg_of ht hs rfl fun j v hv => by rw [addr_add, Nat.zero_add, h.cell, hv]
end

/-! ## New blocks -/
section
variable {P : Program} {K : Fr → World → Prop} {f : Fr} {d : Option Nat} {w : World}
theorem eff1_of {s : Sem Value} {v : Value} {w' : World} (h : s.run P w = .ok v w') : Eff1 P K s f d w = K (updO f d v) w' :=
  propext ⟨fun ⟨v', w2, hv, hk⟩ => by rw [h] at hv; cases hv; exact hk, fun hk => ⟨v, w', h, hk⟩⟩
section
variable (ty : TypeId)
theorem e_box (t : TypeId) (o : Operand) : EffX P K (.box t o) ty f d w = Eff1 P K (Instr.box t (ev f o)) f d w := propext Iff.rfl
theorem e_alloc (t : TypeId) : EffX P K (.alloc t) ty f d w = Eff1 P K (Instr.alloc t true (.tuple #[])) f d w := propext Iff.rfl
theorem e_store (t : TypeId) (a v : Operand) : EffX P K (.store t a v) ty f d w = Eff1 P K (do Instr.storeAt t (ev f a) (ev f v); pure undef) f d w := propext Iff.rfl
theorem e_bsl0 (t : TypeId) : EffX P K (.buildSlice t 0 #[]) ty f d w = Eff1 P K (Instr.buildSlice t 0 #[]) f d w := by simp [EffX, valOf]
theorem e_bsl1 (t : TypeId) (o : Operand) : EffX P K (.buildSlice t 1 #[(0, o)]) ty f d w = Eff1 P K (Instr.buildSlice t 1 #[(0, ev f o)]) f d w := by simp [EffX, valOf]
theorem e_bsl2 (t : TypeId) (o p : Operand) : EffX P K (.buildSlice t 2 #[(0, o), (1, p)]) ty f d w = Eff1 P K (Instr.buildSlice t 2 #[(0, ev f o), (1, ev f p)]) f d w := by simp [EffX, valOf]
theorem e_bsl3 (t : TypeId) (o p q : Operand) : EffX P K (.buildSlice t 3 #[(0, o), (1, p), (2, q)]) ty f d w = Eff1 P K (Instr.buildSlice t 3 #[(0, ev f o), (1, ev f p), (2, ev f q)]) f d w := by simp [EffX, valOf]
theorem e_app (t t' : TypeId) (o p : Operand) : EffX P K (.call ⟨.builtin .append, #[o, p], #[t, t']⟩) ty f d w = Eff1 P K (Builtin.append_ #[t, t'] ty #[ev f o, ev f p]) f d w := by simp [EffX, valOf]
end
theorem box_eq (t : TypeId) (v : Value) : Eff1 P K (Instr.box t v) f d w = K (updO f d (.pointer (some ⟨w.heap.size, 0, none⟩))) (w.alloc (.cells v.cells t)) :=
  eff1_of (by simp [Instr.box, newVar, newRow])
theorem cells_agg (l : List Value) : (Value.agg l.toArray).cells = l.toArray := rfl
theorem alloc_eq (t : TypeId) (z : Value) (h : (P.info? t).map (·.zero) = some (some z)) : Eff1 P K (Instr.alloc t true (.tuple #[])) f d w = K (updO f d (.pointer (some ⟨w.heap.size, 0, none⟩))) (w.alloc (.cells z.cells t)) :=
  eff1_of (by
    cases hi : P.info? t with
    | none => simp [hi] at h
    | some i =>
      simp only [hi, Option.map_some, Option.some.injEq] at h
      simp [Instr.alloc, zeroValue, typeInfo, hi, h, newVar, newRow])

theorem foldl_set (l : List Value) : ∀ (k : Nat) (acc : Array Value), k + l.length = acc.size →
    ((l.zipIdx k).foldl (fun cs (p : Value × Nat) => cs.setIfInBounds (0 + p.2) p.1) acc).toList = acc.toList.take k ++ l := by
  induction l with
  | nil => intro k acc h; simp at h; subst h; simp [List.take_of_length_le]
  | cons v l ih =>
    intro k acc h
    simp only [List.zipIdx_cons, List.foldl_cons, Nat.zero_add]
    simp only [List.length_cons] at h
    have := ih (k + 1) (acc.setIfInBounds k v) (by simp; omega)
    simp only [Nat.zero_add] at this
    rw [this]
    have hk : k < acc.toList.length := by simp; omega
    rw [Array.toList_setIfInBounds, List.take_succ_eq_append_getElem (by simpa using hk)]
    simp [List.take_set_of_le]
theorem fill_one (size : Nat) (zs : Array Value) (v : Value) (h1 : zs.size = size) (h2 : v.cells.size = size) : Instr.fill (fun i => some (i * size, size)) zs [(0, v)] = some v.cells := by
  simp only [Instr.fill, Nat.zero_mul, Nat.zero_add, h1, h2, Nat.lt_irrefl, ne_eq, not_true_eq_false, decide_false, Bool.or_self, Bool.false_eq_true, if_false, gt_iff_lt, or_self]
  congr 1
  apply Array.ext'
  have := foldl_set v.cells.toList 0 zs (by simp [h1, h2])
  simp only [Nat.zero_add, List.take_zero, List.nil_append] at this
  rw [← Array.foldl_toList]
  simpa [Array.toList_zipIdx] using this
theorem bsl1_eq {t e sz bytes : Nat} (hT : SlT P t e sz bytes) (v : Value) (hv : v.cells.size = sz) (hsz : sz ≤ 1000) :
    Eff1 P K (Instr.buildSlice t 1 #[(0, v)]) f d w = K (updO f d (.slice (some ⟨w.heap.size, 0, none⟩) 1 1)) (w.alloc (.cells v.cells e)) := by
  obtain ⟨i, z, hi, hz, hs, hb, hc⟩ := hT.get
  have hp := hT.pos
  refine eff1_of ?_
  have hf := fill_one sz ((Array.range (1 * sz)).map (z.cells[· % z.cells.size]!)) v (by simp) hv
  simp only [Nat.one_mul] at hf
  have h0 : sz ≠ 0 := by omega
  simp only [Instr.buildSlice, run_underlying hT.under, sizeOf, typeInfo, Sem.run_bind, Result.andThen_ok]
  simp [hi, hs, zeroValue, typeInfo, hz, h0, newRow, show ¬ 2 ^ 24 < sz by omega, hf]
theorem bsl0_eq {t e sz bytes : Nat} (hT : SlT P t e sz bytes) :
    Eff1 P K (Instr.buildSlice t 0 #[]) f d w = K (updO f d (.slice (some ⟨w.heap.size, 0, none⟩) 0 0)) (w.alloc (.cells #[] e)) := by
  obtain ⟨i, z, hi, hz, hs, hb, hc⟩ := hT.get
  refine eff1_of ?_
  simp [Instr.buildSlice, run_underlying hT.under, sizeOf, typeInfo, hi, Instr.fill, newRow, show (Array.range 0) = #[] from rfl]
end

/-! ## Rows of one's own -/
/-- The cells that a slice shows. -/
structure Rd (w : World) (A : Option Addr) (xs : List Value) : Prop where
  isSome : 0 < xs.length → A.isSome = true
  cell : ∀ j v, xs[j]? = some v → w.cell? (eA A j) = some v
theorem Rd.nil (w : World) (A : Option Addr) : Rd w A [] := ⟨fun h => absurd h (by simp), fun j v h => by simp at h⟩

structure Own (B e sz : Nat) (w : World) (A : Option Addr) (c n : Nat) (xs : List Value) : Prop where
  own : w.ownsRow B e sz (.slice A n c) n xs
structure Grew (w w' : World) (A : Option Addr) : Prop where
  by_ : w.grownBy w' (A.map (·.block))
section
variable {B e sz : Nat} {w w' : World} {A : Option Addr} {c n : Nat} {xs : List Value}
theorem Own.nil (B e sz : Nat) (w : World) : Own B e sz w none 0 0 [] := ⟨World.ownsRow_nil _ _ _ _⟩
theorem Own.form (h : Own B e sz w A c n xs) : (A = none ∧ n = 0 ∧ c = 0 ∧ xs = []) ∨ ∃ g, A = some ⟨g, 0, none⟩ ∧ B ≤ g ∧ g < w.heap.size := by
  obtain ⟨hl, hh⟩ := h.own
  rcases hh with ⟨h1, h2⟩ | ⟨g, cap, cur, h1, hb, hg, _⟩
  · injection h1 with h3 h4 h5
    subst h2
    exact .inl ⟨h3, rfl, h5, List.eq_nil_of_length_eq_zero (by simpa using hl)⟩
  · injection h1 with h3 h4 h5
    exact .inr ⟨g, h3, hb, (Array.getElem?_eq_some_iff.1 hg).1⟩
theorem Own.length (h : Own B e sz w A c n xs) : xs.length = n * sz := h.own.1
theorem Own.isSome (h : Own B e sz w A c n xs) (hn : 0 < n) : A.isSome = true := by
  rcases h.form with ⟨_, h2, _⟩ | ⟨g, rfl, _⟩
  · omega
  · rfl
theorem Own.block (h : Own B e sz w A c n xs) (hn : A.isSome = true) : B ≤ (A.getD default).block ∧ (A.getD default).block < w.heap.size := by
  rcases h.form with ⟨rfl, _⟩ | ⟨g, rfl, h1, h2⟩
  · cases hn
  · exact ⟨h1, h2⟩
theorem Own.rd (h : Own B e sz w A c n xs) (_hs : 0 < sz) : Rd w A xs := by
  refine ⟨fun hl => h.isSome (by have := h.length; rcases Nat.eq_zero_or_pos n with h0 | h0; · subst h0; omega
                                 · exact h0), fun j v hv => ?_⟩
  rcases h.form with ⟨_, _, _, rfl⟩ | ⟨g, rfl, _, _⟩
  · simp at hv
  · rw [eA_zero]
    have := h.own.cells (g := g) rfl j v hv
    rwa [addr_add, Nat.zero_add] at this
theorem Own.grew (h : Own B e sz w A c n xs) {A2 : Option Addr} (hg : Grew w w' A2) (hne : A = none ∨ A.map (·.block) ≠ A2.map (·.block)) : Own B e sz w' A c n xs :=
  ⟨h.own.kept hg.by_ (by cases A <;> simp_all [Value.ownBlock])⟩
theorem Own.alloc (h : Own B e sz w A c n xs) (o : Obj) : Own B e sz (w.alloc o) A c n xs := ⟨h.own.alloc o⟩
theorem Own.same (h : Own B e sz w A c n xs) (hs : Same w w') : Own B e sz w' A c n xs := by
  obtain ⟨h1, h2⟩ := h.own
  refine ⟨h1, ?_⟩
  rcases h2 with h2 | ⟨g, cap, cur, hv, hb, hg, r⟩
  · exact .inl h2
  · exact .inr ⟨g, cap, cur, hv, hb, by rw [hs.heap]; exact hg, r⟩
theorem Own.keep (h : Own B e sz w A c n xs) (hk : ∀ g, A.map (·.block) = some g → w'.heap[g]? = w.heap[g]?) : Own B e sz w' A c n xs := by
  obtain ⟨h1, h2⟩ := h.own
  refine ⟨h1, ?_⟩
  rcases h2 with h2 | ⟨g, cap, cur, hv, hb, hg, r⟩
  · exact .inl h2
  · injection hv with h3 h4 h5
    exact .inr ⟨g, cap, cur, by rw [h3, h5], hb, by rw [hk g (by rw [h3]; rfl)]; exact hg, r⟩
theorem Own.below {B' : Nat} (h : Own B e sz w A c n xs) (hb : Below B' w w') (hB : w.heap.size ≤ B') : Own B e sz w' A c n xs :=
  h.keep fun g hg => hb.block g (by
    rcases h.form with ⟨rfl, _⟩ | ⟨g', rfl, _, h2⟩
    · cases hg
    · injection hg with hg; simp at hg; omega)
theorem Own.base {B' : Nat} (h : Own B e sz w A c n xs) (hB : B' ≤ B) : Own B' e sz w A c n xs := by
  obtain ⟨h1, h2⟩ := h.own
  refine ⟨h1, ?_⟩
  rcases h2 with h2 | ⟨g, cap, cur, hv, hb, r⟩
  · exact .inl h2
  · exact .inr ⟨g, cap, cur, hv, by omega, r⟩
theorem Own.ne_blk {g : Nat} {t : TypeId} {cs : List Value} (h : Own B e sz w A c n xs) (hg : Blk w g t cs) (hne : e ≠ t) : A.map (·.block) ≠ some g := by
  obtain ⟨_, h2⟩ := h.own
  rcases h2 with ⟨h2, _⟩ | ⟨g', cap, cur, hv, hb, hh, r⟩
  · injection h2 with h3; subst h3; simp
  · injection hv with h3
    subst h3
    simp only [Option.map_some, ne_eq, Option.some.injEq]
    rintro rfl
    unfold Blk at hg
    rw [hh] at hg
    injection hg with hg
    injection hg with _ ht
    exact hne ht
theorem Grew.below {B' : Nat} {w0 : World} (hg : Grew w w' A) (hb : Below B' w0 w) (hB : B' ≤ w.heap.size) (hA : ∀ a, A = some a → B' ≤ a.block) : Below B' w0 w' :=
  hb.grown hg.by_ hB (fun k hk => by cases A with
    | none => cases hk
    | some a => injection hk with hk; have := hA a rfl; simp at hk; omega)
theorem Own.geB (h : Own B e sz w A c n xs) : ∀ a, A = some a → B ≤ a.block := by
  rintro a rfl
  rcases h.form with ⟨h0, _⟩ | ⟨g, h0, hb, _⟩
  · cases h0
  · injection h0 with h0; subst h0; exact hb
end

/-! ## append -/
section
variable {P : Program} {K : Fr → World → Prop} {f : Fr} {d : Option Nat} {w : World} {B e sz bytes t : Nat} {A A2 : Option Addr} {c n m c2 : Nat} {xs news : List Value}
theorem append_own (hT : SlT P t e sz bytes) (ty : TypeId) (h : Own B e sz w A c n xs) (hs : Rd w A2 news) (hl : news.length = m * sz) (h1 : ∀ u ∈ news, u.oneCell' = true)
    (hb : (n + m) * bytes ≤ 140737488355328) (h63 : n + m ≤ 9223372036854775807) (hB : B ≤ w.heap.size)
    (hk : ∀ A' c' w', Own B e sz w' A' c' (n + m) (xs ++ news) → Grew w w' A → (A'.map (·.block) = A.map (·.block) ∨ A'.map (·.block) = some w.heap.size) → (0 < m → A'.isSome = true) → w.heap.size ≤ w'.heap.size → K (updO f d (.slice A' (n + m) c')) w') :
    Eff1 P K (Builtin.append_ #[t, t] ty #[.slice A n c, .slice A2 m c2]) f d w := by
  obtain ⟨i, z, hi, hz, hsz, hby, hc⟩ := hT.get
  have hp := hT.pos
  have h63' : n + m ≤ maxLen := by unfold maxLen; omega
  have fin : ∀ v' w', (Builtin.append_ #[t, t] ty #[.slice A n c, .slice A2 m c2]).run P w = .ok v' w' → w'.ownsRow B e sz v' (n + m) (xs ++ news) → w.grownBy w' (Value.ownBlock (.slice A n c)) →
      (v'.ownBlock = Value.ownBlock (.slice A n c) ∨ v'.ownBlock = some w.heap.size) → Eff1 P K (Builtin.append_ #[t, t] ty #[.slice A n c, .slice A2 m c2]) f d w := by
    intro v' w' hr ho hg ha
    have hob : Value.ownBlock (.slice A n c) = A.map (·.block) := by cases A <;> rfl
    rw [hob] at hg ha
    rcases ho.2 with ⟨rfl, h0⟩ | ⟨g, cap, cur, rfl, hb2, hg2, hr2⟩
    · refine ⟨_, w', hr, ?_⟩
      have := hk none 0 w' ⟨by rw [h0]; rw [h0] at ho; exact ho⟩ ⟨hg⟩ ha (fun hm => by omega) hg.size
      rwa [h0] at this
    · exact ⟨_, w', hr, hk _ cap w' ⟨ho⟩ ⟨hg⟩ ha (fun _ => rfl) hg.size⟩
  cases hA2 : A2 with
  | some ad =>
    subst hA2
    obtain ⟨v', w', hr, ho, hg, _, ha⟩ := run_append_own_at (P := P) w B t ty e i z sz bytes hT.under hi hz hsz hby hc hp (.slice A n c) n xs h.own ad m c2 news hl (fun j u hu => hs.cell j u hu) h1 h63' hb hB
    exact fin v' w' hr ho hg ha
  | none =>
    subst hA2
    have hm : news = [] := by
      cases hn : news with
      | nil => rfl
      | cons a l => have := hs.isSome (by rw [hn]; simp); cases this
    subst hm
    have hm0 : m = 0 := by
      rcases Nat.eq_zero_or_pos m with h0 | h0
      · exact h0
      · have := Nat.mul_pos h0 hp; simp only [List.length_nil] at hl; omega
    subst hm0
    have hr : (Builtin.append_ #[t, t] ty #[.slice A n c, .slice none 0 c2]).run P w = .ok (.slice A n c) w := by
      rcases h.form with ⟨rfl, rfl, rfl, rfl⟩ | ⟨g, rfl, _, _⟩
      · simp [Builtin.append_, run_underlying hT.under, sizeOf, typeInfo, hi, Builtin.lenOf, Builtin.firstCells]
      · have hnc : n ≤ c := by
          rcases h.own.2 with ⟨h2, _⟩ | ⟨g', cap, cur, hv, hb2, hh, hnc, _⟩
          · cases h2
          · injection hv with _ _ h5; omega
        simp [Builtin.append_, run_underlying hT.under, sizeOf, typeInfo, hi, Builtin.lenOf, Builtin.firstCells, hnc, storeCells]
    exact fin _ w hr (by simpa using h.own) (World.grownBy.refl w _) (.inl rfl)
/-- A slice of several elements that has just been laid. -/
theorem rd_new (w : World) (cs : List Value) (e : TypeId) : Rd (w.alloc (.cells cs.toArray e)) (some ⟨w.heap.size, 0, none⟩) cs :=
  ⟨fun _ => rfl, fun j v hv => by rw [eA_zero, (Blk.new w e cs).cell, hv]⟩
end
attribute [push_cast] e_box e_alloc e_store e_bsl0 e_bsl1 e_bsl2 e_bsl3 e_app addr_add
end Go.Proofs.YtiabkafgmanhiaaDoor
