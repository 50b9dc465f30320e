/-
  Rows of records (elements of several cells): read, appended to; variables of several cells read in part; built values. No program in sight.
-/
import Derived.Test.YtiabkafgmanhiaaDoorBits
import Derived.Laws.Tables
namespace Go.Proofs.YtiabkafgmanhiaaDoor
set_option linter.unusedSimpArgs false
set_option linter.unusedVariables false
set_option linter.unusedSectionVars false
open Go.RowKit

/-- How an element lies in its cells. -/
structure Enc {α : Type} (enc : α → List Value) (sz : Nat) : Prop where
  len : ∀ a, (enc a).length = sz
  one : ∀ a, ∀ u ∈ enc a, u.oneCell' = true
theorem flatMap_at {α : Type} {enc : α → List Value} {sz : Nat} (E : Enc enc sz) : ∀ (l : List α) (i : Nat) (a : α) (j : Nat), l[i]? = some a → j < sz → (l.flatMap enc)[i * sz + j]? = (enc a)[j]?
  | [], i, a, j, h, _ => by simp at h
  | b :: l, 0, a, j, h, hj => by
    simp only [List.getElem?_cons_zero, Option.some.injEq] at h
    subst h
    rw [List.flatMap_cons, Nat.zero_mul, Nat.zero_add, List.getElem?_append_left (by rw [E.len]; exact hj)]
  | b :: l, i + 1, a, j, h, hj => by
    simp only [List.getElem?_cons_succ] at h
    rw [List.flatMap_cons, List.getElem?_append_right (by rw [E.len, Nat.succ_mul]; omega), E.len, show (i + 1) * sz + j - sz = i * sz + j by rw [Nat.succ_mul]; omega]
    exact flatMap_at E l i a j h hj
theorem flatMap_len {α : Type} {enc : α → List Value} {sz : Nat} (E : Enc enc sz) : ∀ l : List α, (l.flatMap enc).length = l.length * sz
  | [] => by simp
  | b :: l => by rw [List.flatMap_cons, List.length_append, E.len, flatMap_len E l, List.length_cons, Nat.succ_mul]; omega

/-- A row of records that can be read in 'w'. -/
structure Recs {α : Type} (enc : α → List Value) (sz : Nat) (ok : Nat → Prop) (w : World) (A : Option Addr) (l : List α) : Prop where
  isSome : 0 < l.length → A.isSome = true
  block : 0 < l.length → ok (A.getD default).block
  cell : ∀ i a, l[i]? = some a → ∀ j v, (enc a)[j]? = some v → w.cell? (eA A (i * sz + j)) = some v
abbrev OwnR {α : Type} (enc : α → List Value) (B e sz : Nat) (w : World) (A : Option Addr) (c : Nat) (l : List α) : Prop := Own B e sz w A c l.length (l.flatMap enc)
section
variable {α : Type} {enc : α → List Value} {sz : Nat} {P : Program} {K : Fr → World → Prop} {u w w' : World} {f : Fr} {d : Option Nat} {ok ok' : Nat → Prop} {A : Option Addr} {l : List α} {B e bytes t ty c : Nat}
theorem Recs.nil (ok : Nat → Prop) (w : World) (A : Option Addr) : Recs enc sz ok w A [] := ⟨fun h => absurd h (by simp), fun h => absurd h (by simp), fun i a h => by simp at h⟩
theorem Recs.mono (h : Recs enc sz ok u A l) (hk : ∀ b, ok b → ok' b) : Recs enc sz ok' u A l := ⟨h.isSome, fun hl => hk _ (h.block hl), h.cell⟩
theorem Recs.keep (h : Recs enc sz ok u A l) (hk : ∀ b, ok b → w.heap[b]? = u.heap[b]?) : Recs enc sz ok w A l :=
  ⟨h.isSome, h.block, fun i a hi j v hv => by
    rw [← h.cell i a hi j v hv]
    exact World.cell?_of_block (by rw [eA_block]; exact hk _ (h.block (by rcases Nat.lt_or_ge i l.length with h1 | h1; omega; rw [List.getElem?_eq_none h1] at hi; cases hi)))⟩
theorem Recs.below (h : Recs enc sz (· < B) u A l) (hb : Below B u w) : Recs enc sz (· < B) w A l := h.keep fun b hlt => hb.block b hlt
theorem Recs.same (h : Recs enc sz ok u A l) (k : Same u w) : Recs enc sz ok w A l := h.keep fun b _ => by rw [k.heap]
theorem OwnR.recs (h : OwnR enc B e sz w A c l) (E : Enc enc sz) (hs : 0 < sz) : Recs enc sz (fun b => B ≤ b ∧ A.map (·.block) = some b) w A l := by
  have hr := h.rd hs
  refine ⟨fun hl => h.isSome hl, fun hl => ?_, fun i a hi j v hv => ?_⟩
  · have hA := h.isSome hl
    refine ⟨(h.block hA).1, ?_⟩
    cases A with
    | none => cases hA
    | some a => rfl
  · refine hr.cell _ v ?_
    have hj : j < sz := by
      rcases Nat.lt_or_ge j sz with h1 | h1
      · exact h1
      · rw [List.getElem?_eq_none (by rw [E.len]; exact h1)] at hv; cases hv
    rw [flatMap_at E l i a j hi hj, hv]
theorem Recs.ld (h : Recs enc sz ok u A l) (ht : tyAgg P ty = some false) {i : Nat} {a : α} (hi : l[i]? = some a) {j : Nat} {v : Value} (hv : (enc a)[j]? = some v) :
    Val1 P K (Instr.loadAt ty (.pointer (some (eA A (i * sz + j))))) u f d w = K (updO f d v) w := load_one_of u f d w ht (h.cell i a hi j v hv)
theorem Recs.ld0 (h : Recs enc sz ok u A l) (ht : tyAgg P ty = some false) {i : Nat} {a : α} (hi : l[i]? = some a) {v : Value} (hv : (enc a)[0]? = some v) :
    Val1 P K (Instr.loadAt ty (.pointer (some (eA A (i * sz))))) u f d w = K (updO f d v) w := h.ld ht hi (j := 0) hv
/-- a part of an element -/
theorem Recs.ldA (h : Recs enc sz ok u A l) (ht : tyAgg P ty = some true) {i : Nat} {a : α} (hi : l[i]? = some a) (j : Nat) {vs : List Value} (hs : tySize P ty = some vs.length) (hv : ∀ k v, vs[k]? = some v → (enc a)[j + k]? = some v) :
    Val1 P K (Instr.loadAt ty (.pointer (some (eA A (i * sz + j))))) u f d w = K (updO f d (.agg vs.toArray)) w :=
  load_agg_of ht hs rfl fun k v hk => by
    have := h.cell i a hi (j + k) v (hv k v hk)
    cases A with
    | none =>
      have hA := h.isSome (by rcases Nat.lt_or_ge i l.length with h1 | h1; omega; rw [List.getElem?_eq_none h1] at hi; cases hi)
      cases hA
    | some ad => rw [eA_some] at this ⊢; rw [add_add, Nat.add_assoc, this]
theorem Recs.ldAll (h : Recs enc sz ok u A l) (E : Enc enc sz) (ht : tyAgg P ty = some true) {i : Nat} {a : α} (hi : l[i]? = some a) (hs : tySize P ty = some sz) :
    Val1 P K (Instr.loadAt ty (.pointer (some (eA A (i * sz))))) u f d w = K (updO f d (.agg (enc a).toArray)) w :=
  h.ldA ht hi 0 (by rw [E.len]; exact hs) fun k v hk => by rwa [Nat.zero_add]
/-- append(x, v) -/
theorem app_rec (E : Enc enc sz) (hT : SlT P t e sz bytes) (hown : OwnR enc B e sz w A c l) (x : α) (hl : (l.length + 1) * bytes ≤ 140737488355328) (h63 : l.length + 1 ≤ 9223372036854775807) (hB : B ≤ w.heap.size)
    (hk : ∀ A' c' w', OwnR enc B e sz w' A' c' (l ++ [x]) → Grew w w' A → (A'.map (·.block) = A.map (·.block) ∨ ∃ g, A'.map (·.block) = some g ∧ w.heap.size ≤ g) → A'.isSome = true → w.heap.size ≤ w'.heap.size → K (updO f d (.slice A' (l.length + 1) c')) w') :
    Eff1 P K (Builtin.append_ #[t, t] ty #[.slice A l.length c, .slice (some ⟨w.heap.size, 0, none⟩) 1 1]) f d (w.alloc (.cells (enc x).toArray e)) := by
  refine append_own hT ty (hown.alloc _) (rd_new w (enc x) e) (by rw [E.len, Nat.one_mul]) (E.one x) hl h63 (by simp; omega) ?_
  intro A' c' w' ho hg hA hs hz
  have hz' : w.heap.size ≤ w'.heap.size := by have : (w.alloc (.cells (enc x).toArray e)).heap.size = w.heap.size + 1 := by simp
                                              omega
  refine hk A' c' w' ?_ ⟨⟨hg.by_.os, hg.by_.tape, hg.by_.output, hz', fun k hk hne => ?_⟩⟩ ?_ (hs (by decide)) hz'
  · unfold OwnR
    rw [List.flatMap_append, List.flatMap_cons, List.flatMap_nil, List.append_nil, List.length_append, List.length_cons, List.length_nil, Nat.zero_add]
    exact ho
  · rw [hg.by_.block k (by simp; omega) hne, Below.heap_alloc w _ k hk]
  · rcases hA with h | h
    · exact .inl h
    · exact .inr ⟨_, h, by simp⟩
theorem bs_rec (E : Enc enc sz) (hT : SlT P t e sz bytes) (x : α) (hsz : sz ≤ 1000) :
    Eff1 P K (Instr.buildSlice t 1 #[(0, .agg (enc x).toArray)]) f d w = K (updO f d (.slice (some ⟨w.heap.size, 0, none⟩) 1 1)) (w.alloc (.cells (enc x).toArray e)) :=
  bsl1_eq hT _ (by simp [Value.cells, E.len]) hsz
theorem own_rec (E : Enc enc sz) (w : World) (x : α) (e : Nat) : OwnR enc w.heap.size e sz (w.alloc (.cells (enc x).toArray e)) (some ⟨w.heap.size, 0, none⟩) 1 [x] :=
  ⟨⟨by simp [E.len], .inr ⟨w.heap.size, 1, (enc x).toArray, rfl, Nat.le_refl _, heap_alloc_new w _, Nat.le_refl _, by decide, by simp [E.len], by simpa using List.take_of_length_le (by simp [E.len])⟩⟩⟩
theorem own_int1 (w : World) (x : Int) (e : Nat) : OwnI w.heap.size e (w.alloc (.cells [.int .i64 x].toArray e)) (some ⟨w.heap.size, 0, none⟩) 1 [x] :=
  ⟨⟨rfl, .inr ⟨w.heap.size, 1, #[.int .i64 x], rfl, Nat.le_refl _, heap_alloc_new w _, Nat.le_refl _, by decide, rfl, rfl⟩⟩⟩
/-- a part of a variable of several cells -/
theorem Blk.ldSub {g : Nat} {cs : List Value} (h : Blk u g t cs) (ht : tyAgg P ty = some true) (j : Nat) {vs : List Value} (hs : tySize P ty = some vs.length) (hv : ∀ k v, vs[k]? = some v → cs[j + k]? = some v) :
    Val1 P K (Instr.loadAt ty (.pointer (some ⟨g, j, none⟩))) u f d w = K (updO f d (.agg vs.toArray)) w :=
  load_agg_of ht hs rfl fun k v hk => by rw [addr_add, h.cell, hv k v hk]
end

/-! ## Built values -/
def builtPl (P : Program) (t : TypeId) : Option (List (Nat × Nat) × List Value) :=
  match P.info? t, P.underlying t with
  | some it, some (.struct fields) =>
    match it.zero, fields.toList.mapM (fun f => (P.info? f.type).map fun i => (f.offset, i.size)) with
    | some z, some places => some (places, z.cells.toList)
    | _, _ => none
  | _, _ => none
theorem built_of {P : Program} {t : TypeId} {pl : List (Nat × Nat)} {zs : List Value} (h : builtPl P t = some (pl, zs)) (parts : List (Nat × Value)) : P.built t parts = Instr.fill (pl.toArray[·]?) zs.toArray parts := by
  unfold builtPl at h
  unfold Program.built
  split at h
  · split at h
    · injection h with h
      injection h with h1 h2
      subst h1 h2
      simp [*]
    · cases h
  · cases h
def putL (zs : List Value) (off : Nat) (vs : List Value) : List Value := zs.take off ++ vs ++ zs.drop (off + vs.length)
theorem foldl_put (vs : List Value) : ∀ (off k : Nat) (zs : Array Value), off + k + vs.length ≤ zs.size →
    ((vs.zipIdx k).foldl (fun cs (p : Value × Nat) => cs.setIfInBounds (off + p.2) p.1) zs).toList = zs.toList.take (off + k) ++ vs ++ zs.toList.drop (off + k + vs.length) := by
  induction vs with
  | nil => intro off k zs _; simp
  | cons v vs ih =>
    intro off k zs h
    simp only [List.length_cons] at h
    simp only [List.zipIdx_cons, List.foldl_cons]
    rw [ih off (k + 1) _ (by simp; omega), Array.toList_setIfInBounds]
    have hk : off + k < zs.toList.length := by simp; omega
    rw [show off + (k + 1) = off + k + 1 by omega, List.take_succ_eq_append_getElem (by simpa using hk)]
    simp only [List.take_set_of_le (Nat.le_refl _), List.getElem_set_self, List.length_cons]
    rw [List.drop_set_of_lt (by omega), show off + k + 1 + vs.length = off + k + (vs.length + 1) by omega]
    simp
theorem fill_cons {pl : Nat → Option (Nat × Nat)} {zs : List Value} {i off size : Nat} {v : Value} {rest : List (Nat × Value)} (hp : pl i = some (off, size)) (hv : v.cells.size = size) (hs : off + size ≤ zs.length) :
    Instr.fill pl zs.toArray ((i, v) :: rest) = Instr.fill pl (putL zs off v.cells.toList).toArray rest := by
  have h1 := foldl_put v.cells.toList off 0 zs.toArray (by simp [hv]; omega)
  simp only [Instr.fill, hp, hv]
  rw [if_neg (by simp; omega)]
  congr 1
  apply Array.ext'
  rw [← Array.foldl_toList, Array.toList_zipIdx, h1]
  simp [putL]
theorem fill_nil (pl : Nat → Option (Nat × Nat)) (zs : Array Value) : Instr.fill pl zs [] = some zs := rfl
section
variable {P : Program} {K : Fr → World → Prop} {u w : World} {f : Fr} {d : Option Nat} {t ty : Nat}
theorem v_makeFunc (g : FuncId) (first cap : Array Operand) : ValX P K (.makeFunc (.func g) first cap) ty u f d w = K (updO f d (.func (.func g) (first.map (ev f)) (cap.map (ev f)))) w :=
  (show ValX P K (.makeFunc (.func g) first cap) ty u f d w = Val1 P K (Instr.makeFunc (.func g) (first.map (ev f)) (cap.map (ev f))) u f d w from propext Iff.rfl).trans (val1_of u f d w fun w' _ => by simp [Instr.makeFunc])
theorem v_build (parts : Array (Nat × Operand)) : ValX P K (.build t parts) ty u f d w = Val1 P K (Instr.build t (parts.map fun (i, x) => (i, ev f x))) u f d w := propext Iff.rfl
theorem bld_of {parts : Array (Nat × Value)} {cs : List Value} (h : P.built t parts.toList = some cs.toArray) : Val1 P K (Instr.build t parts) u f d w = K (updO f d (.agg cs.toArray)) w :=
  val1_of u f d w fun w' _ => run_build w' t parts _ h
/-- the parts are all fields, one after the other -/
theorem bld_2 {z : List Value} {o0 s0 o1 s1 : Nat} (h : builtPl P t = some ([(o0, s0), (o1, s1)], z)) (hz : z.length = s0 + s1) (h0 : o0 = 0) (h1 : o1 = s0) {v0 v1 : Value} (k0 : v0.cells.size = s0) (k1 : v1.cells.size = s1) :
    Val1 P K (Instr.build t #[(0, v0), (1, v1)]) u f d w = K (updO f d (.agg (v0.cells.toList ++ v1.cells.toList).toArray)) w := by
  refine bld_of ?_
  subst h0 h1
  rw [built_of h]
  rw [fill_cons (off := 0) (size := o1) rfl k0 (by omega), fill_cons (off := o1) (size := s1) rfl k1 (by simp [putL, k0]; omega), fill_nil]
  have e : putL (putL z 0 v0.cells.toList) o1 v1.cells.toList = v0.cells.toList ++ v1.cells.toList := by
    have a0 : v0.cells.toList.length = o1 := by simpa using k0
    have a1 : v1.cells.toList.length = s1 := by simpa using k1
    unfold putL
    rw [List.take_zero, List.nil_append, Nat.zero_add, List.take_left' a0, List.drop_eq_nil_of_le (by simp [k0, k1]; omega), List.append_nil]
  rw [e]
theorem bld_3 {z : List Value} {o0 s0 o1 s1 o2 s2 : Nat} (h : builtPl P t = some ([(o0, s0), (o1, s1), (o2, s2)], z)) (hz : z.length = s0 + s1 + s2) (h0 : o0 = 0) (h1 : o1 = s0) (h2 : o2 = s0 + s1) {v0 v1 v2 : Value}
    (k0 : v0.cells.size = s0) (k1 : v1.cells.size = s1) (k2 : v2.cells.size = s2) :
    Val1 P K (Instr.build t #[(0, v0), (1, v1), (2, v2)]) u f d w = K (updO f d (.agg (v0.cells.toList ++ v1.cells.toList ++ v2.cells.toList).toArray)) w := by
  refine bld_of ?_
  subst h0 h1 h2
  have a0 : v0.cells.toList.length = o1 := by simpa using k0
  have a1 : v1.cells.toList.length = s1 := by simpa using k1
  have a2 : v2.cells.toList.length = s2 := by simpa using k2
  rw [built_of h]
  rw [fill_cons (off := 0) (size := o1) rfl k0 (by omega), fill_cons (off := o1) (size := s1) rfl k1 (by simp [putL, k0]; omega), fill_cons (off := o1 + s1) (size := s2) rfl k2 (by simp [putL, k0, k1]; omega), fill_nil]
  have e : putL (putL z 0 v0.cells.toList) o1 v1.cells.toList = v0.cells.toList ++ v1.cells.toList ++ z.drop (o1 + s1) := by
    unfold putL
    rw [List.take_zero, List.nil_append, Nat.zero_add, List.take_left' a0, List.drop_append, List.drop_eq_nil_of_le (by omega), List.nil_append, a0, a1]
    simp
  rw [e]
  congr 2
  unfold putL
  have a01 : (v0.cells.toList ++ v1.cells.toList).length = o1 + s1 := by simp [k0, k1]
  rw [List.take_left' a01, List.drop_eq_nil_of_le (by simp [k0, k1, k2]; omega), List.append_nil]
end
attribute [push_cast] v_makeFunc v_build List.map_toArray
end Go.Proofs.YtiabkafgmanhiaaDoor
