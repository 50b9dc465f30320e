/-
  Maps whose keys are compared cell by cell, and equality of such keys. No program in sight.
-/
import Derived.Test.YtiabkafgmanhiaaDoorRec
import Derived.Maps.Keyed
import Derived.DeepKeys4
import Derived.Laws.StructEq
import Derived.Carry
namespace Go.Proofs.YtiabkafgmanhiaaDoor
set_option linter.unusedSimpArgs false
set_option linter.unusedVariables false
set_option linter.unusedSectionVars false
open Go.RowKit

def KeyIs (P : Program) (k : TypeId) (v : Value) : Prop := ∃ l, keyOf P k v = some l
/-- Block b is a map with these entries, in this order. -/
def MapIs (P : Program) (k : TypeId) (w : World) (b : Nat) (kv : List (Value × Value)) : Prop :=
  ∃ es clock, w.heap[b]? = some (.map es clock) ∧ es.toList.map (fun e => (e.key, e.val)) = kv ∧ (∀ p ∈ kv, KeyIs P k p.1) ∧ kv.Pairwise fun p q => p.1 ≠ q.1
theorem pair_inj {kv : List (Value × Value)} (hnd : kv.Pairwise fun p q => p.1 ≠ q.1) {a x y : Value} (hx : (a, x) ∈ kv) (hy : (a, y) ∈ kv) : x = y := by
  induction kv with
  | nil => simp at hx
  | cons p kv ih =>
    obtain ⟨h1, h2⟩ := List.pairwise_cons.1 hnd
    rcases List.mem_cons.1 hx with e | hx'
    · rcases List.mem_cons.1 hy with e' | hy'
      · rw [← e] at e'; injection e' with _ h; exact h.symm
      · exact absurd (by rw [← e]) (h1 _ hy')
    · rcases List.mem_cons.1 hy with e' | hy'
      · exact absurd (by rw [← e']) (h1 _ hx')
      · exact ih h2 hx' hy'
section
variable {P : Program} {K : Fr → World → Prop} {k e t ty b : Nat} {u w w' : World} {f : Fr} {d : Option Nat} {kv : List (Value × Value)}
theorem MapIs.lt (h : MapIs P k w b kv) : b < w.heap.size := by
  obtain ⟨es, c, h1, _⟩ := h
  rcases Nat.lt_or_ge b w.heap.size with hlt | hge
  · exact hlt
  · rw [Array.getElem?_eq_none hge] at h1; cases h1
theorem MapIs.keep (h : MapIs P k w b kv) (hk : w'.heap[b]? = w.heap[b]?) : MapIs P k w' b kv := by
  obtain ⟨es, c, h1, h2⟩ := h
  exact ⟨es, c, hk.trans h1, h2⟩
theorem MapIs.below {B : Nat} (h : MapIs P k w b kv) (hb : Below B w w') (hB : b < B) : MapIs P k w' b kv := h.keep (hb.block b hB)
theorem MapIs.same (h : MapIs P k w b kv) (hs : Same w w') : MapIs P k w' b kv := h.keep (by rw [hs.heap])
theorem MapIs.grown {row : Option Nat} (h : MapIs P k w b kv) (hb : w.grownBy w' row) (hg : some b ≠ row) : MapIs P k w' b kv := h.keep (hb.block b h.lt hg)
theorem MapIs.alloc (h : MapIs P k w b kv) (o : Obj) : MapIs P k (w.alloc o) b kv := h.keep (Below.heap_alloc w o b h.lt)
theorem MapIs.ne_own {B e' sz : Nat} {A : Option Addr} {c n : Nat} {xs : List Value} (h : MapIs P k w b kv) (ho : Own B e' sz w A c n xs) : some b ≠ A.map (·.block) := by
  obtain ⟨es, cl, h1, _⟩ := h
  obtain ⟨_, h2⟩ := ho.own
  rcases h2 with ⟨h2, _⟩ | ⟨g', cap, cur, hv, hb, hh, r⟩
  · injection h2 with h3; subst h3; simp
  · injection hv with h3
    subst h3
    simp only [Option.map_some, ne_eq, Option.some.injEq]
    rintro rfl
    rw [h1] at hh
    cases hh
theorem MapIs.ne_blk {g t' : Nat} {cs : List Value} (h : MapIs P k w b kv) (ho : Blk w g t' cs) : b ≠ g := by
  obtain ⟨es, cl, h1, _⟩ := h
  rintro rfl
  unfold Blk at ho
  rw [h1] at ho
  cases ho
section
variable (t : TypeId) (ty : TypeId)
theorem e_makeMap : EffX P K (.makeMap t none) ty f d w = Eff1 P K (Instr.makeMap t none) f d w := by simp [EffX, valOf]
theorem e_mapUpdate (m x v : Operand) : EffX P K (.mapUpdate t m x v) ty f d w = Eff1 P K (do Instr.mapUpdate t (ev f m) (ev f x) (ev f v); pure undef) f d w := propext Iff.rfl
theorem e_insert (m x v : Operand) : EffX P K (.insert t m x v) ty f d w = Eff1 P K (do Instr.mapUpdate t (ev f m) (ev f x) (ev f v); pure undef) f d w := propext Iff.rfl
theorem v_lookup (m x : Operand) (ok : Bool) : ValX P K (.lookup t m x ok) ty u f d w = Val1 P K (Instr.lookup t (ev f m) (ev f x) ok) u f d w := propext Iff.rfl
end
theorem map_made (t : TypeId) (h : ∀ w', MapIs P k w' w.heap.size [] → Below w.heap.size w w' → w'.heap.size = w.heap.size + 1 → K (updO f d (.map (some w.heap.size))) w') : Eff1 P K (Instr.makeMap t none) f d w := by
  refine ⟨.map (some w.heap.size), w.alloc (.map #[] 0), ?_, h _ ⟨#[], 0, heap_alloc_new w _, rfl, by simp, List.Pairwise.nil⟩ ((Below.refl _ _).alloc (Nat.le_refl _) _) (by simp)⟩
  simp [Instr.makeMap, newObj]
  rfl
/-- m[k], in both forms -/
theorem map_look (L : Maps.Keyed P k) (ht : P.underlying t = some (.map k e)) {z : Value} (hz : (P.info? e).map (·.zero) = some (some z)) (ok : Bool) (h : MapIs P k u b kv) {key : Value} (hk : KeyIs P k key)
    (h1 : ∀ v, (key, v) ∈ kv → K (updO f d (if ok then .tuple #[v, .bool true] else v)) w) (h0 : (∀ p ∈ kv, p.1 ≠ key) → K (updO f d (if ok then .tuple #[z, .bool false] else z)) w) :
    Val1 P K (Instr.lookup t (.map (some b)) key ok) u f d w := by
  have hlt := h.lt
  obtain ⟨es, cl, hb, he, hl, hnd⟩ := h
  obtain ⟨lk, hlk⟩ := hk
  have hes : ∀ x ∈ es.toList, ∃ l, keyOf P k x.key = some l := fun x hx => hl (x.key, x.val) (by rw [← he]; exact List.mem_map.2 ⟨x, hx, rfl⟩)
  have hin : ∀ x ∈ es.toList, (x.key, x.val) ∈ kv := fun x hx => by rw [← he]; exact List.mem_map.2 ⟨x, hx, rfl⟩
  have hzr : ∀ w', (zeroValue e).run P w' = .ok z w' := fun w' => by
    cases hi : P.info? e with
    | none => simp [hi] at hz
    | some i =>
      simp only [hi, Option.map_some, Option.some.injEq] at hz
      simp [zeroValue, typeInfo, hi, hz]
  by_cases hex : ∃ x ∈ es.toList, x.key = key
  · obtain ⟨e0, hm, hkk⟩ := hex
    have h0v := hin e0 hm
    rw [hkk] at h0v
    refine ⟨_, fun w' hw' => ?_, h1 e0.val h0v⟩
    have hb' : w'.heap[b]? = some (.map es cl) := (hw'.block b hlt).trans hb
    rcases L.find w' hlk es.toList hes with ⟨_, hn⟩ | ⟨j, e1, hr, hj, hkk'⟩
    · exact absurd hkk (hn e0 hm)
    · have h1v := hin e1 (List.mem_of_getElem? hj)
      rw [hkk'] at h1v
      have : e1.val = e0.val := pair_inj hnd h1v h0v
      simp [Instr.lookup, run_underlying ht, MapKept.run_getObj_map hb', L.check w' _ hlk, hr, this, Result.andThen]
  · refine ⟨_, fun w' hw' => ?_, h0 fun p hp => ?_⟩
    · have hb' : w'.heap[b]? = some (.map es cl) := (hw'.block b hlt).trans hb
      rcases L.find w' hlk es.toList hes with ⟨hr, _⟩ | ⟨j, e0, _, hj, hkk⟩
      · simp [Instr.lookup, run_underlying ht, MapKept.run_getObj_map hb', L.check w' _ hlk, hr, hzr w', Result.andThen]
      · exact absurd ⟨e0, List.mem_of_getElem? hj, hkk⟩ hex
    · rw [← he] at hp
      obtain ⟨x, hx, rfl⟩ := List.mem_map.1 hp
      exact fun hh => hex ⟨x, hx, hh⟩
/-- m[k] = v, where there is none -/
theorem map_new (L : Maps.Keyed P k) (ht : P.underlying t = some (.map k e)) (h : MapIs P k w b kv) {key : Value} (hk : KeyIs P k key) (hn : ∀ p ∈ kv, p.1 ≠ key) (val : Value)
    (h1 : ∀ w', MapIs P k w' b (kv ++ [(key, val)]) → Grew w w' (some ⟨b, 0, none⟩) → w'.heap.size = w.heap.size → K (updO f d undef) w') :
    Eff1 P K (do Instr.mapUpdate t (.map (some b)) key val; pure undef) f d w := by
  have hlt := h.lt
  obtain ⟨es, cl, hb, he, hl, hnd⟩ := h
  have hk0 := hk
  obtain ⟨lk, hlk⟩ := hk
  have hes : ∀ x ∈ es.toList, ∃ l, keyOf P k x.key = some l := fun x hx => hl (x.key, x.val) (by rw [← he]; exact List.mem_map.2 ⟨x, hx, rfl⟩)
  have hne : ∀ x ∈ es.toList, x.key ≠ key := fun x hx => hn (x.key, x.val) (by rw [← he]; exact List.mem_map.2 ⟨x, hx, rfl⟩)
  have hs : (ChangeMaps.setBlock w b (.map (es.push ⟨key, val, cl⟩) (cl + 1))).heap[b]? = some (.map (es.push ⟨key, val, cl⟩) (cl + 1)) := by simp [ChangeMaps.setBlock, hlt]
  refine ⟨undef, ChangeMaps.setBlock w b (.map (es.push ⟨key, val, cl⟩) (cl + 1)), ?_, h1 _ ⟨_, _, hs, ?_, ?_, ?_⟩ ⟨⟨rfl, rfl, rfl, by simp [ChangeMaps.setBlock], fun j _ hj => ?_⟩⟩ (by simp [ChangeMaps.setBlock])⟩
  · rcases L.find w hlk es.toList hes with ⟨hr, _⟩ | ⟨j, e0, _, hj, hkk⟩
    · simp [Instr.mapUpdate, run_underlying ht, MapKept.run_getObj_map hb, L.check w _ hlk, hr, MapKept.run_setObj_map _ hb, Result.andThen, ChangeMaps.setBlock]
    · exact absurd hkk (hne e0 (List.mem_of_getElem? hj))
  · simp [he]
  · intro p hp
    rcases List.mem_append.1 hp with h | h
    · exact hl p h
    · rw [List.mem_singleton.1 h]; exact hk0
  · exact List.pairwise_append.2 ⟨hnd, by simp, fun p hp q hq => by rw [List.mem_singleton.1 hq]; exact hn p hp⟩
  · simp only [ChangeMaps.setBlock, Array.getElem?_setIfInBounds]
    rw [if_neg]
    intro e
    exact hj (by rw [e]; rfl)
/-- m[k] = v, where there is one -/
theorem map_old (L : Maps.Keyed P k) (ht : P.underlying t = some (.map k e)) (h : MapIs P k w b kv) {key old : Value} (hk : KeyIs P k key) (hin : (key, old) ∈ kv) (val : Value)
    (h1 : ∀ j w', kv[j]? = some (key, old) → MapIs P k w' b (kv.set j (key, val)) → Grew w w' (some ⟨b, 0, none⟩) → w'.heap.size = w.heap.size → K (updO f d undef) w') :
    Eff1 P K (do Instr.mapUpdate t (.map (some b)) key val; pure undef) f d w := by
  have hlt := h.lt
  obtain ⟨es, cl, hb, he, hl, hnd⟩ := h
  have hk0 := hk
  obtain ⟨lk, hlk⟩ := hk
  have hes : ∀ x ∈ es.toList, ∃ l, keyOf P k x.key = some l := fun x hx => hl (x.key, x.val) (by rw [← he]; exact List.mem_map.2 ⟨x, hx, rfl⟩)
  rcases L.find w hlk es.toList hes with ⟨_, hno⟩ | ⟨j, e0, hr, hj, hkk⟩
  · rw [← he] at hin
    obtain ⟨x, hx, hxe⟩ := List.mem_map.1 hin
    injection hxe with h2 _
    exact absurd h2 (hno x hx)
  have hj' : es[j]? = some e0 := by simpa using hj
  generalize hes' : es.modify j (fun e' => { e' with key := key, val := val }) = es'
  have hs : (ChangeMaps.setBlock w b (.map es' cl)).heap[b]? = some (.map es' cl) := by simp [ChangeMaps.setBlock, hlt]
  have hj2 : kv[j]? = some (key, e0.val) := by rw [← he, List.getElem?_map, hj]; simp [hkk]
  have hold : e0.val = old := pair_inj hnd (List.mem_of_getElem? hj2) hin
  have hlist : es'.toList.map (fun e => (e.key, e.val)) = kv.set j (key, val) := by
    rw [← hes', ← he, Array.toList_modify, ChangeMaps.modify_eq_set _ _ _ _ hj, List.map_set]
  refine ⟨undef, ChangeMaps.setBlock w b (.map es' cl), ?_, h1 j _ (by rw [hj2, hold]) ⟨_, _, hs, hlist, ?_, ?_⟩ ⟨⟨rfl, rfl, rfl, by simp [ChangeMaps.setBlock], fun j _ hj => ?_⟩⟩ (by simp [ChangeMaps.setBlock])⟩
  · simp [Instr.mapUpdate, run_underlying ht, MapKept.run_getObj_map hb, L.check w _ hlk, hr, hj', hkk, L.stays w hlk, MapKept.run_setObj_map _ hb, Result.andThen, ChangeMaps.setBlock, ← hes']
  · intro p hp
    rcases List.mem_or_eq_of_mem_set hp with h | h
    · exact hl p h
    · rw [h]; exact hk0
  · have hnd' : (kv.map (·.1)).Pairwise (· ≠ ·) := List.pairwise_map.2 hnd
    have : (kv.set j (key, val)).map (·.1) = kv.map (·.1) := by
      rw [List.map_set]
      refine List.ext_getElem (by simp) fun i h1 h2 => ?_
      rw [List.getElem_set]
      split
      · rename_i e1
        subst e1
        have hjl : j < kv.length := by simpa using h2
        have := List.getElem?_eq_getElem hjl
        rw [hj2] at this
        simp [← Option.some.inj this]
      · rfl
    exact List.pairwise_map.1 (this ▸ hnd')
  · simp only [ChangeMaps.setBlock, Array.getElem?_setIfInBounds]
    rw [if_neg]
    intro e
    exact hj (by rw [e]; rfl)
end
end Go.Proofs.YtiabkafgmanhiaaDoor
