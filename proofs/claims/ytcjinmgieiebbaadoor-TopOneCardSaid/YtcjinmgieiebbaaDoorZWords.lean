/-
  Maps whose keys are compared cell by cell, and equality of such keys. No program in sight.
  Chapter 7: pairs of sets: how they lie, as keys of maps, as records.
  The library's slices.Reverse on a row of one's own, by the shelf's contract.
  Chapter 7: the program's Words goes over all pairs that words lead to, the least word ahead: by its contract.
-/
import Derived.Test.YtcjinmgieiebbaaDoorZOwn
import Derived.Maps.Keyed
import Derived.DeepKeys4
import Derived.Laws.StructEq
import Derived.Carry
import Derived.Test.YtcjinmgieiebbaaDoorZSet
import Derived.Test.YtcjinmgieiebbaaDoorZTy
import Derived.Test.YtcjinmgieiebbaaDoorZIr
import Derived.Shelf.Slices.Reverse
import Derived.Lib.OwnBridge
import Derived.Test.YtcjinmgieiebbaaDoorZBfs
namespace Go.Proofs.YtcjinmgieiebbaaDoor
set_option linter.unusedSimpArgs false
set_option linter.unusedVariables false
set_option linter.unusedSectionVars false
section
open Go.RowKit

def KeyIs (P : Program) (k : TypeId) (v : Value) : Prop := ∃ l, keyOf P k v = some l
/-- Block b is a map with these entries, in this order. -/
def MapIs (P : Program) (k : TypeId) (w : World) (b : Nat) (kv : List (Value × Value)) : Prop :=
  ∃ es clock, w.heap[b]? = some (.map es clock) ∧ es.toList.map (fun e => (e.key, e.val)) = kv ∧ (∀ p ∈ kv, KeyIs P k p.1) ∧ kv.Pairwise fun p q => p.1 ≠ q.1
theorem pair_inj {kv : List (Value × Value)} (hnd : kv.Pairwise fun p q => p.1 ≠ q.1) {a x y : Value} (hx : (a, x) ∈ kv) (hy : (a, y) ∈ kv) : x = y := by
  induction kv with
  | nil => simp at hx
  | cons p kv ih =>
    obtain ⟨h1, h2⟩ := List.pairwise_cons.1 hnd
    rcases List.mem_cons.1 hx with e | hx'
    · rcases List.mem_cons.1 hy with e' | hy'
      · rw [← e] at e'; injection e' with _ h; exact h.symm
      · exact absurd (by rw [← e]) (h1 _ hy')
    · rcases List.mem_cons.1 hy with e' | hy'
      · exact absurd (by rw [← e']) (h1 _ hx')
      · exact ih h2 hx' hy'
section
variable {P : Program} {K : Fr → World → Prop} {k e t ty b : Nat} {u w w' : World} {f : Fr} {d : Option Nat} {kv : List (Value × Value)}
theorem MapIs.lt (h : MapIs P k w b kv) : b < w.heap.size := by
  obtain ⟨es, c, h1, _⟩ := h
  rcases Nat.lt_or_ge b w.heap.size with hlt | hge
  · exact hlt
  · rw [Array.getElem?_eq_none hge] at h1; cases h1
theorem MapIs.keep (h : MapIs P k w b kv) (hk : w'.heap[b]? = w.heap[b]?) : MapIs P k w' b kv := by
  obtain ⟨es, c, h1, h2⟩ := h
  exact ⟨es, c, hk.trans h1, h2⟩
theorem MapIs.below {B : Nat} (h : MapIs P k w b kv) (hb : Below B w w') (hB : b < B) : MapIs P k w' b kv := h.keep (hb.block b hB)
theorem MapIs.same (h : MapIs P k w b kv) (hs : Same w w') : MapIs P k w' b kv := h.keep (by rw [hs.heap])
theorem MapIs.grown {row : Option Nat} (h : MapIs P k w b kv) (hb : w.grownBy w' row) (hg : some b ≠ row) : MapIs P k w' b kv := h.keep (hb.block b h.lt hg)
theorem MapIs.alloc (h : MapIs P k w b kv) (o : Obj) : MapIs P k (w.alloc o) b kv := h.keep (Below.heap_alloc w o b h.lt)
theorem MapIs.ne_own {B e' sz : Nat} {A : Option Addr} {c n : Nat} {xs : List Value} (h : MapIs P k w b kv) (ho : Own B e' sz w A c n xs) : some b ≠ A.map (·.block) := by
  obtain ⟨es, cl, h1, _⟩ := h
  obtain ⟨_, h2⟩ := ho.own
  rcases h2 with ⟨h2, _⟩ | ⟨g', cap, cur, hv, hb, hh, r⟩
  · injection h2 with h3; subst h3; simp
  · injection hv with h3
    subst h3
    simp only [Option.map_some, ne_eq, Option.some.injEq]
    rintro rfl
    rw [h1] at hh
    cases hh
theorem MapIs.ne_blk {g t' : Nat} {cs : List Value} (h : MapIs P k w b kv) (ho : Blk w g t' cs) : b ≠ g := by
  obtain ⟨es, cl, h1, _⟩ := h
  rintro rfl
  unfold Blk at ho
  rw [h1] at ho
  cases ho
section
variable (t : TypeId) (ty : TypeId)
theorem e_makeMap : EffX P K (.makeMap t none) ty f d w = Eff1 P K (Instr.makeMap t none) f d w := by simp [EffX, valOf]
theorem e_mapUpdate (m x v : Operand) : EffX P K (.mapUpdate t m x v) ty f d w = Eff1 P K (do Instr.mapUpdate t (ev f m) (ev f x) (ev f v); pure undef) f d w := propext Iff.rfl
theorem e_insert (m x v : Operand) : EffX P K (.insert t m x v) ty f d w = Eff1 P K (do Instr.mapUpdate t (ev f m) (ev f x) (ev f v); pure undef) f d w := propext Iff.rfl
theorem v_lookup (m x : Operand) (ok : Bool) : ValX P K (.lookup t m x ok) ty u f d w = Val1 P K (Instr.lookup t (ev f m) (ev f x) ok) u f d w := propext Iff.rfl
end
theorem map_made (t : TypeId) (h : ∀ w', MapIs P k w' w.heap.size [] → Below w.heap.size w w' → w'.heap.size = w.heap.size + 1 → K (updO f d (.map (some w.heap.size))) w') : Eff1 P K (Instr.makeMap t none) f d w := by
  refine ⟨.map (some w.heap.size), w.alloc (.map #[] 0), ?_, h _ ⟨#[], 0, heap_alloc_new w _, rfl, by simp, List.Pairwise.nil⟩ ((Below.refl _ _).alloc (Nat.le_refl _) _) (by simp)⟩
  simp [Instr.makeMap, newObj]
  rfl
/-- m[k], in both forms -/
theorem map_look (L : Maps.Keyed P k) (ht : P.underlying t = some (.map k e)) {z : Value} (hz : (P.info? e).map (·.zero) = some (some z)) (ok : Bool) (h : MapIs P k u b kv) {key : Value} (hk : KeyIs P k key)
    (h1 : ∀ v, (key, v) ∈ kv → K (updO f d (if ok then .tuple #[v, .bool true] else v)) w) (h0 : (∀ p ∈ kv, p.1 ≠ key) → K (updO f d (if ok then .tuple #[z, .bool false] else z)) w) :
    Val1 P K (Instr.lookup t (.map (some b)) key ok) u f d w := by
  have hlt := h.lt
  obtain ⟨es, cl, hb, he, hl, hnd⟩ := h
  obtain ⟨lk, hlk⟩ := hk
  have hes : ∀ x ∈ es.toList, ∃ l, keyOf P k x.key = some l := fun x hx => hl (x.key, x.val) (by rw [← he]; exact List.mem_map.2 ⟨x, hx, rfl⟩)
  have hin : ∀ x ∈ es.toList, (x.key, x.val) ∈ kv := fun x hx => by rw [← he]; exact List.mem_map.2 ⟨x, hx, rfl⟩
  have hzr : ∀ w', (zeroValue e).run P w' = .ok z w' := fun w' => by
    cases hi : P.info? e with
    | none => simp [hi] at hz
    | some i =>
      simp only [hi, Option.map_some, Option.some.injEq] at hz
      simp [zeroValue, typeInfo, hi, hz]
  by_cases hex : ∃ x ∈ es.toList, x.key = key
  · obtain ⟨e0, hm, hkk⟩ := hex
    have h0v := hin e0 hm
    rw [hkk] at h0v
    refine ⟨_, fun w' hw' => ?_, h1 e0.val h0v⟩
    have hb' : w'.heap[b]? = some (.map es cl) := (hw'.block b hlt).trans hb
    rcases L.find w' hlk es.toList hes with ⟨_, hn⟩ | ⟨j, e1, hr, hj, hkk'⟩
    · exact absurd hkk (hn e0 hm)
    · have h1v := hin e1 (List.mem_of_getElem? hj)
      rw [hkk'] at h1v
      have : e1.val = e0.val := pair_inj hnd h1v h0v
      simp [Instr.lookup, run_underlying ht, MapKept.run_getObj_map hb', L.check w' _ hlk, hr, this, Result.andThen]
  · refine ⟨_, fun w' hw' => ?_, h0 fun p hp => ?_⟩
    · have hb' : w'.heap[b]? = some (.map es cl) := (hw'.block b hlt).trans hb
      rcases L.find w' hlk es.toList hes with ⟨hr, _⟩ | ⟨j, e0, _, hj, hkk⟩
      · simp [Instr.lookup, run_underlying ht, MapKept.run_getObj_map hb', L.check w' _ hlk, hr, hzr w', Result.andThen]
      · exact absurd ⟨e0, List.mem_of_getElem? hj, hkk⟩ hex
    · rw [← he] at hp
      obtain ⟨x, hx, rfl⟩ := List.mem_map.1 hp
      exact fun hh => hex ⟨x, hx, hh⟩
/-- m[k] = v, where there is none -/
theorem map_new (L : Maps.Keyed P k) (ht : P.underlying t = some (.map k e)) (h : MapIs P k w b kv) {key : Value} (hk : KeyIs P k key) (hn : ∀ p ∈ kv, p.1 ≠ key) (val : Value)
    (h1 : ∀ w', MapIs P k w' b (kv ++ [(key, val)]) → Grew w w' (some ⟨b, 0, none⟩) → w'.heap.size = w.heap.size → K (updO f d undef) w') :
    Eff1 P K (do Instr.mapUpdate t (.map (some b)) key val; pure undef) f d w := by
  have hlt := h.lt
  obtain ⟨es, cl, hb, he, hl, hnd⟩ := h
  have hk0 := hk
  obtain ⟨lk, hlk⟩ := hk
  have hes : ∀ x ∈ es.toList, ∃ l, keyOf P k x.key = some l := fun x hx => hl (x.key, x.val) (by rw [← he]; exact List.mem_map.2 ⟨x, hx, rfl⟩)
  have hne : ∀ x ∈ es.toList, x.key ≠ key := fun x hx => hn (x.key, x.val) (by rw [← he]; exact List.mem_map.2 ⟨x, hx, rfl⟩)
  have hs : (ChangeMaps.setBlock w b (.map (es.push ⟨key, val, cl⟩) (cl + 1))).heap[b]? = some (.map (es.push ⟨key, val, cl⟩) (cl + 1)) := by simp [ChangeMaps.setBlock, hlt]
  refine ⟨undef, ChangeMaps.setBlock w b (.map (es.push ⟨key, val, cl⟩) (cl + 1)), ?_, h1 _ ⟨_, _, hs, ?_, ?_, ?_⟩ ⟨⟨rfl, rfl, rfl, by simp [ChangeMaps.setBlock], fun j _ hj => ?_⟩⟩ (by simp [ChangeMaps.setBlock])⟩
  · rcases L.find w hlk es.toList hes with ⟨hr, _⟩ | ⟨j, e0, _, hj, hkk⟩
    · simp [Instr.mapUpdate, run_underlying ht, MapKept.run_getObj_map hb, L.check w _ hlk, hr, MapKept.run_setObj_map _ hb, Result.andThen, ChangeMaps.setBlock]
    · exact absurd hkk (hne e0 (List.mem_of_getElem? hj))
  · simp [he]
  · intro p hp
    rcases List.mem_append.1 hp with h | h
    · exact hl p h
    · rw [List.mem_singleton.1 h]; exact hk0
  · exact List.pairwise_append.2 ⟨hnd, by simp, fun p hp q hq => by rw [List.mem_singleton.1 hq]; exact hn p hp⟩
  · simp only [ChangeMaps.setBlock, Array.getElem?_setIfInBounds]
    rw [if_neg]
    intro e
    exact hj (by rw [e]; rfl)
end
end

section
open Go.RowKit

theorem laidOutK : laidOutB Tryd.prog = true := by kernel_rfl
theorem typesPos : 0 < Tryd.prog.types.size := of_decide_eq_true (by kernel_rfl)
theorem keyed_set : Maps.Keyed Tryd.prog 64 := Maps.Keyed.of_law (deep_law_laid laidOutK (m := 3) (by decide) (of_decide_eq_true (by kernel_rfl)) (by kernel_rfl) (by kernel_rfl))
theorem u64_wf {x : Nat} (h : x < 2 ^ 64) : (Lit.int .u64 (x : Int)).wf = true := by
  simp [Lit.wf, IntKind.min, IntKind.max, IntKind.signed, IntKind.bits]; omega
theorem lits_u64 (n : Nat) {x : Nat} (h : x < 2 ^ 64) : Tryd.prog.keyLits (n + 1) 62 [.int .u64 (x : Int)] = some [.int .u64 (x : Int)] := by
  have hu2 : Tryd.prog.underlying 62 = some (.int .u64) := Tryd.underlying62
  simp only [Program.keyLits, hu2, u64_wf h, and_self, if_true]
theorem lits_set (n : Nat) (l : List Int) : ∃ L, Tryd.prog.keyLits (n + 2) 64 (setCells (wordsOf l)) = some L := by
  have hW := wordsOf_words l
  generalize wordsOf l = ws at *
  match ws, hW.1 with
  | [a, b, c, d], _ =>
  have ha := lits_u64 n (hW.2 0)
  have hb := lits_u64 n (hW.2 1)
  have hc := lits_u64 n (hW.2 2)
  have hd := lits_u64 n (hW.2 3)
  simp only [List.getD_cons_zero, List.getD_cons_succ] at ha hb hc hd
  have hu : Tryd.prog.underlying 64 = some (.array 4 62) := Tryd.underlying64
  have hc4 : Tryd.prog.cellsOf 64 = 4 := by kernel_rfl
  have hc1 : Tryd.prog.cellsOf 62 = 1 := by kernel_rfl
  unfold Program.keyLits
  simp only [hu, hc4, hc1, setCells, List.map_cons, List.map_nil, List.length_cons, List.length_nil, Nat.zero_add, Nat.reduceAdd, if_true]
  simp [List.range_succ, ha, hb, hc, hd]
theorem key_set (l : List Int) : KeyIs Tryd.prog 64 (setV l) := by
  have hs : Tryd.prog.types.size + 1 = (Tryd.prog.types.size - 1) + 2 := by have := typesPos; omega
  obtain ⟨L, hL⟩ := lits_set (Tryd.prog.types.size - 1) l
  rw [← hs] at hL
  have hu : Tryd.prog.underlying 64 = some (.array 4 62) := Tryd.underlying64
  have hk : Tryd.prog.keyType 64 = true := by kernel_rfl
  have hc4 : Tryd.prog.cellsOf 64 = 4 := by kernel_rfl
  have hf : (setV l).formed Tryd.prog 64 = true := by
    simp only [setV, setVal, Value.formed, hu, hc4, beq_iff_eq, List.size_toArray]
    exact setCells_4 l
  unfold KeyIs keyOf
  simp only [hu, hk, hf, Bool.and_self, if_true]
  exact ⟨_, by rw [show (setV l).cells.toList = setCells (wordsOf l) from rfl, hL]; rfl⟩
theorem setV_eq {l m : List Int} : setV l = setV m ↔ wordsOf l = wordsOf m := by
  refine ⟨fun h => ?_, fun h => by unfold setV; rw [h]⟩
  injection h with h
  have h2 : setCells (wordsOf l) = setCells (wordsOf m) := by simpa using congrArg Array.toList h
  unfold setCells at h2
  exact (List.map_inj_right (fun a b hab => by injection hab with _ h; exact Int.ofNat.inj h)).1 h2

end

section
open Go.RowKit Go.Shelf Go.Lib Go.Sort

end

section
open Go.RowKit

abbrev St := List Int × List Int
abbrev PL := St × Int × Int
/-- Whence each place was come to. -/
def Par (pl : List PL) (L : List (St × List Int)) : Prop :=
  pl.map (·.1) = L.map (·.1) ∧ ∀ j p q, pl[j]? = some p → L[j]? = some q → (p.2.1 = -1 ∧ q.2 = []) ∨ ∃ i : Nat, p.2.1 = (i : Int) ∧ i < j ∧ ∃ q', L[i]? = some q' ∧ q.2 = q'.2 ++ [p.2.2]
theorem Par.len {pl : List PL} {L : List (St × List Int)} (h : Par pl L) : pl.length = L.length := by simpa using congrArg List.length h.1
theorem Par.at_ {pl : List PL} {L : List (St × List Int)} (h : Par pl L) {j : Nat} {p : PL} (hp : pl[j]? = some p) : ∃ q, L[j]? = some q ∧ q.1 = p.1 := by
  have h1 : (pl.map (·.1))[j]? = some p.1 := by rw [List.getElem?_map, hp]; rfl
  rw [h.1, List.getElem?_map] at h1
  cases hq : L[j]? with
  | none => rw [hq] at h1; cases h1
  | some q => rw [hq] at h1; exact ⟨q, rfl, by simpa using h1⟩
theorem Par.snoc {pl : List PL} {L : List (St × List Int)} (h : Par pl L) {k : Nat} {q' : St × List Int} (hk : L[k]? = some q') (s : St) (e : Int) : Par (pl ++ [(s, (k : Int), e)]) (L ++ [(s, q'.2 ++ [e])]) := by
  have hl := h.len
  have hkl : k < L.length := by
    rcases Nat.lt_or_ge k L.length with h1 | h1
    · exact h1
    · rw [List.getElem?_eq_none h1] at hk; cases hk
  refine ⟨by simp [h.1], fun j p q hp hq => ?_⟩
  by_cases hj : j < pl.length
  · rw [List.getElem?_append_left hj] at hp
    rw [List.getElem?_append_left (by omega)] at hq
    rcases h.2 j p q hp hq with h1 | ⟨i, h1, h2, q2, h3, h4⟩
    · exact .inl h1
    · exact .inr ⟨i, h1, h2, q2, by rw [List.getElem?_append_left (by omega)]; exact h3, h4⟩
  · have hjl : j = pl.length := by
      rcases Nat.lt_or_ge j (pl.length + 1) with h1 | h1
      · omega
      · rw [List.getElem?_eq_none (by simp; omega)] at hp; cases hp
    subst hjl
    rw [List.getElem?_append_right (Nat.le_refl _)] at hp
    rw [List.getElem?_append_right (by omega)] at hq
    simp at hp
    rw [hl] at hq
    simp at hq
    subst hp hq
    exact .inr ⟨k, rfl, by omega, q', by rw [List.getElem?_append_left (by omega)]; exact hk, rfl⟩

def evs (n : Nat) : List Int := (List.range n).map fun (i : Nat) => (i : Int)
theorem evs_len (n : Nat) : (evs n).length = n := by simp [evs]
theorem evs_at (n j : Nat) (h : j < n) : (evs n).getD j 0 = j := by simp [evs, List.getD_eq_getElem?_getD, h]
theorem evs_mem {n : Nat} {e : Int} : e ∈ evs n ↔ 0 ≤ e ∧ e < n := by
  unfold evs
  simp only [List.mem_map, List.mem_range]
  exact ⟨fun ⟨i, h, e⟩ => by omega, fun h => ⟨e.toNat, by omega, by omega⟩⟩
theorem Recs.lt {α : Type} {enc : α → List Value} {sz : Nat} (E : Enc enc sz) (hs : 0 < sz) {ok : Nat → Prop} {w : World} {A : Option Addr} {l : List α} (h : Recs enc sz ok w A l) : Recs enc sz (· < w.heap.size) w A l :=
  ⟨h.isSome, fun hl => by
    have h0 : l[0]? = some (l[0]'hl) := List.getElem?_eq_getElem hl
    have h1 : (enc (l[0]'hl))[0]? = some ((enc (l[0]'hl))[0]'(by rw [E.len]; exact hs)) := List.getElem?_eq_getElem _
    have := World.block_lt_of_cell? w _ (h.cell 0 _ h0 0 _ h1)
    rwa [eA_block] at this, h.cell⟩

end
section
open Go.RowKit
/-- A row that can be read, in a block that lay there at first or that holds elements of the type e. -/
structure RowT (B e : Nat) (w : World) (A : Option Addr) (l : List Int) : Prop where
  ints : Ints (fun b => b < w.heap.size ∧ (b < B ∨ ∃ cs r, w.heap[b]? = some (.cells cs e r))) w A l
section
variable {B e : Nat} {w w' : World} {A : Option Addr} {l : List Int}
theorem RowT.lt (h : RowT B e w A l) : Ints (· < w.heap.size) w A l := h.ints.mono fun _ hb => hb.1
theorem RowT.keep (h : RowT B e w A l) (hz : w.heap.size ≤ w'.heap.size) (hk : ∀ b, b < w.heap.size → (b < B ∨ ∃ cs r, w.heap[b]? = some (.cells cs e r)) → w'.heap[b]? = w.heap[b]?) : RowT B e w' A l := by
  refine ⟨⟨h.ints.isSome, fun hl => ?_, fun i hi => ?_⟩⟩
  · obtain ⟨h1, h2⟩ := h.ints.block hl
    refine ⟨by omega, ?_⟩
    rcases h2 with h2 | ⟨cs, r, h3⟩
    · exact .inl h2
    · exact .inr ⟨cs, r, by rw [hk _ h1 (.inr ⟨cs, r, h3⟩)]; exact h3⟩
  · obtain ⟨h1, h2⟩ := h.ints.block (by omega)
    rw [← h.ints.cell i hi]
    exact World.cell?_of_block (by rw [eA_block]; exact hk _ h1 h2)
theorem RowT.below (h : RowT B e w A l) (hb : Below w.heap.size w w') : RowT B e w' A l := h.keep hb.size fun b hlt _ => hb.block b hlt
theorem RowT.grew {e' sz c n : Nat} {A2 : Option Addr} {xs : List Value} (h : RowT B e w A l) (ho : Own B e' sz w A2 c n xs) (hne : e' ≠ e) (hg : Grew w w' A2) : RowT B e w' A l :=
  h.keep hg.by_.size fun b hlt hor => hg.by_.block b hlt (by
    rcases ho.own.2 with ⟨h0, _⟩ | ⟨g, cap, cur, hv, hB, hh, _⟩
    · injection h0 with h0; subst h0; simp
    · injection hv with hv
      subst hv
      simp only [Option.map_some, ne_eq, Option.some.injEq]
      rintro rfl
      rcases hor with h1 | ⟨cs, r, h1⟩
      · omega
      · rw [h1] at hh
        injection hh with hh
        injection hh with _ ht
        exact hne ht.symm)
theorem RowT.of_own {B' c : Nat} (h : OwnI B' e w A c l) : RowT B e w A l := by
  refine ⟨?_⟩
  have hi := OwnI.ints h
  refine ⟨hi.isSome, fun hl => ?_, hi.cell⟩
  have hA := h.isSome hl
  have hb := h.block hA
  refine ⟨hb.2, .inr ?_⟩
  rcases h.own.2 with ⟨h0, _⟩ | ⟨g, cap, cur, hv, _, hh, _⟩
  · injection h0 with h0; subst h0; cases hA
  · injection hv with hv
    subst hv
    exact ⟨cur, _, hh⟩
end
end
end Go.Proofs.YtcjinmgieiebbaaDoor
