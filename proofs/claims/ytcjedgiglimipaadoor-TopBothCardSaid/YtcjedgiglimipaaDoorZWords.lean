/-
  Maps whose keys are compared cell by cell, and equality of such keys. No program in sight.
  Chapter 7: pairs of sets: how they lie, as keys of maps, as records.
  The library's slices.Reverse on a row of one's own, by the shelf's contract.
  Chapter 7: the program's Words goes over all pairs that words lead to, the least word ahead: by its contract.
-/
import Derived.Test.YtcjedgiglimipaaDoorZOwn
import Derived.Maps.Keyed
import Derived.DeepKeys4
import Derived.Laws.StructEq
import Derived.Carry
import Derived.Test.YtcjedgiglimipaaDoorZSet
import Derived.Test.YtcjedgiglimipaaDoorZTy
import Derived.Test.YtcjedgiglimipaaDoorZIr
import Derived.Shelf.Slices.Reverse
import Derived.Lib.OwnBridge
import Derived.Test.YtcjedgiglimipaaDoorZBfs
namespace Go.Proofs.YtcjedgiglimipaaDoor
set_option linter.unusedSimpArgs false
set_option linter.unusedVariables false
set_option linter.unusedSectionVars false
section
open Go.RowKit

def KeyIs (P : Program) (k : TypeId) (v : Value) : Prop := ∃ l, keyOf P k v = some l
/-- Block b is a map with these entries, in this order. -/
def MapIs (P : Program) (k : TypeId) (w : World) (b : Nat) (kv : List (Value × Value)) : Prop :=
  ∃ es clock, w.heap[b]? = some (.map es clock) ∧ es.toList.map (fun e => (e.key, e.val)) = kv ∧ (∀ p ∈ kv, KeyIs P k p.1) ∧ kv.Pairwise fun p q => p.1 ≠ q.1
theorem pair_inj {kv : List (Value × Value)} (hnd : kv.Pairwise fun p q => p.1 ≠ q.1) {a x y : Value} (hx : (a, x) ∈ kv) (hy : (a, y) ∈ kv) : x = y := by
  induction kv with
  | nil => simp at hx
  | cons p kv ih =>
    obtain ⟨h1, h2⟩ := List.pairwise_cons.1 hnd
    rcases List.mem_cons.1 hx with e | hx'
    · rcases List.mem_cons.1 hy with e' | hy'
      · rw [← e] at e'; injection e' with _ h; exact h.symm
      · exact absurd (by rw [← e]) (h1 _ hy')
    · rcases List.mem_cons.1 hy with e' | hy'
      · exact absurd (by rw [← e']) (h1 _ hx')
      · exact ih h2 hx' hy'
section
variable {P : Program} {K : Fr → World → Prop} {k e t ty b : Nat} {u w w' : World} {f : Fr} {d : Option Nat} {kv : List (Value × Value)}
theorem MapIs.lt (h : MapIs P k w b kv) : b < w.heap.size := by
  obtain ⟨es, c, h1, _⟩ := h
  rcases Nat.lt_or_ge b w.heap.size with hlt | hge
  · exact hlt
  · rw [Array.getElem?_eq_none hge] at h1; cases h1
theorem MapIs.keep (h : MapIs P k w b kv) (hk : w'.heap[b]? = w.heap[b]?) : MapIs P k w' b kv := by
  obtain ⟨es, c, h1, h2⟩ := h
  exact ⟨es, c, hk.trans h1, h2⟩
theorem MapIs.below {B : Nat} (h : MapIs P k w b kv) (hb : Below B w w') (hB : b < B) : MapIs P k w' b kv := h.keep (hb.block b hB)
theorem MapIs.same (h : MapIs P k w b kv) (hs : Same w w') : MapIs P k w' b kv := h.keep (by rw [hs.heap])
theorem MapIs.grown {row : Option Nat} (h : MapIs P k w b kv) (hb : w.grownBy w' row) (hg : some b ≠ row) : MapIs P k w' b kv := h.keep (hb.block b h.lt hg)
theorem MapIs.alloc (h : MapIs P k w b kv) (o : Obj) : MapIs P k (w.alloc o) b kv := h.keep (Below.heap_alloc w o b h.lt)
theorem MapIs.ne_own {B e' sz : Nat} {A : Option Addr} {c n : Nat} {xs : List Value} (h : MapIs P k w b kv) (ho : Own B e' sz w A c n xs) : some b ≠ A.map (·.block) := by
  obtain ⟨es, cl, h1, _⟩ := h
  obtain ⟨_, h2⟩ := ho.own
  rcases h2 with ⟨h2, _⟩ | ⟨g', cap, cur, hv, hb, hh, r⟩
  · injection h2 with h3; subst h3; simp
  · injection hv with h3
    subst h3
    simp only [Option.map_some, ne_eq, Option.some.injEq]
    rintro rfl
    rw [h1] at hh
    cases hh
theorem MapIs.ne_blk {g t' : Nat} {cs : List Value} (h : MapIs P k w b kv) (ho : Blk w g t' cs) : b ≠ g := by
  obtain ⟨es, cl, h1, _⟩ := h
  rintro rfl
  unfold Blk at ho
  rw [h1] at ho
  cases ho
section
variable (t : TypeId) (ty : TypeId)
theorem e_makeMap : EffX P K (.makeMap t none) ty f d w = Eff1 P K (Instr.makeMap t none) f d w := by simp [EffX, valOf]
theorem e_mapUpdate (m x v : Operand) : EffX P K (.mapUpdate t m x v) ty f d w = Eff1 P K (do Instr.mapUpdate t (ev f m) (ev f x) (ev f v); pure undef) f d w := propext Iff.rfl
theorem e_insert (m x v : Operand) : EffX P K (.insert t m x v) ty f d w = Eff1 P K (do Instr.mapUpdate t (ev f m) (ev f x) (ev f v); pure undef) f d w := propext Iff.rfl
theorem v_lookup (m x : Operand) (ok : Bool) : ValX P K (.lookup t m x ok) ty u f d w = Val1 P K (Instr.lookup t (ev f m) (ev f x) ok) u f d w := propext Iff.rfl
end
theorem map_made (t : TypeId) (h : ∀ w', MapIs P k w' w.heap.size [] → Below w.heap.size w w' → w'.heap.size = w.heap.size + 1 → K (updO f d (.map (some w.heap.size))) w') : Eff1 P K (Instr.makeMap t none) f d w := by
  refine ⟨.map (some w.heap.size), w.alloc (.map #[] 0), ?_, h _ ⟨#[], 0, heap_alloc_new w _, rfl, by simp, List.Pairwise.nil⟩ ((Below.refl _ _).alloc (Nat.le_refl _) _) (by simp)⟩
  simp [Instr.makeMap, newObj]
  rfl
/-- m[k], in both forms -/
theorem map_look (L : Maps.Keyed P k) (ht : P.underlying t = some (.map k e)) {z : Value} (hz : (P.info? e).map (·.zero) = some (some z)) (ok : Bool) (h : MapIs P k u b kv) {key : Value} (hk : KeyIs P k key)
    (h1 : ∀ v, (key, v) ∈ kv → K (updO f d (if ok then .tuple #[v, .bool true] else v)) w) (h0 : (∀ p ∈ kv, p.1 ≠ key) → K (updO f d (if ok then .tuple #[z, .bool false] else z)) w) :
    Val1 P K (Instr.lookup t (.map (some b)) key ok) u f d w := by
  have hlt := h.lt
  obtain ⟨es, cl, hb, he, hl, hnd⟩ := h
  obtain ⟨lk, hlk⟩ := hk
  have hes : ∀ x ∈ es.toList, ∃ l, keyOf P k x.key = some l := fun x hx => hl (x.key, x.val) (by rw [← he]; exact List.mem_map.2 ⟨x, hx, rfl⟩)
  have hin : ∀ x ∈ es.toList, (x.key, x.val) ∈ kv := fun x hx => by rw [← he]; exact List.mem_map.2 ⟨x, hx, rfl⟩
  have hzr : ∀ w', (zeroValue e).run P w' = .ok z w' := fun w' => by
    cases hi : P.info? e with
    | none => simp [hi] at hz
    | some i =>
      simp only [hi, Option.map_some, Option.some.injEq] at hz
      simp [zeroValue, typeInfo, hi, hz]
  by_cases hex : ∃ x ∈ es.toList, x.key = key
  · obtain ⟨e0, hm, hkk⟩ := hex
    have h0v := hin e0 hm
    rw [hkk] at h0v
    refine ⟨_, fun w' hw' => ?_, h1 e0.val h0v⟩
    have hb' : w'.heap[b]? = some (.map es cl) := (hw'.block b hlt).trans hb
    rcases L.find w' hlk es.toList hes with ⟨_, hn⟩ | ⟨j, e1, hr, hj, hkk'⟩
    · exact absurd hkk (hn e0 hm)
    · have h1v := hin e1 (List.mem_of_getElem? hj)
      rw [hkk'] at h1v
      have : e1.val = e0.val := pair_inj hnd h1v h0v
      simp [Instr.lookup, run_underlying ht, MapKept.run_getObj_map hb', L.check w' _ hlk, hr, this, Result.andThen]
  · refine ⟨_, fun w' hw' => ?_, h0 fun p hp => ?_⟩
    · have hb' : w'.heap[b]? = some (.map es cl) := (hw'.block b hlt).trans hb
      rcases L.find w' hlk es.toList hes with ⟨hr, _⟩ | ⟨j, e0, _, hj, hkk⟩
      · simp [Instr.lookup, run_underlying ht, MapKept.run_getObj_map hb', L.check w' _ hlk, hr, hzr w', Result.andThen]
      · exact absurd ⟨e0, List.mem_of_getElem? hj, hkk⟩ hex
    · rw [← he] at hp
      obtain ⟨x, hx, rfl⟩ := List.mem_map.1 hp
      exact fun hh => hex ⟨x, hx, hh⟩
/-- m[k] = v, where there is none -/
theorem map_new (L : Maps.Keyed P k) (ht : P.underlying t = some (.map k e)) (h : MapIs P k w b kv) {key : Value} (hk : KeyIs P k key) (hn : ∀ p ∈ kv, p.1 ≠ key) (val : Value)
    (h1 : ∀ w', MapIs P k w' b (kv ++ [(key, val)]) → Grew w w' (some ⟨b, 0, none⟩) → w'.heap.size = w.heap.size → K (updO f d undef) w') :
    Eff1 P K (do Instr.mapUpdate t (.map (some b)) key val; pure undef) f d w := by
  have hlt := h.lt
  obtain ⟨es, cl, hb, he, hl, hnd⟩ := h
  have hk0 := hk
  obtain ⟨lk, hlk⟩ := hk
  have hes : ∀ x ∈ es.toList, ∃ l, keyOf P k x.key = some l := fun x hx => hl (x.key, x.val) (by rw [← he]; exact List.mem_map.2 ⟨x, hx, rfl⟩)
  have hne : ∀ x ∈ es.toList, x.key ≠ key := fun x hx => hn (x.key, x.val) (by rw [← he]; exact List.mem_map.2 ⟨x, hx, rfl⟩)
  have hs : (ChangeMaps.setBlock w b (.map (es.push ⟨key, val, cl⟩) (cl + 1))).heap[b]? = some (.map (es.push ⟨key, val, cl⟩) (cl + 1)) := by simp [ChangeMaps.setBlock, hlt]
  refine ⟨undef, ChangeMaps.setBlock w b (.map (es.push ⟨key, val, cl⟩) (cl + 1)), ?_, h1 _ ⟨_, _, hs, ?_, ?_, ?_⟩ ⟨⟨rfl, rfl, rfl, by simp [ChangeMaps.setBlock], fun j _ hj => ?_⟩⟩ (by simp [ChangeMaps.setBlock])⟩
  · rcases L.find w hlk es.toList hes with ⟨hr, _⟩ | ⟨j, e0, _, hj, hkk⟩
    · simp [Instr.mapUpdate, run_underlying ht, MapKept.run_getObj_map hb, L.check w _ hlk, hr, MapKept.run_setObj_map _ hb, Result.andThen, ChangeMaps.setBlock]
    · exact absurd hkk (hne e0 (List.mem_of_getElem? hj))
  · simp [he]
  · intro p hp
    rcases List.mem_append.1 hp with h | h
    · exact hl p h
    · rw [List.mem_singleton.1 h]; exact hk0
  · exact List.pairwise_append.2 ⟨hnd, by simp, fun p hp q hq => by rw [List.mem_singleton.1 hq]; exact hn p hp⟩
  · simp only [ChangeMaps.setBlock, Array.getElem?_setIfInBounds]
    rw [if_neg]
    intro e
    exact hj (by rw [e]; rfl)
end
end

section
open Go.RowKit

theorem laidOutK : laidOutB Tryd.prog = true := by kernel_rfl
theorem u64_wf {x : Nat} (h : x < 2 ^ 64) : (Lit.int .u64 (x : Int)).wf = true := by
  simp [Lit.wf, IntKind.min, IntKind.max, IntKind.signed, IntKind.bits]; omega
theorem lits_u64 (n : Nat) {x : Nat} (h : x < 2 ^ 64) : Tryd.prog.keyLits (n + 1) 74 [.int .u64 (x : Int)] = some [.int .u64 (x : Int)] := by
  have hu2 : Tryd.prog.underlying 74 = some (.int .u64) := Tryd.underlying74
  simp only [Program.keyLits, hu2, u64_wf h, and_self, if_true]
theorem lits_set (n : Nat) (l : List Int) : ∃ L, Tryd.prog.keyLits (n + 2) 76 (setCells (wordsOf l)) = some L := by
  have hW := wordsOf_words l
  generalize wordsOf l = ws at *
  match ws, hW.1 with
  | [a, b, c, d], _ =>
  have ha := lits_u64 n (hW.2 0)
  have hb := lits_u64 n (hW.2 1)
  have hc := lits_u64 n (hW.2 2)
  have hd := lits_u64 n (hW.2 3)
  simp only [List.getD_cons_zero, List.getD_cons_succ] at ha hb hc hd
  have hu : Tryd.prog.underlying 76 = some (.array 4 74) := Tryd.underlying76
  have hc4 : Tryd.prog.cellsOf 76 = 4 := by kernel_rfl
  have hc1 : Tryd.prog.cellsOf 74 = 1 := by kernel_rfl
  unfold Program.keyLits
  simp only [hu, hc4, hc1, setCells, List.map_cons, List.map_nil, List.length_cons, List.length_nil, Nat.zero_add, Nat.reduceAdd, if_true]
  simp [List.range_succ, ha, hb, hc, hd]
theorem setV_eq {l m : List Int} : setV l = setV m ↔ wordsOf l = wordsOf m := by
  refine ⟨fun h => ?_, fun h => by unfold setV; rw [h]⟩
  injection h with h
  have h2 : setCells (wordsOf l) = setCells (wordsOf m) := by simpa using congrArg Array.toList h
  unfold setCells at h2
  exact (List.map_inj_right (fun a b hab => by injection hab with _ h; exact Int.ofNat.inj h)).1 h2

def pairCells (a b : List Int) : List Value := setCells (wordsOf a) ++ setCells (wordsOf b)
abbrev pairV (a b : List Int) : Value := .agg (pairCells a b).toArray
theorem pairCells_len (a b : List Int) : (pairCells a b).length = 8 := by simp [pairCells, setCells_4]
theorem pairCells_one (a b : List Int) : (pairCells a b).all (·.oneCell') = true := by
  unfold pairCells
  rw [List.all_append, setCells_one, setCells_one]; rfl
theorem keyed_pair : Maps.Keyed Tryd.prog 172 := Maps.Keyed.of_law (deep_law_laid laidOutK (m := 4) (by decide) (of_decide_eq_true (by kernel_rfl)) (by kernel_rfl) (by kernel_rfl))
theorem key_pair (a b : List Int) : KeyIs Tryd.prog 172 (pairV a b) := by
  have hs : Tryd.prog.types.size + 1 = (Tryd.prog.types.size - 2) + 2 + 1 := by
    have : 2 < Tryd.prog.types.size := of_decide_eq_true (by kernel_rfl)
    omega
  obtain ⟨L, hL⟩ := lits_set (Tryd.prog.types.size - 2) a
  obtain ⟨M, hM⟩ := lits_set (Tryd.prog.types.size - 2) b
  obtain ⟨n, hn⟩ : ∃ n, Tryd.prog.types.size - 2 + 2 = n := ⟨_, rfl⟩
  rw [hn] at hs hL hM
  obtain ⟨f0, f1, hu, h0, h1, o0, o1, n0, n1⟩ : ∃ f0 f1 : Field, Tryd.prog.underlying 172 = some (.struct #[f0, f1]) ∧ f0.type = 76 ∧ f1.type = 76 ∧ f0.offset = 0 ∧ f1.offset = 4 ∧ (f0.name != "_") = true ∧ (f1.name != "_") = true :=
    ⟨_, _, Tryd.underlying172, by kernel_rfl, by kernel_rfl, by kernel_rfl, by kernel_rfl, by kernel_rfl, by kernel_rfl⟩
  have hk : Tryd.prog.keyType 172 = true := by kernel_rfl
  have hc8 : Tryd.prog.cellsOf 172 = 8 := by kernel_rfl
  have hc4 : Tryd.prog.cellsOf 76 = 4 := by kernel_rfl
  have hf : (pairV a b).formed Tryd.prog 172 = true := by
    simp only [pairV, Value.formed, hu, hc8, beq_iff_eq, List.size_toArray]
    exact pairCells_len a b
  unfold KeyIs keyOf
  simp only [hu, hk, hf, Bool.and_self, if_true]
  refine ⟨.string (keyBytes (L ++ M)), ?_⟩
  have : Tryd.prog.keyLits (Tryd.prog.types.size + 1) 172 (pairV a b).cells.toList = some (L ++ M) := by
    rw [hs]
    have e0 : ((pairCells a b).drop 0).take 4 = setCells (wordsOf a) := by
      unfold pairCells
      rw [List.drop_zero]; exact List.take_left' (setCells_4 a)
    have e1 : ((pairCells a b).drop 4).take 4 = setCells (wordsOf b) := by
      unfold pairCells
      rw [List.drop_left' (setCells_4 a)]; exact List.take_of_length_le (by rw [setCells_4]; exact Nat.le_refl _)
    show Tryd.prog.keyLits (n + 1) 172 (pairCells a b) = _
    unfold Program.keyLits
    simp only [hu, hc8, pairCells_len, true_and]
    rw [if_pos (by simp [n0, n1])]
    simp [h0, h1, o0, o1, hc4, e1, hM]
    simp at e0
    simp [e0, hL]
  rw [this]; rfl
end

section
open Go.RowKit Go.Shelf Go.Lib Go.Sort

def renRev : Go.Shelf.Ren := ⟨fun | 112 => 126 | n => n, fun | 28 => 22 | 3 => 3 | 4 => 4 | 0 => 0 | n => n, fun | n => n⟩
theorem laysRev : Go.Proofs.Lays.n112 Tryd.prog renRev := {
  mixed := by kernel_rfl
  f112 := Tryd.func126.trans (congrArg some (by kernel_rfl))
  t0 := Tryd.underlying0
  a0 := Tryd.isAgg0
  z0 := Tryd.sizeOf0
  v0 := Tryd.zeroValue0
  t3 := Tryd.underlying3
  a3 := Tryd.isAgg3
  z3 := Tryd.sizeOf3
  v3 := Tryd.zeroValue3
  t4 := Tryd.underlying4
  a4 := Tryd.isAgg4
  z4 := Tryd.sizeOf4
  v4 := Tryd.zeroValue4
  t28 := Tryd.underlying22
  a28 := Tryd.isAgg22
  z28 := Tryd.sizeOf22
  v28 := Tryd.zeroValue22 }
theorem slices_Reverse {B e : Nat} {w : World} {A : Option Addr} {c : Nat} {l : List Int} (ho : OwnI B e w A c l) (hl : l.length ≤ 9223372036854775807) :
    Cal Tryd.prog 126 [.slice A l.length c] w fun v w' => v = .tuple #[] ∧ OwnI B e w' A c l.reverse ∧ Grew w w' A := by
  refine ⟨k_slices_Reverse, ?_⟩
  rcases ho.form with ⟨rfl, h0, rfl, _⟩ | ⟨g, rfl, hB, hg⟩
  · have hn : l = [] := List.eq_nil_of_length_eq_zero h0
    subst hn
    exact (Any.slices_Reverse_int_empty laysRev none 0 w).mono fun e W ⟨h1, h2⟩ => ⟨_, h1, rfl, by rw [h2]; exact ho, by rw [h2]; exact ⟨World.grownBy.refl w _⟩⟩
  · have hown : w.ownsRow B e 1 (.slice (some ⟨g, 0, none⟩) l.length c) l.length (l.map (Value.int .i64)) := ho.own
    obtain ⟨g', cap, hv, _, _, _, _, _, hH⟩ := holds_of_ownsRow hown (by intro h; injection h with h; cases h)
    injection hv with hv _ _
    injection hv with hv
    injection hv with hv
    subst hv
    refine (Any.slices_Reverse_int laysRev g 0 c l w hH hl).mono fun e' W ⟨h1, n, h2⟩ => ⟨_, h1, rfl, ?_, ?_⟩
    · subst h2
      have h3 := ownsRow_putRow (q := n) (k := l.length) (ys := l.reverse) hown (by simp) (Nat.le_refl _)
      refine ⟨?_⟩
      rw [List.take_of_length_le (by simp)] at h3
      rw [List.length_reverse]
      exact h3
    · subst h2
      exact ⟨⟨rfl, rfl, rfl, by simp [putRow, mapBlock, Sort.ahead], fun k _ hk => by
        have hk' : g ≠ k := fun e => hk (by rw [e]; rfl)
        simp [putRow, mapBlock, Sort.ahead, Array.getElem?_modify, hk']⟩⟩
end

section
open Go.RowKit

abbrev St := List Int × List Int
abbrev PL := St × Int × Int
abbrev stV (s : St) : Value := pairV s.1 s.2
def plCells (p : PL) : List Value := pairCells p.1.1 p.1.2 ++ [.int .i64 p.2.1, .int .i64 p.2.2]
theorem plEnc : Enc plCells 10 := ⟨fun p => by simp [plCells, pairCells_len], fun p u hu => by
  unfold plCells at hu
  rcases List.mem_append.1 hu with h | h
  · exact List.all_eq_true.1 (pairCells_one _ _) u h
  · rcases List.mem_cons.1 h with rfl | h
    · rfl
    · rcases List.mem_cons.1 h with rfl | h
      · rfl
      · cases h⟩
theorem plCells_8 (p : PL) : (plCells p)[8]? = some (.int .i64 p.2.1) := by
  unfold plCells
  rw [List.getElem?_append_right (by rw [pairCells_len]; exact Nat.le_refl _), pairCells_len]; rfl
theorem plCells_9 (p : PL) : (plCells p)[9]? = some (.int .i64 p.2.2) := by
  unfold plCells
  rw [List.getElem?_append_right (by rw [pairCells_len]; decide), pairCells_len]; rfl
theorem plCells_pair (p : PL) : ∀ k v, (pairCells p.1.1 p.1.2)[k]? = some v → (plCells p)[0 + k]? = some v := fun k v h => by
  unfold plCells
  rw [Nat.zero_add, List.getElem?_append_left (by
    rcases Nat.lt_or_ge k (pairCells p.1.1 p.1.2).length with h1 | h1
    · exact h1
    · rw [List.getElem?_eq_none h1] at h; cases h)]
  exact h
theorem blt_place : builtPl Tryd.prog 185 = some ([(0, 8), (8, 1), (9, 1)], [.int .u64 0, .int .u64 0, .int .u64 0, .int .u64 0, .int .u64 0, .int .u64 0, .int .u64 0, .int .u64 0, .int .i64 0, .int .i64 0]) := by kernel_rfl
theorem bl_place {K : Fr → World → Prop} {u : World} {f : Fr} {d : Option Nat} {w : World} (a b : List Int) (x y : Int) :
    Val1 Tryd.prog K (Instr.build 185 #[(0, pairV a b), (1, .int .i64 x), (2, .int .i64 y)]) u f d w = K (updO f d (.agg (plCells ((a, b), x, y)).toArray)) w := by
  have := bld_3 (P := Tryd.prog) (K := K) (u := u) (f := f) (d := d) (w := w) blt_place rfl rfl rfl rfl (v0 := pairV a b) (v1 := .int .i64 x) (v2 := .int .i64 y) (by simp [Value.cells, pairCells_len]) rfl rfl
  rw [this]
  simp [plCells, Value.cells]

def UP (s : St) : Prop := (Strict s.1 ∧ Small s.1) ∧ Strict s.2 ∧ Small s.2
theorem stV_inj {s t : St} (hs : UP s) (ht : UP t) (h : stV s = stV t) : s = t := by
  injection h with h
  have h : pairCells s.1 s.2 = pairCells t.1 t.2 := by simpa using congrArg Array.toList h
  unfold pairCells at h
  obtain ⟨h1, h2⟩ := List.append_inj h (by rw [setCells_4, setCells_4])
  have e1 : wordsOf s.1 = wordsOf t.1 := setV_eq.1 (by unfold setV setVal; rw [h1])
  have e2 : wordsOf s.2 = wordsOf t.2 := setV_eq.1 (by unfold setV setVal; rw [h2])
  exact Prod.ext (wordsOf_inj hs.1.1 ht.1.1 hs.1.2 ht.1.2 e1) (wordsOf_inj hs.2.1 ht.2.1 hs.2.2 ht.2.2 e2)

/-- Whence each place was come to. -/
def Par (pl : List PL) (L : List (St × List Int)) : Prop :=
  pl.map (·.1) = L.map (·.1) ∧ ∀ j p q, pl[j]? = some p → L[j]? = some q → (p.2.1 = -1 ∧ q.2 = []) ∨ ∃ i : Nat, p.2.1 = (i : Int) ∧ i < j ∧ ∃ q', L[i]? = some q' ∧ q.2 = q'.2 ++ [p.2.2]
theorem Par.len {pl : List PL} {L : List (St × List Int)} (h : Par pl L) : pl.length = L.length := by simpa using congrArg List.length h.1
theorem Par.at_ {pl : List PL} {L : List (St × List Int)} (h : Par pl L) {j : Nat} {p : PL} (hp : pl[j]? = some p) : ∃ q, L[j]? = some q ∧ q.1 = p.1 := by
  have h1 : (pl.map (·.1))[j]? = some p.1 := by rw [List.getElem?_map, hp]; rfl
  rw [h.1, List.getElem?_map] at h1
  cases hq : L[j]? with
  | none => rw [hq] at h1; cases h1
  | some q => rw [hq] at h1; exact ⟨q, rfl, by simpa using h1⟩
theorem Par.snoc {pl : List PL} {L : List (St × List Int)} (h : Par pl L) {k : Nat} {q' : St × List Int} (hk : L[k]? = some q') (s : St) (e : Int) : Par (pl ++ [(s, (k : Int), e)]) (L ++ [(s, q'.2 ++ [e])]) := by
  have hl := h.len
  have hkl : k < L.length := by
    rcases Nat.lt_or_ge k L.length with h1 | h1
    · exact h1
    · rw [List.getElem?_eq_none h1] at hk; cases hk
  refine ⟨by simp [h.1], fun j p q hp hq => ?_⟩
  by_cases hj : j < pl.length
  · rw [List.getElem?_append_left hj] at hp
    rw [List.getElem?_append_left (by omega)] at hq
    rcases h.2 j p q hp hq with h1 | ⟨i, h1, h2, q2, h3, h4⟩
    · exact .inl h1
    · exact .inr ⟨i, h1, h2, q2, by rw [List.getElem?_append_left (by omega)]; exact h3, h4⟩
  · have hjl : j = pl.length := by
      rcases Nat.lt_or_ge j (pl.length + 1) with h1 | h1
      · omega
      · rw [List.getElem?_eq_none (by simp; omega)] at hp; cases hp
    subst hjl
    rw [List.getElem?_append_right (Nat.le_refl _)] at hp
    rw [List.getElem?_append_right (by omega)] at hq
    simp at hp
    rw [hl] at hq
    simp at hq
    subst hp hq
    exact .inr ⟨k, rfl, by omega, q', by rw [List.getElem?_append_left (by omega)]; exact hk, rfl⟩

def evs (n : Nat) : List Int := (List.range n).map fun (i : Nat) => (i : Int)
theorem evs_len (n : Nat) : (evs n).length = n := by simp [evs]
theorem evs_at (n j : Nat) (h : j < n) : (evs n).getD j 0 = j := by simp [evs, List.getD_eq_getElem?_getD, h]
theorem evs_mem {n : Nat} {e : Int} : e ∈ evs n ↔ 0 ≤ e ∧ e < n := by
  unfold evs
  simp only [List.mem_map, List.mem_range]
  exact ⟨fun ⟨i, h, e⟩ => by omega, fun h => ⟨e.toNat, by omega, by omega⟩⟩
/-- The first place where something is so. -/
def FirstIs (step : St → Int → St) (found : St → Bool) (es : List Int) (first : St) (b : Bool) (o : List Int) : Prop :=
  (b = true ∧ ∃ k q, (bIter step es first k)[k]? = some q ∧ found q.1 = true ∧ o = q.2 ∧ ∀ j, j < k → ∀ p : St × List Int, (bIter step es first k)[j]? = some p → found p.1 = false) ∨
  (b = false ∧ o = [] ∧ ∃ k, (bIter step es first k).length = k ∧ ∀ (j : Nat) (p : St × List Int), (bIter step es first k)[j]? = some p → found p.1 = false)
theorem Recs.lt {α : Type} {enc : α → List Value} {sz : Nat} (E : Enc enc sz) (hs : 0 < sz) {ok : Nat → Prop} {w : World} {A : Option Addr} {l : List α} (h : Recs enc sz ok w A l) : Recs enc sz (· < w.heap.size) w A l :=
  ⟨h.isSome, fun hl => by
    have h0 : l[0]? = some (l[0]'hl) := List.getElem?_eq_getElem hl
    have h1 : (enc (l[0]'hl))[0]? = some ((enc (l[0]'hl))[0]'(by rw [E.len]; exact hs)) := List.getElem?_eq_getElem _
    have := World.block_lt_of_cell? w _ (h.cell 0 _ h0 0 _ h1)
    rwa [eA_block] at this, h.cell⟩

theorem within_Words {w : World} {first : St} {n N : Nat} {g g' : FuncId} {cap cap' : Array Value} {step : St → Int → St} {found : St → Bool} (h0 : UP first) (hn : n ≤ 1000)
    (hU : ∀ s, UP s → ∀ e ∈ evs n, UP (step s e)) (hN : ∀ k j, (bPart step (evs n) first k j).length ≤ N) (hN1 : N ≤ 1000000)
    (hstep : ∀ w', Below w.heap.size w w' → ∀ s, UP s → ∀ e : Int, 0 ≤ e → e < n → Cal Tryd.prog g ([stV s, .int .i64 e] ++ cap.toList) w' fun v w2 => v = stV (step s e) ∧ Below w'.heap.size w' w2)
    (hfound : ∀ w', Below w.heap.size w w' → ∀ s, UP s → Cal Tryd.prog g' ([stV s] ++ cap'.toList) w' fun v w2 => v = .bool (found s) ∧ Below w'.heap.size w' w2) :
    Cal Tryd.prog 116 [stV first, .int .i64 n, .func (.func g) #[] cap, .func (.func g') #[] cap'] w fun v w' =>
      ∃ O co o b, v = .tuple #[.slice O o.length co, .bool b] ∧ OwnI w.heap.size 3 w' O co o ∧ Below w.heap.size w w' ∧ FirstIs step found (evs n) first b o := by
  have hN' : ∀ k, (bIter step (evs n) first k).length ≤ N := fun k => hN k 0
  have hmt : Tryd.prog.underlying 183 = some (.map 172 3) := Tryd.underlying183
  have hzi : (Tryd.prog.info? 3).map (·.zero) = some (some (.int .i64 0)) := by kernel_rfl
  refine cal_within_Words (by simp) 100000 fun Q hQ => ?_
  simp (disch := first | with_reducible assumption | omega) only [push_cast, x_blk, x_cd, ↓reduceIte, Nat.reduceEqDiff, List.map_cons, List.map_nil, Int.reduceEq, Int.lt_irrefl, F_within_Words]
  refine blk_of (box_agg _ (pairCells first.1 first.2)) ?_
  intro w1 k1 b1 z1
  simp (disch := first | with_reducible assumption | omega) only [push_cast, x_blk, x_cd, ↓reduceIte, Nat.reduceEqDiff, List.map_cons, List.map_nil, Int.reduceEq, Int.lt_irrefl, e_makeMap]
  refine map_made (k := 172) _ ?_
  intro w2 m2 b2 z2
  have k2 := k1.below b2 (by omega)
  have b2 := b1.trans (b2.mono b1.size)
  simp (disch := first | with_reducible assumption | omega) only [push_cast, x_blk, x_cd, ↓reduceIte, Nat.reduceEqDiff, List.map_cons, List.map_nil, Int.reduceEq, Int.lt_irrefl, e_insert, k2.ldAll ty_ag_172 (by rw [pairCells_len]; exact ty_sz_172)]
  refine map_new keyed_pair hmt m2 (key_pair _ _) (by simp) _ ?_
  intro w3 m3 g3 z3
  have k3 := k2.grown g3.by_ (by simp; omega)
  have b3 := g3.below b2 b2.size (by intro a ha; injection ha with ha; subst ha; show w.heap.size ≤ w1.heap.size; omega)
  simp (disch := first | with_reducible assumption | omega) only [push_cast, x_blk, x_cd, ↓reduceIte, Nat.reduceEqDiff, List.map_cons, List.map_nil, Int.reduceEq, Int.lt_irrefl, k3.ldAll ty_ag_172 (by rw [pairCells_len]; exact ty_sz_172), bl_place, bs_rec plEnc slT_186 _ (by decide)]
  have o4 := own_rec plEnc w3 (first, (-1 : Int), (-1 : Int)) 185
  have b4 : Below w3.heap.size w3 (w3.alloc (.cells (plCells (first, (-1 : Int), (-1 : Int))).toArray 185)) := (Below.refl _ _).alloc (Nat.le_refl _) _
  generalize w3.alloc (.cells (plCells (first, (-1 : Int), (-1 : Int))).toArray 185) = w4 at *
  have m4 := m3.below b4 m3.lt
  have z3' := b3.size
  replace b4 := b3.trans (b4.mono b3.size)
  replace o4 := o4.base (B' := w.heap.size) z3'
  refine loop_rule (fun f w' => ∃ (k : Nat) (pl : List PL) (A : Option Addr) (c : Nat) (kv : List (Value × Value)), k ≤ pl.length ∧
      (f 1 = .int .i64 n ∧ f 2 = .func (.func g) #[] cap ∧ f 3 = .func (.func g') #[] cap' ∧ f 10 = .map (some w1.heap.size) ∧ f 11 = .slice A pl.length c ∧ f 12 = .int .i64 k) ∧
      Par pl (bIter step (evs n) first k) ∧ kv.map (·.1) = pl.map (fun p => stV p.1) ∧ (∀ j, j < k → ∀ q : St × List Int, (bIter step (evs n) first k)[j]? = some q → found q.1 = false) ∧
      OwnR plCells w.heap.size 185 10 w' A c pl ∧ MapIs Tryd.prog 172 w' w1.heap.size kv ∧ Below w.heap.size w w')
    (fun f _ => N + 1 - (intOf (f 12)).toNat) ⟨0, [(first, -1, -1)], _, 1, _, by simp, ⟨rfl, rfl, rfl, rfl, rfl, rfl⟩, ⟨rfl, fun j p q hp hq => .inl (by
      match j with
      | 0 => simp [bIter] at hp hq; subst hp hq; exact ⟨rfl, rfl⟩
      | j + 1 => simp at hp)⟩, rfl, fun j hj => absurd hj (by omega), o4, m4, b4⟩ ?_
  clear o4 m4 b4 k3 m3 b3 g3 k2 m2 b2 k1 b1
  rintro f w5 ⟨k, pl, A, c, kv, hk, fr, hpar, hkv, hnf, ho, hm, b5⟩ J hJ
  have hlen := hpar.len
  have hkN := hN' k
  by_cases hlt : k < pl.length
  case neg =>
    have hke : (bIter step (evs n) first k).length = k := by omega
    simp (disch := first | with_reducible assumption | omega) only [push_cast, x_blk, x_cd, ↓reduceIte, Nat.reduceEqDiff, List.map_cons, List.map_nil, Int.reduceEq, Int.lt_irrefl, L_within_Words_2, fr, hlt]
    exact fin_2 (hQ _ _ ⟨none, 0, [], false, (by simp only [push_cast, ↓reduceIte, Nat.reduceEqDiff, Int.reduceEq, List.length_nil]), Own.nil _ _ _ _, b5, .inr ⟨rfl, rfl, k, hke, fun j q hq => hnf j (by
      rcases Nat.lt_or_ge j k with h1 | h1
      · exact h1
      · rw [List.getElem?_eq_none (by omega)] at hq; cases hq) q hq⟩⟩)
  have hpk : pl[k]? = some (pl[k]'hlt) := List.getElem?_eq_getElem hlt
  generalize pl[k]'hlt = p at hpk
  obtain ⟨q, hq, hqp⟩ := hpar.at_ hpk
  have hA := ho.isSome (by omega)
  have hR := Recs.lt plEnc (by decide) (OwnR.recs ho plEnc (by decide))
  have hgood := bIter_good (step := step) (es := evs n) hU h0 k
  have hUp : UP p.1 := hqp ▸ hgood.univ q (List.mem_of_getElem? hq)
  have hldp := fun {K : Fr → World → Prop} {f : Fr} {d : Option Nat} {w' : World} => Recs.ldA (P := Tryd.prog) (K := K) (f := f) (d := d) (w := w') hR ty_ag_172 hpk 0 (vs := pairCells p.1.1 p.1.2) (by rw [pairCells_len]; exact ty_sz_172) (plCells_pair p)
  simp (disch := first | with_reducible assumption | omega) only [push_cast, x_blk, x_cd, ↓reduceIte, Nat.reduceEqDiff, List.map_cons, List.map_nil, Int.reduceEq, Int.lt_irrefl, L_within_Words_2, fr, hlt, hldp]
  refine call_of (hfound w5 b5 p.1 hUp) ?_
  rintro v w6 ⟨rfl, b56⟩
  have ho6 := ho.below b56 (Nat.le_refl _)
  have hm6 := hm.below b56 hm.lt
  have b6 := b5.trans (b56.mono b5.size)
  have hmu : (intOf (f 12)).toNat = k := by rw [fr.2.2.2.2.2]; simp [intOf]
  by_cases hf : found p.1 = true
  · have hRF := (Recs.lt plEnc (by decide) (OwnR.recs ho6 plEnc (by decide)))
    simp (disch := first | with_reducible assumption | omega) only [push_cast, x_blk, x_cd, ↓reduceIte, Nat.reduceEqDiff, List.map_cons, List.map_nil, Int.reduceEq, Int.lt_irrefl, hf]
    refine loop_rule (fun f' w' => ∃ (i : Nat) (acc : List Int) (A' : Option Addr) (c' : Nat), i + acc.length ≤ k ∧
        (f' 11 = .slice A pl.length c ∧ f' 13 = .slice A' acc.length c' ∧ f' 14 = .int .i64 i) ∧ (∃ qi, (bIter step (evs n) first k)[i]? = some qi ∧ q.2 = qi.2 ++ acc.reverse) ∧
        OwnI w6.heap.size 3 w' A' c' acc ∧ Below w6.heap.size w6 w')
      (fun f' _ => (intOf (f' 14)).toNat) ⟨k, [], none, 0, by simp, (by simp only [push_cast, ↓reduceIte, Nat.reduceEqDiff, true_and, and_true, and_self, eq_self, fr, List.length_nil]), ⟨q, hq, by simp⟩, Own.nil _ _ _ _, Below.refl _ _⟩ ?_
    rintro f w7 ⟨i, acc, A', c', hia, fr, ⟨qi, hqi, hqa⟩, hoa, b7⟩ J2 hJ2
    have hil : i < pl.length := by omega
    have hR7 := hRF.below b7
    have hpi : pl[i]? = some (pl[i]'hil) := List.getElem?_eq_getElem hil
    generalize pl[i]'hil = pi at hpi
    have hA6 := ho6.isSome (by omega)
    have hl8 := fun {K : Fr → World → Prop} {f : Fr} {d : Option Nat} {w' : World} => hR7.ld (P := Tryd.prog) (K := K) (f := f) (d := d) (w := w') ty_ag_3 hpi (plCells_8 pi)
    have hl9 := fun {K : Fr → World → Prop} {f : Fr} {d : Option Nat} {w' : World} => hR7.ld (P := Tryd.prog) (K := K) (f := f) (d := d) (w := w') ty_ag_3 hpi (plCells_9 pi)
    rcases hpar.2 i pi qi hpi hqi with ⟨hfr, hq0⟩ | ⟨i', hfr, hi', q2, hq2, hqw⟩
    · have hneg : ¬ ((0 : Int) ≤ pi.2.1) := by omega
      simp (disch := first | with_reducible assumption | omega) only [push_cast, x_blk, x_cd, ↓reduceIte, Nat.reduceEqDiff, List.map_cons, List.map_nil, Int.reduceEq, Int.lt_irrefl, L_within_Words_1, fr, hil, hl8, hneg]
      refine call_of (slices_Reverse hoa (by omega)) ?_
      rintro v w8 ⟨rfl, ho8, hg8⟩
      have b8 := hg8.below b7 b7.size hoa.geB
      have hw : q.2 = acc.reverse := by rw [hqa, hq0]; rfl
      simp (disch := first | with_reducible assumption | omega) only [push_cast, x_blk, x_cd, ↓reduceIte, Nat.reduceEqDiff, List.map_cons, List.map_nil, Int.reduceEq, Int.lt_irrefl, fr]
      refine fin_2 (hQ _ _ ⟨A', c', acc.reverse, true, (by simp only [push_cast, ↓reduceIte, Nat.reduceEqDiff, Int.reduceEq, List.length_reverse]), ho8.base b6.size, b6.trans (b8.mono b6.size), .inl ⟨rfl, k, q, hq, by rw [hqp]; exact hf, hw.symm, hnf⟩⟩)
    · have hpos : (0 : Int) ≤ pi.2.1 := by omega
      simp (disch := first | with_reducible assumption | omega) only [push_cast, x_blk, x_cd, ↓reduceIte, Nat.reduceEqDiff, List.map_cons, List.map_nil, Int.reduceEq, Int.lt_irrefl, L_within_Words_1, fr, hil, hl8, hl9, hpos]
      refine app_int slT_22 hoa pi.2.2 (by omega) b7.size ?_
      intro A2 c2 w8 ho8 hg8 hA8 hs8 hz8
      have b8 := hg8.below b7 b7.size hoa.geB
      have hR8 := hRF.below b8
      have hl8 := fun {K : Fr → World → Prop} {f : Fr} {d : Option Nat} {w' : World} => hR8.ld (P := Tryd.prog) (K := K) (f := f) (d := d) (w := w') ty_ag_3 hpi (plCells_8 pi)
      simp (disch := first | with_reducible assumption | omega) only [push_cast, x_blk, x_cd, ↓reduceIte, Nat.reduceEqDiff, List.map_cons, List.map_nil, Int.reduceEq, Int.lt_irrefl, fr, hil, hl8, hfr]
      refine hJ2 _ _ ⟨i', acc ++ [pi.2.2], A2, c2, by simp; omega, (by simp only [push_cast, ↓reduceIte, Nat.reduceEqDiff, true_and, and_true, and_self, eq_self, fr, List.length_append, List.length_cons, List.length_nil]), ⟨q2, hq2, by rw [hqa, hqw]; simp⟩, ho8, b8⟩ (by simp only [push_cast, ↓reduceIte, Nat.reduceEqDiff, intOf, fr]; omega)
  · have hf' : found p.1 = false := by simpa using hf
    simp (disch := first | with_reducible assumption | omega) only [push_cast, x_blk, x_cd, ↓reduceIte, Nat.reduceEqDiff, List.map_cons, List.map_nil, Int.reduceEq, Int.lt_irrefl, hf', fr]
    refine loop_rule (fun f' w' => ∃ (j : Nat) (pl : List PL) (A : Option Addr) (c : Nat) (kv : List (Value × Value)), j ≤ n ∧
        (f' 1 = .int .i64 n ∧ f' 2 = .func (.func g) #[] cap ∧ f' 3 = .func (.func g') #[] cap' ∧ f' 10 = .map (some w1.heap.size) ∧ f' 11 = .slice A pl.length c ∧ f' 12 = .int .i64 k ∧ f' 61 = .int .i64 n ∧ f' 62 = .int .i64 j) ∧
        Par pl (bPart step (evs n) first k j) ∧ kv.map (·.1) = pl.map (fun p => stV p.1) ∧
        OwnR plCells w.heap.size 185 10 w' A c pl ∧ MapIs Tryd.prog 172 w' w1.heap.size kv ∧ Below w.heap.size w w')
      (fun f' _ => n - (intOf (f' 62)).toNat) ⟨0, pl, A, c, kv, Nat.zero_le _, (by simp only [push_cast, ↓reduceIte, Nat.reduceEqDiff, true_and, and_true, and_self, eq_self, fr]), hpar, hkv, ho6, hm6, b6⟩ ?_
    have hpre := bPart_prefix (step := step) (es := evs n) first k
    clear ho6 hm6 b6 b56 hm ho hR hA hpk hlt hlen hkv hpar fr hk b5 hldp
    rintro f w5 ⟨j, pl, A, c, kv, hj, fr, hpar, hkv, ho, hm, b5⟩ J2 hJ2
    have hlen := hpar.len
    have hjN := hN k j
    have hklt : k < (bIter step (evs n) first k).length := by
      rcases Nat.lt_or_ge k (bIter step (evs n) first k).length with h1 | h1
      · exact h1
      · rw [List.getElem?_eq_none h1] at hq; cases hq
    have hq2 : (bPart step (evs n) first k j)[k]? = some q := by rw [prefix_getElem? (hpre j) hklt]; exact hq
    by_cases hjt : j < n
    case neg =>
      obtain rfl : j = n := by omega
      have hall := bPart_all (step := step) (es := evs j) first k
      rw [evs_len] at hall
      rw [hall] at hpar hlen hjN
      have hkp : k + 1 ≤ pl.length := by have := (hpre j).length_le; rw [hall] at this; omega
      simp (disch := first | with_reducible assumption | omega) only [push_cast, x_blk, x_cd, ↓reduceIte, Nat.reduceEqDiff, List.map_cons, List.map_nil, Int.reduceEq, Int.lt_irrefl, L_within_Words_0, fr, Nat.lt_irrefl]
      refine hJ _ _ ⟨k + 1, pl, A, c, kv, hkp, (by simp only [push_cast, ↓reduceIte, Nat.reduceEqDiff, true_and, and_true, and_self, eq_self, fr]), hpar, hkv, fun i hi r hr => ?_, ho, hm, b5⟩ (by rw [hmu]; simp only [push_cast, ↓reduceIte, Nat.reduceEqDiff, intOf, fr]; omega)
      have hpre1 := bIter_succ_prefix (step := step) (es := evs j) first k
      rw [prefix_getElem? hpre1 (by omega)] at hr
      by_cases hik : i < k
      · exact hnf i hik r hr
      · obtain rfl : i = k := by omega
        rw [hq] at hr
        rw [← Option.some.inj hr, hqp]; exact hf'
    have hlt : k < pl.length := by have := (hpre j).length_le; omega
    have hpk : pl[k]? = some (pl[k]'hlt) := List.getElem?_eq_getElem hlt
    generalize pl[k]'hlt = p' at hpk
    have hpp : p'.1 = p.1 := by
      obtain ⟨q2, h1, h2⟩ := hpar.at_ hpk
      rw [hq2] at h1
      rw [← h2, ← Option.some.inj h1, hqp]
    have hA := ho.isSome (by omega)
    have hR := Recs.lt plEnc (by decide) (OwnR.recs ho plEnc (by decide))
    have hldp := fun {K : Fr → World → Prop} {f : Fr} {d : Option Nat} {w' : World} => Recs.ldA (P := Tryd.prog) (K := K) (f := f) (d := d) (w := w') hR ty_ag_172 hpk 0 (vs := pairCells p.1.1 p.1.2) (by rw [pairCells_len]; exact ty_sz_172) (fun k v h => plCells_pair p' k v (by rw [hpp]; exact h))
    simp (disch := first | with_reducible assumption | omega) only [push_cast, x_blk, x_cd, ↓reduceIte, Nat.reduceEqDiff, List.map_cons, List.map_nil, Int.reduceEq, Int.lt_irrefl, L_within_Words_0, fr, hjt, hlt, hldp]
    refine call_of (hstep w5 b5 p.1 hUp j (by omega) (by omega)) ?_
    rintro v w6 ⟨rfl, b56⟩
    have ho6 := ho.below b56 (Nat.le_refl _)
    have hm6 := hm.below b56 hm.lt
    have b6 := b5.trans (b56.mono b5.size)
    have hUs : UP (step p.1 j) := hU _ hUp _ (evs_mem.2 ⟨by omega, by omega⟩)
    generalize hs : step p.1 j = s at *
    simp (disch := first | with_reducible assumption | omega) only [push_cast, x_blk, x_cd, ↓reduceIte, Nat.reduceEqDiff, List.map_cons, List.map_nil, Int.reduceEq, Int.lt_irrefl, fr]
    refine blk_of (cs := pairCells [] []) al_172 ?_
    intro w7 k7 b7 z7
    have ho7 := ho6.below b7 (Nat.le_refl _)
    have hm7 := hm6.below b7 hm6.lt
    have z6 := b6.size
    have b7 := b6.trans (b7.mono b6.size)
    simp (disch := first | with_reducible assumption | omega) only [push_cast, x_blk, x_cd, ↓reduceIte, Nat.reduceEqDiff, List.map_cons, List.map_nil, Int.reduceEq, Int.lt_irrefl]
    refine sto_blk k7 (cs := pairCells s.1 s.2) (by rw [pairCells_len]; exact ty_sz_172) (by rw [pairCells_len, pairCells_len]) (pairCells_one _ _) ?_
    intro w8 k8 g8 z8
    have ho8 := ho7.grew g8 (.inr (ho7.ne_blk k7 (by decide)))
    have hm8 := hm7.grown g8.by_ (by have := hm6.lt; simp; omega)
    have b8 := g8.below b7 b7.size (by intro a ha; injection ha with ha; subst ha; exact z6)
    have hl8 := fun {K : Fr → World → Prop} {f : Fr} {d : Option Nat} {w' : World} => Blk.ldAll (P := Tryd.prog) (K := K) (f := f) (d := d) (w := w') k8 ty_ag_172 (by rw [pairCells_len]; exact ty_sz_172)
    simp (disch := first | with_reducible assumption | omega) only [push_cast, x_blk, x_cd, ↓reduceIte, Nat.reduceEqDiff, List.map_cons, List.map_nil, Int.reduceEq, Int.lt_irrefl, fr, hl8, v_lookup]
    have hsucc := bPart_succ step (evs n) first k j (by rw [evs_len]; exact hjt)
    rw [evs_at n j hjt] at hsucc
    have hgoodj := bPart_good (step := step) (es := evs n) hU h0 k j
    refine map_look keyed_pair hmt hzi true hm8 (key_pair _ _) (fun v hv => ?_) fun hno => ?_
    · have hin : s ∈ (bPart step (evs n) first k j).map (·.1) := by
        have h1 : stV s ∈ kv.map (·.1) := List.mem_map.2 ⟨_, hv, rfl⟩
        rw [hkv] at h1
        obtain ⟨r, hr, hrs⟩ := List.mem_map.1 h1
        have h2 : r.1 ∈ pl.map (·.1) := List.mem_map.2 ⟨r, hr, rfl⟩
        rw [hpar.1] at h2
        obtain ⟨r2, hr2, hr3⟩ := List.mem_map.1 h2
        rwa [stV_inj (hr3 ▸ hgoodj.univ r2 hr2) hUs hrs] at h2
      rw [bAdd_old hq2 (by rw [hqp, hs]; exact hin)] at hsucc
      simp (disch := first | with_reducible assumption | omega) only [push_cast, x_blk, x_cd, ↓reduceIte, Nat.reduceEqDiff, List.map_cons, List.map_nil, Int.reduceEq, Int.lt_irrefl, fr]
      exact hJ2 _ _ ⟨j + 1, pl, A, c, kv, hjt, (by simp only [push_cast, ↓reduceIte, Nat.reduceEqDiff, true_and, and_true, and_self, eq_self, fr]), by rw [hsucc]; exact hpar, hkv, ho8, hm8, b8⟩ (by simp only [push_cast, ↓reduceIte, Nat.reduceEqDiff, intOf, fr]; omega)
    · have hnin : s ∉ (bPart step (evs n) first k j).map (·.1) := fun hin => by
        rw [← hpar.1] at hin
        obtain ⟨r, hr, hrs⟩ := List.mem_map.1 hin
        have h1 : stV r.1 ∈ kv.map (·.1) := by rw [hkv]; exact List.mem_map.2 ⟨r, hr, rfl⟩
        obtain ⟨e, he, hee⟩ := List.mem_map.1 h1
        exact hno e he (by rw [hee, hrs])
      rw [bAdd_new hq2 (by rw [hqp, hs]; exact hnin), hqp, hs] at hsucc
      simp (disch := first | with_reducible assumption | omega) only [push_cast, x_blk, x_cd, ↓reduceIte, Nat.reduceEqDiff, List.map_cons, List.map_nil, Int.reduceEq, Int.lt_irrefl, fr, hl8, e_mapUpdate]
      refine map_new keyed_pair hmt hm8 (key_pair _ _) hno _ ?_
      intro w9 m9 g9 z9
      have ho9 := ho8.grew g9 (.inr fun e => hm8.ne_own ho8 e.symm)
      have k9 := k8.grown g9.by_ (by have := hm6.lt; simp; omega)
      have b9 := g9.below b8 b8.size (by intro a ha; injection ha with ha; subst ha; show w.heap.size ≤ w1.heap.size; omega)
      have hl9 := fun {K : Fr → World → Prop} {f : Fr} {d : Option Nat} {w' : World} => Blk.ldAll (P := Tryd.prog) (K := K) (f := f) (d := d) (w := w') k9 ty_ag_172 (by rw [pairCells_len]; exact ty_sz_172)
      simp (disch := first | with_reducible assumption | omega) only [push_cast, x_blk, x_cd, ↓reduceIte, Nat.reduceEqDiff, List.map_cons, List.map_nil, Int.reduceEq, Int.lt_irrefl, fr, hl9, bl_place, bs_rec plEnc slT_186 _ (by decide)]
      refine app_rec plEnc slT_186 ho9 (s, (k : Int), (j : Int)) (by omega) (by omega) b9.size ?_
      intro A' c' w10 ho10 hg10 hA10 hs10 hz10
      have m10 := m9.grown hg10.by_ (m9.ne_own ho9)
      have b10 := hg10.below b9 b9.size ho9.geB
      have hpar' := hpar.snoc hq2 s (j : Int)
      simp (disch := first | with_reducible assumption | omega) only [push_cast, x_blk, x_cd, ↓reduceIte, Nat.reduceEqDiff, List.map_cons, List.map_nil, Int.reduceEq, Int.lt_irrefl, fr]
      refine hJ2 _ _ ⟨j + 1, pl ++ [(s, (k : Int), (j : Int))], A', c', kv ++ [(stV s, .int .i64 pl.length)], hjt, (by simp only [push_cast, ↓reduceIte, Nat.reduceEqDiff, true_and, and_true, and_self, eq_self, fr, List.length_append, List.length_cons, List.length_nil]), by rw [hsucc]; exact hpar', by simp [hkv], ho10, m10, b10⟩ (by simp only [push_cast, ↓reduceIte, Nat.reduceEqDiff, intOf, fr]; omega)
end
section
open Go.RowKit
/-- A row that can be read, in a block that lay there at first or that holds elements of the type e. -/
structure RowT (B e : Nat) (w : World) (A : Option Addr) (l : List Int) : Prop where
  ints : Ints (fun b => b < w.heap.size ∧ (b < B ∨ ∃ cs r, w.heap[b]? = some (.cells cs e r))) w A l
section
variable {B e : Nat} {w w' : World} {A : Option Addr} {l : List Int}
theorem RowT.lt (h : RowT B e w A l) : Ints (· < w.heap.size) w A l := h.ints.mono fun _ hb => hb.1
theorem RowT.keep (h : RowT B e w A l) (hz : w.heap.size ≤ w'.heap.size) (hk : ∀ b, b < w.heap.size → (b < B ∨ ∃ cs r, w.heap[b]? = some (.cells cs e r)) → w'.heap[b]? = w.heap[b]?) : RowT B e w' A l := by
  refine ⟨⟨h.ints.isSome, fun hl => ?_, fun i hi => ?_⟩⟩
  · obtain ⟨h1, h2⟩ := h.ints.block hl
    refine ⟨by omega, ?_⟩
    rcases h2 with h2 | ⟨cs, r, h3⟩
    · exact .inl h2
    · exact .inr ⟨cs, r, by rw [hk _ h1 (.inr ⟨cs, r, h3⟩)]; exact h3⟩
  · obtain ⟨h1, h2⟩ := h.ints.block (by omega)
    rw [← h.ints.cell i hi]
    exact World.cell?_of_block (by rw [eA_block]; exact hk _ h1 h2)
theorem RowT.below (h : RowT B e w A l) (hb : Below w.heap.size w w') : RowT B e w' A l := h.keep hb.size fun b hlt _ => hb.block b hlt
theorem RowT.grew {e' sz c n : Nat} {A2 : Option Addr} {xs : List Value} (h : RowT B e w A l) (ho : Own B e' sz w A2 c n xs) (hne : e' ≠ e) (hg : Grew w w' A2) : RowT B e w' A l :=
  h.keep hg.by_.size fun b hlt hor => hg.by_.block b hlt (by
    rcases ho.own.2 with ⟨h0, _⟩ | ⟨g, cap, cur, hv, hB, hh, _⟩
    · injection h0 with h0; subst h0; simp
    · injection hv with hv
      subst hv
      simp only [Option.map_some, ne_eq, Option.some.injEq]
      rintro rfl
      rcases hor with h1 | ⟨cs, r, h1⟩
      · omega
      · rw [h1] at hh
        injection hh with hh
        injection hh with _ ht
        exact hne ht.symm)
end
end
end Go.Proofs.YtcjedgiglimipaaDoor
