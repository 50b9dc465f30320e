/-
  The library's slices.SortFunc on a row of arrows of one's own, by the shelf's contract; the program's order of the arrows that it found.
-/
import Derived.Test.YtcjedgiglimipaaDoorZBes
import Derived.Test.YtcjedgiglimipaaDoorZBesQ
import Derived.Shelf.SlSortCmp.NoneTotal
namespace Go.Proofs.YtcjedgiglimipaaDoor
set_option linter.unusedSimpArgs false
set_option linter.unusedVariables false
set_option linter.unusedSectionVars false
open Go.RowKit

def ASm (a : Arr) : Prop := (0 ≤ a.frm ∧ a.frm < 1000000) ∧ (0 ≤ a.evt ∧ a.evt < 1000000) ∧ 0 ≤ a.to_ ∧ a.to_ < 1000000
def cmpS (a b : Arr) : Int := if a.frm ≠ b.frm then a.frm - b.frm else if a.evt ≠ b.evt then a.evt - b.evt else a.to_ - b.to_
theorem cmpS_lt (a b : Arr) : cmpS a b < 0 ↔ a.lt b := by
  unfold cmpS Arr.lt
  by_cases h1 : a.frm = b.frm
  · by_cases h2 : a.evt = b.evt
    · rw [if_neg (fun h => h h1), if_neg (fun h => h h2)]; constructor <;> intro h <;> omega
    · rw [if_neg (fun h => h h1), if_pos h2]; constructor <;> intro h <;> omega
  · rw [if_pos h1]; constructor <;> intro h <;> omega
theorem blk_at {P : Program} {K : Fr → World → Prop} {f : Fr} {d : Option Nat} {w : World} {t : TypeId} {cs : List Value} {s : Sem Value} {v : Value} (he : Eff1 P K s f d w = K (updO f d v) (w.alloc (.cells cs.toArray t)))
    (h : ∀ w1, w1 = w.alloc (.cells cs.toArray t) → Blk w1 w.heap.size t cs → Below w.heap.size w w1 → w1.heap.size = w.heap.size + 1 → K (updO f d v) w1) : Eff1 P K s f d w := by
  rw [he]
  exact h _ rfl (Blk.new w t cs) ((Below.refl _ _).alloc (Nat.le_refl _) _) (by simp)
theorem bes_cmp {a b : Arr} (ha : ASm a) (hb : ASm b) (w : World) :
    Cal Tryd.prog 115 [arrVal a, arrVal b] w fun v w' => v = .int .i64 (cmpS a b) ∧ ∃ q os, w' = Go.Sort.grow (w.drewN q) os := by
  obtain ⟨a1, a2, a3⟩ := ha
  obtain ⟨b1, b2, b3⟩ := hb
  refine cal_beside_finder_done_1 (by simp) 100000 fun Q hQ => ?_
  simp (disch := first | with_reducible assumption | omega) only [push_cast, x_blk, x_cd, ↓reduceIte, Nat.reduceEqDiff, List.map_cons, List.map_nil, Int.reduceEq, Int.lt_irrefl, F_beside_finder_done_1]
  refine blk_at (box_agg _ (arrCells a)) ?_
  intro w1 e1 k1 bb1 z1
  simp (disch := first | with_reducible assumption | omega) only [push_cast, x_blk, x_cd, ↓reduceIte, Nat.reduceEqDiff, List.map_cons, List.map_nil, Int.reduceEq, Int.lt_irrefl]
  refine blk_at (box_agg _ (arrCells b)) ?_
  intro w2 e2 k2 bb2 z2
  replace k1 := k1.below bb2 k1.lt
  have hw : w2 = Go.Sort.grow (w.drewN 0) (#[.cells (arrCells a).toArray 85] ++ #[.cells (arrCells b).toArray 85]) := by
    rw [e2, e1, Go.Sort.alloc_eq_grow, Go.Sort.alloc_eq_grow, Go.Sort.grow_grow]; rfl
  by_cases h1 : a.frm = b.frm
  · by_cases h2 : a.evt = b.evt
    · have hr : cmpS a b = a.to_ - b.to_ := by unfold cmpS; rw [if_neg (by simpa using h1), if_neg (by simpa using h2)]
      simp (disch := first | with_reducible assumption | omega) only [push_cast, x_blk, x_cd, ↓reduceIte, Nat.reduceEqDiff, List.map_cons, List.map_nil, Int.reduceEq, Int.lt_irrefl, k1.a0 ty_ag_3, k2.a0 ty_ag_3, k1.a1 ty_ag_3, k2.a1 ty_ag_3, k1.a2 ty_ag_3, k2.a2 ty_ag_3, h1, h2, eq_self]
      exact fin_1 (hQ _ _ ⟨(by simp only [push_cast, ↓reduceIte, Nat.reduceEqDiff, Int.reduceEq, hr]), _, _, hw⟩)
    · have hr : cmpS a b = a.evt - b.evt := by unfold cmpS; rw [if_neg (by simpa using h1), if_pos h2]
      simp (disch := first | with_reducible assumption | omega) only [push_cast, x_blk, x_cd, ↓reduceIte, Nat.reduceEqDiff, List.map_cons, List.map_nil, Int.reduceEq, Int.lt_irrefl, k1.a0 ty_ag_3, k2.a0 ty_ag_3, k1.a1 ty_ag_3, k2.a1 ty_ag_3, h1, h2, eq_self]
      exact fin_1 (hQ _ _ ⟨(by simp only [push_cast, ↓reduceIte, Nat.reduceEqDiff, Int.reduceEq, hr]), _, _, hw⟩)
  · have hr : cmpS a b = a.frm - b.frm := by unfold cmpS; rw [if_pos h1]
    simp (disch := first | with_reducible assumption | omega) only [push_cast, x_blk, x_cd, ↓reduceIte, Nat.reduceEqDiff, List.map_cons, List.map_nil, Int.reduceEq, Int.lt_irrefl, k1.a0 ty_ag_3, k2.a0 ty_ag_3, h1]
    exact fin_1 (hQ _ _ ⟨(by simp only [push_cast, ↓reduceIte, Nat.reduceEqDiff, Int.reduceEq, hr]), _, _, hw⟩)

def renSort : Go.Shelf.Ren := ⟨fun | 6 => 114 | 14 => 124 | 15 => 125 | 20 => 128 | 21 => 129 | 22 => 130 | 23 => 131 | 24 => 132 | 25 => 133 | 26 => 134 | 27 => 135 | 28 => 136 | 29 => 137 | 46 => 138 | 47 => 139 | 48 => 140 | 49 => 141 | 50 => 142 | 57 => 143 | n => n, fun | 0 => 0 | 3 => 3 | 4 => 4 | 5 => 5 | 9 => 9 | 22 => 23 | 24 => 85 | 25 => 148 | 39 => 180 | 45 => 189 | 46 => 190 | 50 => 93 | 53 => 196 | 55 => 74 | 66 => 197 | 70 => 201 | 76 => 203 | 77 => 204 | n => n, fun | n => n⟩
theorem laysSort : Go.Proofs.SlLaysF0.n6 Tryd.prog renSort := {
  mixed := by kernel_rfl
  f6 := ⟨Tryd.f114.name, by kernel_rfl, Tryd.func114.trans (congrArg some (by kernel_rfl))⟩
  f14 := ⟨Tryd.f124.name, by kernel_rfl, Tryd.func124.trans (congrArg some (by kernel_rfl))⟩
  f15 := Tryd.func125.trans (congrArg some (by kernel_rfl))
  f20 := ⟨Tryd.f128.name, by kernel_rfl, Tryd.func128.trans (congrArg some (by kernel_rfl))⟩
  f21 := ⟨Tryd.f129.name, by kernel_rfl, Tryd.func129.trans (congrArg some (by kernel_rfl))⟩
  f22 := ⟨Tryd.f130.name, by kernel_rfl, Tryd.func130.trans (congrArg some (by kernel_rfl))⟩
  f23 := ⟨Tryd.f131.name, by kernel_rfl, Tryd.func131.trans (congrArg some (by kernel_rfl))⟩
  f24 := ⟨Tryd.f132.name, by kernel_rfl, Tryd.func132.trans (congrArg some (by kernel_rfl))⟩
  f25 := ⟨Tryd.f133.name, by kernel_rfl, Tryd.func133.trans (congrArg some (by kernel_rfl))⟩
  f26 := ⟨Tryd.f134.name, by kernel_rfl, Tryd.func134.trans (congrArg some (by kernel_rfl))⟩
  f27 := ⟨Tryd.f135.name, by kernel_rfl, Tryd.func135.trans (congrArg some (by kernel_rfl))⟩
  f28 := Tryd.func136.trans (congrArg some (by kernel_rfl))
  f29 := Tryd.func137.trans (congrArg some (by kernel_rfl))
  f46 := ⟨Tryd.f138.name, by kernel_rfl, Tryd.func138.trans (congrArg some (by kernel_rfl))⟩
  f47 := Tryd.func139.trans (congrArg some (by kernel_rfl))
  f48 := Tryd.func140.trans (congrArg some (by kernel_rfl))
  f49 := ⟨Tryd.f141.name, by kernel_rfl, Tryd.func141.trans (congrArg some (by kernel_rfl))⟩
  f50 := ⟨Tryd.f142.name, by kernel_rfl, Tryd.func142.trans (congrArg some (by kernel_rfl))⟩
  f57 := ⟨Tryd.f143.name, by kernel_rfl, Tryd.func143.trans (congrArg some (by kernel_rfl))⟩
  t0 := Tryd.underlying0
  a0 := Tryd.isAgg0
  z0 := Tryd.sizeOf0
  v0 := Tryd.zeroValue0
  t3 := Tryd.underlying3
  a3 := Tryd.isAgg3
  z3 := Tryd.sizeOf3
  v3 := Tryd.zeroValue3
  t4 := Tryd.underlying4
  a4 := Tryd.isAgg4
  z4 := Tryd.sizeOf4
  v4 := Tryd.zeroValue4
  t5 := Tryd.underlying5
  a5 := Tryd.isAgg5
  z5 := Tryd.sizeOf5
  v5 := Tryd.zeroValue5
  t9 := Tryd.underlying9
  a9 := Tryd.isAgg9
  z9 := Tryd.sizeOf9
  v9 := Tryd.zeroValue9
  t22 := Tryd.underlying23
  a22 := Tryd.isAgg23
  z22 := Tryd.sizeOf23
  v22 := Tryd.zeroValue23
  t25 := Tryd.underlying148
  a25 := Tryd.isAgg148
  z25 := Tryd.sizeOf148
  v25 := Tryd.zeroValue148
  t39 := Tryd.underlying180
  a39 := Tryd.isAgg180
  z39 := Tryd.sizeOf180
  v39 := Tryd.zeroValue180
  t45 := Tryd.underlying189
  a45 := Tryd.isAgg189
  z45 := Tryd.sizeOf189
  v45 := Tryd.zeroValue189
  t46 := Tryd.underlying190
  a46 := Tryd.isAgg190
  z46 := Tryd.sizeOf190
  v46 := Tryd.zeroValue190
  t50 := Tryd.underlying93
  a50 := Tryd.isAgg93
  z50 := Tryd.sizeOf93
  v50 := Tryd.zeroValue93
  t53 := Tryd.underlying196
  a53 := Tryd.isAgg196
  z53 := Tryd.sizeOf196
  v53 := Tryd.zeroValue196
  t55 := Tryd.underlying74
  a55 := Tryd.isAgg74
  z55 := Tryd.sizeOf74
  v55 := Tryd.zeroValue74
  t66 := Tryd.underlying197
  a66 := Tryd.isAgg197
  z66 := Tryd.sizeOf197
  v66 := Tryd.zeroValue197
  t70 := Tryd.underlying201
  a70 := Tryd.isAgg201
  z70 := Tryd.sizeOf201
  v70 := Tryd.zeroValue201
  t76 := Tryd.underlying203
  a76 := Tryd.isAgg203
  z76 := Tryd.sizeOf203
  v76 := Tryd.zeroValue203
  t77 := Tryd.underlying204
  a77 := Tryd.isAgg204
  z77 := Tryd.sizeOf204
  v77 := Tryd.zeroValue204 }
abbrev SA := { a : Arr // ASm a }
instance : Inhabited SA := ⟨⟨⟨0, 0, 0⟩, by unfold ASm; decide⟩⟩
theorem swoS : Go.Sort.SWO (Go.Proofs.ltOf fun x y : SA => cmpS x.1 y.1) where
  irrefl x := decide_eq_false fun h => Arr.lt_irrefl _ ((cmpS_lt _ _).1 h)
  trans x y z h1 h2 := decide_eq_true ((cmpS_lt _ _).2 (Arr.lt_trans ((cmpS_lt _ _).1 (of_decide_eq_true h1)) ((cmpS_lt _ _).1 (of_decide_eq_true h2))))
  ntrans x y z h1 h2 := decide_eq_false fun h => by
    have h1' := of_decide_eq_false h1
    have h2' := of_decide_eq_false h2
    rw [cmpS_lt] at h1' h2' h
    unfold Arr.lt at *
    omega
def liftS : (l : List Arr) → (∀ a ∈ l, ASm a) → List SA
  | [], _ => []
  | a :: l, h => ⟨a, h a (List.mem_cons_self ..)⟩ :: liftS l fun x hx => h x (List.mem_cons_of_mem _ hx)
theorem liftS_map : ∀ (l : List Arr) (h : ∀ a ∈ l, ASm a), (liftS l h).map (·.1) = l
  | [], _ => rfl
  | a :: l, h => by unfold liftS; rw [List.map_cons, liftS_map l]
theorem flatK_eq {α : Type} [Inhabited α] {enc : α → List Value} {k : Nat} (E : Enc enc k) (hk : 0 < k) (l : List α) : (Go.Sort.flatK enc k l.toArray).toList = l.flatMap enc := by
  apply List.ext_getElem?
  intro i
  have hs : (Go.Sort.flatK enc k l.toArray).size = l.length * k := by rw [Go.Sort.size_flatK]; simp
  by_cases hi : i < l.length * k
  · have hdiv : i / k < l.length := Nat.div_lt_of_lt_mul (by rw [Nat.mul_comm]; exact hi)
    have hmod : i % k < k := Nat.mod_lt _ hk
    have h1 := flatMap_at E l (i / k) l[i / k] (i % k) (List.getElem?_eq_getElem hdiv) hmod
    rw [show i / k * k + i % k = i by rw [Nat.mul_comm]; exact Nat.div_add_mod i k] at h1
    rw [h1, Array.getElem?_toList, Array.getElem?_eq_getElem (by rw [hs]; exact hi)]
    have h2 := Go.Sort.get_flatK enc k l.toArray i (by simpa using hi)
    rw [getElem!_pos _ _ (by rw [hs]; exact hi)] at h2
    rw [h2]
    have hl : i / k < l.toArray.size := by simpa using hdiv
    rw [getElem!_pos l.toArray _ hl]
    have he : (enc l[i / k]).length = k := E.len _
    rw [List.getElem!_eq_getElem?_getD]
    simp only [List.getElem_toArray]
    rw [List.getElem?_eq_getElem (by rw [he]; exact hmod)]
    simp
  · rw [List.getElem?_eq_none (by rw [Array.length_toList, hs]; omega), List.getElem?_eq_none (by rw [flatMap_len E]; omega)]
theorem putCells_take (F cur : Array Value) (h : F.size ≤ cur.size) : (Go.Sort.putCells id 0 F cur).toList.take F.size = F.toList := by
  apply List.ext_getElem?
  intro j
  rw [List.getElem?_take, Array.getElem?_toList, Array.getElem?_toList]
  by_cases hj : j < F.size
  · have hjc : j < cur.size := by omega
    simp only [if_pos hj, Go.Sort.putCells, Array.getElem?_mapIdx, Array.getElem?_eq_getElem hjc, Option.map_some]
    rw [if_pos (by omega)]
    simp [getElem!_pos, hj]
  · rw [if_neg hj, Array.getElem?_eq_none (by omega)]
theorem bes_sort {B : Nat} {w : World} {A : Option Addr} {c : Nat} {l : List Arr} (h : OwnR arrCells B 85 3 w A c l) (hl : l.length ≤ 1000000) (hs : ∀ a ∈ l, ASm a) (hn : l.Nodup) :
    Cal Tryd.prog 114 [.slice A l.length c, .func (.func 115) #[] #[]] w fun v w' => v = .tuple #[] ∧ (sortA l).length = l.length ∧ OwnR arrCells B 85 3 w' A c (sortA l) ∧ Grew w w' A := by
  refine ⟨by kernel_rfl, ?_⟩
  rcases h.form with ⟨rfl, h0, rfl, _⟩ | ⟨g, rfl, hB, hg⟩
  · have hn : l = [] := List.eq_nil_of_length_eq_zero h0
    subst hn
    exact (Go.Proofs.AnyF.slices_SortFunc_none laysSort none 0 _ w).mono fun e W ⟨h1, h2⟩ => ⟨_, h1, rfl, rfl, by rw [h2]; exact h, by rw [h2]; exact ⟨World.grownBy.refl w _⟩⟩
  · have E : Enc (fun x : SA => arrCells x.1) 3 := ⟨fun x => rfl, fun x u hu => by
      simp [arrCells] at hu
      rcases hu with rfl | rfl | rfl <;> rfl⟩
    have hfl : (liftS l hs).flatMap (fun x : SA => arrCells x.1) = l.flatMap arrCells := by
      conv => rhs; rw [← liftS_map l hs]
      rw [List.flatMap_map]
    have hll : (liftS l hs).length = l.length := by
      have := congrArg List.length (liftS_map l hs)
      simpa using this
    have eg : ∀ args w, (callFunc 115 args).run Tryd.prog w = .ok (.enter 115 args) w := enters_of Tryd.func115 (by kernel_rfl) rfl
    have hcmp : Go.Proofs.CmpLays Tryd.prog 115 #[] (fun x : SA => arrCells x.1) 3 (fun x y => cmpS x.1 y.1) g 0 (liftS l hs).toArray.size w := fun m os dk _ x y =>
      (bes_cmp x.2 y.2 _).calls.mono fun e W ⟨v, he, hv, q, os', hW⟩ => ⟨by rw [he, hv], q, os', hW⟩
    rcases h.own.2 with ⟨e0, _⟩ | ⟨g', cap, cur, e0, hgB, hgc, hnc, hmx, hcs, htk⟩
    · cases e0
    injection e0 with e1 _ e3
    injection e1 with e1
    injection e1 with e1
    subst e1 e3
    have hH : Go.Sort.HoldsK (fun x : SA => arrCells x.1) 3 w g 0 (liftS l hs).toArray := by
      intro j hj
      rw [Go.Sort.size_flatK] at hj
      have hj' : j < l.length * 3 := by simpa [hll] using hj
      rw [Nat.zero_add]
      have hd := h.own.cells (g := g) rfl j
      have hfz := h.own.frozenAt (g := g) j
      have hF := flatK_eq E (by decide) (liftS l hs)
      rw [hfl] at hF
      have hlen : j < (l.flatMap arrCells).length := by rw [h.own.1]; exact hj'
      have h3 := hd _ (List.getElem?_eq_getElem hlen)
      rw [addr_add, Nat.zero_add] at h3
      refine ⟨?_, hfz⟩
      rw [h3]
      congr 1
      show _ = (Go.Sort.flatK _ 3 (liftS l hs).toArray)[j]!
      have hsz : j < (Go.Sort.flatK (fun x : SA => arrCells x.1) 3 (liftS l hs).toArray).size := by rw [Go.Sort.size_flatK]; simpa [hll] using hj'
      rw [getElem!_pos (Go.Sort.flatK (fun x : SA => arrCells x.1) 3 (liftS l hs).toArray) _ hsz, ← Array.getElem_toList]
      simp only [hF]
    have hcon := Go.Proofs.AnyQ.slices_SortFunc laysSort 3 Tryd.isAgg85 Tryd.sizeOf85 (fun x : SA => arrCells x.1) (fun x => rfl) (fun x v hv => E.one x v hv) (fun x y => cmpS x.1 y.1) swoS 115 #[] g 0 c (liftS l hs).toArray w eg hcmp hH hg (by simp [hll]; omega)
    have hsz : (liftS l hs).toArray.size = l.length := by simp [hll]
    rw [hsz] at hcon
    refine (show Calls Tryd.prog 114 _ _ _ from hcon).mono ?_
    rintro e W ⟨rfl, d', n, os, ⟨hp1, _, hp3⟩, hso, rfl⟩
    have hd' : d'.size = l.length := by rw [hp1, hsz]
    have hpm : d'.toList.Perm (liftS l hs) := by
      have e1 : (d'.extract 0 l.length).toList = d'.toList := by rw [← hd']; simp
      have e2 : ((liftS l hs).toArray.extract 0 l.length).toList = liftS l hs := by rw [← hsz]; simp
      rw [e1, e2] at hp3
      exact hp3
    have hpm2 : (d'.toList.map (·.1)).Perm l := by
      have := hpm.map (·.1)
      rwa [liftS_map] at this
    have hnd : (d'.toList.map (·.1)).Nodup := hpm2.symm.nodup hn
    have hord : OrdA (d'.toList.map (·.1)) := by
      unfold OrdA
      rw [List.pairwise_iff_getElem]
      intro i j hi hj hij
      have hi' : i < d'.size := by simpa using hi
      have hj' : j < d'.size := by simpa using hj
      have h1 := hso i j (Nat.zero_le _) hij (by omega)
      have h2 := of_decide_eq_false h1
      rw [cmpS_lt, getElem!_pos d' _ hj', getElem!_pos d' _ hi'] at h2
      have h3 : (d'.toList.map (·.1))[i]'hi ≠ (d'.toList.map (·.1))[j]'hj := List.pairwise_iff_getElem.1 hnd i j hi hj hij
      simp only [List.getElem_map, Array.getElem_toList] at h3 ⊢
      exact Arr.lt_tri h2 (fun e => h3 e.symm)
    have heq : d'.toList.map (·.1) = sortA l := hord.ext (sortA_spec l).1 fun x => by rw [(sortA_spec l).2, hpm2.mem_iff]
    have hlen : (sortA l).length = l.length := by rw [← heq, List.length_map, Array.length_toList, hd']
    have hF := flatK_eq E (by decide) d'.toList
    have hfm : d'.toList.flatMap (fun x : SA => arrCells x.1) = (sortA l).flatMap arrCells := by rw [← heq, List.flatMap_map]
    rw [hfm] at hF
    have hFs : (Go.Sort.flatK (fun x : SA => arrCells x.1) 3 d').size = l.length * 3 := by rw [Go.Sort.size_flatK, hd']
    refine ⟨_, rfl, rfl, hlen, ⟨⟨by rw [flatMap_len arrEnc], .inr ⟨g, c, Go.Sort.putCells id 0 (Go.Sort.flatK (fun x : SA => arrCells x.1) 3 d') cur, by rw [hlen], hgB, ?_, by omega, hmx, by simpa [Go.Sort.putCells] using hcs, ?_⟩⟩⟩, ?_⟩
    · unfold Go.Proofs.sortWorldK
      rw [Go.Sort.heap_grow_old _ _ (by simp [Go.Sort.putRowK, Go.Sort.putRow, Go.Sort.mapBlock, Go.Sort.ahead]; exact hg)]
      simp [Go.Sort.putRowK, Go.Sort.putRow, Go.Sort.mapBlock, Go.Sort.ahead, Array.getElem?_modify, hgc, Go.Sort.onCells]
    · have := putCells_take (Go.Sort.flatK (fun x : SA => arrCells x.1) 3 d') cur (by rw [hFs, hcs]; exact Nat.mul_le_mul_right _ hnc)
      rw [hFs] at this
      rw [hlen, this, ← hF]
    · refine ⟨⟨rfl, rfl, rfl, by simp [Go.Proofs.sortWorldK, Go.Sort.grow, Go.Sort.putRowK, Go.Sort.putRow, Go.Sort.mapBlock, Go.Sort.ahead], fun k hk hne => ?_⟩⟩
      have hk' : g ≠ k := fun e => hne (by rw [e]; rfl)
      unfold Go.Proofs.sortWorldK
      rw [Go.Sort.heap_grow_old _ _ (by simp [Go.Sort.putRowK, Go.Sort.putRow, Go.Sort.mapBlock, Go.Sort.ahead]; exact hk)]
      simp [Go.Sort.putRowK, Go.Sort.putRow, Go.Sort.mapBlock, Go.Sort.ahead, Array.getElem?_modify, hk']
end Go.Proofs.YtcjedgiglimipaaDoor
