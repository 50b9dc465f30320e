/-
  Chapter 6: the program's Sets goes over all sets that steps lead to, as they are found: by its contract.
  Chapter 6: the program's Make makes the machine of the sets: by its contract.
-/
import Derived.Test.YtcjedgiglimipaaDoorZWords
import Derived.Test.YtcjedgiglimipaaDoorZSetAll
import Derived.Test.YtcjedgiglimipaaDoorZSet
namespace Go.Proofs.YtcjedgiglimipaaDoor
set_option linter.unusedSimpArgs false
set_option linter.unusedVariables false
set_option linter.unusedSectionVars false
section
open Go.RowKit

abbrev setC (s : List Int) : List Value := setCells (wordsOf s)
theorem arrEnc : Enc arrCells 3 := ⟨fun _ => rfl, fun a u hu => by
  unfold arrCells at hu
  rcases List.mem_cons.1 hu with rfl | hu
  · rfl
  · rcases List.mem_cons.1 hu with rfl | hu
    · rfl
    · rw [List.mem_singleton.1 hu]; rfl⟩
theorem blt_arrow : builtPl Tryd.prog 85 = some ([(0, 1), (1, 1), (2, 1)], [.int .i64 0, .int .i64 0, .int .i64 0]) := by kernel_rfl
theorem bl_arrow {K : Fr → World → Prop} {u : World} {f : Fr} {d : Option Nat} {w : World} (x y z : Int) :
    Val1 Tryd.prog K (Instr.build 85 #[(0, .int .i64 x), (1, .int .i64 y), (2, .int .i64 z)]) u f d w = K (updO f d (.agg (arrCells ⟨x, y, z⟩).toArray)) w := by
  have := bld_3 (P := Tryd.prog) (K := K) (u := u) (f := f) (d := d) (w := w) blt_arrow rfl rfl rfl rfl (v0 := .int .i64 x) (v1 := .int .i64 y) (v2 := .int .i64 z) rfl rfl rfl
  rw [this]
  simp [arrCells, Value.cells]
theorem Own.apart {B e e' sz sz' : Nat} {w : World} {A A' : Option Addr} {c c' n n' : Nat} {xs xs' : List Value} (h : Own B e sz w A c n xs) (h' : Own B e' sz' w A' c' n' xs') (hne : e ≠ e') : A = none ∨ A.map (·.block) ≠ A'.map (·.block) := by
  rcases h.own.2 with ⟨h0, _⟩ | ⟨g, cap, cur, hv, hB, hh, _⟩
  · injection h0 with h0; exact .inl h0
  · refine .inr ?_
    injection hv with hv
    subst hv
    rcases h'.own.2 with ⟨h0, _⟩ | ⟨g', cap', cur', hv', hB', hh', _⟩
    · injection h0 with h0; subst h0; simp
    · injection hv' with hv'
      subst hv'
      simp only [Option.map_some, ne_eq, Option.some.injEq]
      rintro rfl
      rw [hh] at hh'
      injection hh' with hh'
      injection hh' with _ ht
      exact hne ht

/-- From which place, by which event, in order: all of the first k places, and j events from the next one. -/
def prs (es : List Int) (k j : Nat) : List (Int × Int) := (List.range k).flatMap (fun (i : Nat) => es.map fun e => ((i : Int), e)) ++ (es.take j).map fun e => ((k : Int), e)
theorem prs_all (es : List Int) (k : Nat) : prs es k es.length = prs es (k + 1) 0 := by simp [prs, List.range_succ]
theorem prs_succ (es : List Int) (k j : Nat) (h : j < es.length) : prs es k (j + 1) = prs es k j ++ [((k : Int), es.getD j 0)] := by
  unfold prs
  rw [take_snoc es 0 j h, List.map_append, List.append_assoc]; rfl
theorem prs_len (es : List Int) (k j : Nat) (h : j ≤ es.length) : (prs es k j).length = k * es.length + j := by
  unfold prs
  rw [List.length_append, List.length_map, List.length_take, Nat.min_eq_left h]
  congr 1
  induction k with
  | zero => simp
  | succ k ih => rw [List.range_succ, List.flatMap_append, List.length_append, ih]; simp [Nat.succ_mul]
/-- An arrow from place to place, as the step leads. -/
def Led {S : Type} (step : S → Int → S) (L : List S) (a : Arr) : Prop := ∃ (i j : Nat) (s : S), a.frm = i ∧ a.to_ = j ∧ L[i]? = some s ∧ L[j]? = some (step s a.evt)
theorem Led.snoc {S : Type} {step : S → Int → S} {L : List S} {a : Arr} (h : Led step L a) (t : S) : Led step (L ++ [t]) a := by
  obtain ⟨i, j, s, h1, h2, h3, h4⟩ := h
  have up : ∀ {i : Nat} {r : S}, L[i]? = some r → (L ++ [t])[i]? = some r := fun {i r} hr => by
    rw [List.getElem?_append_left (by rcases Nat.lt_or_ge i L.length with c | c; exact c; rw [List.getElem?_eq_none c] at hr; cases hr)]
    exact hr
  exact ⟨i, j, s, h1, h2, up h3, up h4⟩
/-- All places, and all arrows between them. -/
def Arrows {S : Type} (step : S → Int → S) (es : List Int) (k j : Nat) (L : List S) (ar : List Arr) : Prop := ar.map (fun a => (a.frm, a.evt)) = prs es k j ∧ ∀ a ∈ ar, Led step L a
theorem Arrows.len {S : Type} {step : S → Int → S} {es : List Int} {k j : Nat} {L : List S} {ar : List Arr} (h : Arrows step es k j L ar) (hj : j ≤ es.length) : ar.length = k * es.length + j := by
  rw [← prs_len es k j hj, ← h.1, List.length_map]
theorem Arrows.add {S : Type} {step : S → Int → S} {es : List Int} {k j i : Nat} {L : List S} {ar : List Arr} (h : Arrows step es k j L ar) (hj : j < es.length) {s : S} (hk : L[k]? = some s) (hi : L[i]? = some (step s (es.getD j 0))) : Arrows step es k (j + 1) L (ar ++ [⟨k, es.getD j 0, i⟩]) := by
  refine ⟨by rw [List.map_append, h.1, prs_succ es k j hj]; rfl, fun a ha => ?_⟩
  rcases List.mem_append.1 ha with ha | ha
  · exact h.2 a ha
  · rw [List.mem_singleton.1 ha]; exact ⟨k, i, s, rfl, rfl, hk, hi⟩
theorem Arrows.more {S : Type} {step : S → Int → S} {es : List Int} {k j : Nat} {L : List S} {ar : List Arr} (h : Arrows step es k j L ar) (t : S) : Arrows step es k j (L ++ [t]) ar := ⟨h.1, fun a ha => (h.2 a ha).snoc t⟩
/-- What going over all sets makes. -/
def SetsRes (step : List Int → Int → List Int) (es : List Int) (first : List Int) (ok : Bool) (L : List (List Int)) (ar : List Arr) : Prop :=
  (ok = true ∧ ∃ k, k ≤ 256 ∧ (bIter step es first k).length = k ∧ L = (bIter step es first k).map (·.1) ∧ Arrows step es k 0 L ar) ∨
  (ok = false ∧ L = [] ∧ ar = [] ∧ ∃ k, 256 < (bIter step es first k).length)

end

section
open Go.RowKit

theorem Arrs.of_recs {ok : Nat → Prop} {w : World} {A : Option Addr} {l : List Arr} (h : Recs arrCells 3 ok w A l) : Arrs ok w A l :=
  ⟨h.isSome, h.block, fun i hi j hj => by
    have hl : l[i]? = some (l.getD i default) := by simp [List.getD_eq_getElem?_getD, hi]
    refine h.cell i _ hl j _ ?_
    match j, hj with
    | 0, _ => rfl
    | 1, _ => rfl
    | 2, _ => rfl⟩
theorem fin_c3 {P : Program} {Rc : Value → World → Prop} {a t t' g s r : Nat} {cs : List Value} {f : Fr} {w : World} (hk : Blk w g t' cs) (ht : tyAgg P t = some true) (hs : tySize P t = some cs.length)
    (hf : f a = .pointer (some ⟨g, 0, none⟩)) (h : Rc (.tuple #[.agg cs.toArray, f s, f r]) w) : FinX P #[.cell a t, .tmp s, .tmp r] Rc f w := by
  refine ⟨_, fun fn tmps hr hf' => ?_, h⟩
  have e : tmps.getD a undef = .pointer (some ⟨g, 0, none⟩) := by rw [hf', hf]
  have e2 : tmps[a]?.getD undef = .pointer (some ⟨g, 0, none⟩) := by simpa using e
  have e3 : tmps[s]?.getD undef = f s := by simpa using hf' s
  have e4 : tmps[r]?.getD undef = f r := by simpa using hf' r
  unfold tyAgg at ht
  unfold tySize at hs
  cases hu : P.underlying t with
  | none => simp [hu] at ht
  | some de =>
    cases hi : P.info? t with
    | none => simp [hi] at hs
    | some ie =>
      simp only [hi, Option.map_some, Option.some.injEq] at hs
      simp only [hu, Option.map_some, Option.some.injEq] at ht
      have hr' := run_loadCells_list (P := P) w ⟨g, 0, none⟩ cs (fun j v hv => by rw [addr_add, Nat.zero_add, hk.cell, hv])
      cases de <;> simp at ht <;> simp [results, hr, e2, e3, e4, asAddr, loadVar, isAgg, run_underlying hu, sizeOf, typeInfo, hi, hs, hr']

theorem Own.cap {B e sz c n : Nat} {w : World} {A : Option Addr} {xs : List Value} (h : Own B e sz w A c n xs) : n ≤ c := by
  rcases h.own.2 with ⟨h0, _⟩ | ⟨g, cap, cur, hv, _, _, hnc, _⟩
  · injection h0 with _ h1 h2; omega
  · injection hv with _ _ h2; omega
theorem Own.ltB {B e sz c n : Nat} {w : World} {A : Option Addr} {xs : List Value} (h : Own B e sz w A c n xs) {b : Nat} (hb : some b = A.map (·.block)) : b < w.heap.size := by
  rcases h.form with ⟨h0, _⟩ | ⟨g, h0, _, hg⟩
  · subst h0; cases hb
  · subst h0; injection hb with hb; subst hb; exact hg
structure Hd where
  A : Option Addr
  c : Nat
  l : List Int
def Hd.cells (h : Hd) : List Value := [.slice h.A h.l.length h.c]
theorem hdEnc : Enc Hd.cells 1 := ⟨fun _ => rfl, fun h u hu => by
  unfold Hd.cells at hu
  rw [List.mem_singleton.1 hu]; rfl⟩
/-- Where a row may lie: not in what is written to. -/
structure Apt (lo : Nat) (w : World) (g : Nat) (X Y : Option Nat) (b : Nat) : Prop where
  lo : lo < b
  lt : b < w.heap.size
  g : b ≠ g
  x : some b ≠ X
  y : some b ≠ Y
def RowsAt (ok : Nat → Prop) (w : World) (hs : List Hd) : Prop := ∀ h ∈ hs, Ints ok w h.A h.l
theorem RowsAt.keep {ok ok' : Nat → Prop} {w w' : World} {hs : List Hd} (h : RowsAt ok w hs) (hk : ∀ b, ok b → w'.heap[b]? = w.heap[b]? ∧ ok' b) : RowsAt ok' w' hs := fun x hx => ((h x hx).keep fun b hb => (hk b hb).1).mono fun b hb => (hk b hb).2
theorem RowsAt.below {lo : Nat} {w w' : World} {g : Nat} {X Y : Option Nat} {hs : List Hd} (h : RowsAt (Apt lo w g X Y) w hs) (hb : Below w.heap.size w w') : RowsAt (Apt lo w' g X Y) w' hs :=
  h.keep fun b hb' => ⟨hb.block b hb'.lt, hb'.lo, Nat.lt_of_lt_of_le hb'.lt hb.size, hb'.g, hb'.x, hb'.y⟩
theorem RowsAt.grewG {lo : Nat} {w w' : World} {g : Nat} {X Y : Option Nat} {hs : List Hd} (h : RowsAt (Apt lo w g X Y) w hs) {i : Nat} (hg : Grew w w' (some ⟨g, i, none⟩)) : RowsAt (Apt lo w' g X Y) w' hs :=
  h.keep fun b hb' => ⟨hg.by_.block b hb'.lt (by simpa using hb'.g), hb'.lo, Nat.lt_of_lt_of_le hb'.lt hg.by_.size, hb'.g, hb'.x, hb'.y⟩
theorem RowsAt.grewX {lo : Nat} {w w' : World} {g : Nat} {A A' : Option Addr} {Y : Option Nat} {hs : List Hd} (h : RowsAt (Apt lo w g (A.map (·.block)) Y) w hs) (hg : Grew w w' A) (hA : A'.map (·.block) = A.map (·.block) ∨ ∃ g', A'.map (·.block) = some g' ∧ w.heap.size ≤ g') :
    RowsAt (Apt lo w' g (A'.map (·.block)) Y) w' hs :=
  h.keep fun b hb' => ⟨hg.by_.block b hb'.lt hb'.x, hb'.lo, Nat.lt_of_lt_of_le hb'.lt hg.by_.size, hb'.g, by
    rcases hA with e | ⟨g', e, he⟩
    · rw [e]; exact hb'.x
    · rw [e]; intro hh; injection hh with hh; have := hb'.lt; omega, hb'.y⟩
theorem RowsAt.grewY {lo : Nat} {w w' : World} {g : Nat} {A A' : Option Addr} {X : Option Nat} {hs : List Hd} (h : RowsAt (Apt lo w g X (A.map (·.block))) w hs) (hg : Grew w w' A) (hA : A'.map (·.block) = A.map (·.block) ∨ ∃ g', A'.map (·.block) = some g' ∧ w.heap.size ≤ g') :
    RowsAt (Apt lo w' g X (A'.map (·.block))) w' hs :=
  h.keep fun b hb' => ⟨hg.by_.block b hb'.lt hb'.y, hb'.lo, Nat.lt_of_lt_of_le hb'.lt hg.by_.size, hb'.g, hb'.x, by
    rcases hA with e | ⟨g', e, he⟩
    · rw [e]; exact hb'.y
    · rw [e]; intro hh; injection hh with hh; have := hb'.lt; omega⟩
theorem RowsAt.lt {lo : Nat} {w : World} {g : Nat} {X Y : Option Nat} {hs : List Hd} (h : RowsAt (Apt lo w g X Y) w hs) : RowsAt (· < w.heap.size) w hs := fun x hx => (h x hx).mono fun _ hb => hb.lt

theorem Ints.both {ok ok' : Nat → Prop} {w : World} {A : Option Addr} {l : List Int} (h : Ints ok w A l) (h' : Ints ok' w A l) : Ints (fun b => ok b ∧ ok' b) w A l := ⟨h.isSome, fun hl => ⟨h.block hl, h'.block hl⟩, h.cell⟩
theorem Recs.both {α : Type} {enc : α → List Value} {sz : Nat} {ok ok' : Nat → Prop} {w : World} {A : Option Addr} {l : List α} (h : Recs enc sz ok w A l) (h' : Recs enc sz ok' w A l) : Recs enc sz (fun b => ok b ∧ ok' b) w A l := ⟨h.isSome, fun hl => ⟨h.block hl, h'.block hl⟩, h.cell⟩
theorem Arrs.keep' {ok ok' : Nat → Prop} {w w' : World} {A : Option Addr} {l : List Arr} (h : Arrs ok w A l) (hk : ∀ b, ok b → w'.heap[b]? = w.heap[b]? ∧ ok' b) : Arrs ok' w' A l := (h.keep fun b hb => (hk b hb).1).mono fun b hb => (hk b hb).2
theorem Ints.keep' {ok ok' : Nat → Prop} {w w' : World} {A : Option Addr} {l : List Int} (h : Ints ok w A l) (hk : ∀ b, ok b → w'.heap[b]? = w.heap[b]? ∧ ok' b) : Ints ok' w' A l := (h.keep fun b hb => (hk b hb).1).mono fun b hb => (hk b hb).2
theorem Recs.keep' {α : Type} {enc : α → List Value} {sz : Nat} {ok ok' : Nat → Prop} {w w' : World} {A : Option Addr} {l : List α} (h : Recs enc sz ok w A l) (hk : ∀ b, ok b → w'.heap[b]? = w.heap[b]? ∧ ok' b) : Recs enc sz ok' w' A l := (h.keep fun b hb => (hk b hb).1).mono fun b hb => (hk b hb).2
/-- one cell of a block: a slice -/
theorem sto_slice {P : Program} {K : Fr → World → Prop} {w : World} {f : Fr} {d : Option Nat} {g t ty : Nat} {cs : List Value} (hk : Blk w g t cs) (hty : tySize P ty = some 1) (j : Nat) (hj : j < cs.length) (A : Option Addr) (n c : Nat)
    (h : ∀ w', Blk w' g t (cs.set j (.slice A n c)) → Grew w w' (some ⟨g, 0, none⟩) → w'.heap.size = w.heap.size → K (updO f d undef) w') :
    Eff1 P K (do Instr.storeAt ty (.pointer (some ⟨g, j, none⟩)) (.slice A n c); pure undef) f d w := by
  have hc := hk.cell j
  have hf := hk.frozen j
  refine ⟨undef, w.setCell ⟨g, j, none⟩ (.slice A n c), ?_, h _ (hk.set j _) ⟨⟨rfl, rfl, rfl, by simp, fun _ hk' hne => Below.heap_setCell w _ _ _ (by simpa using hne)⟩⟩ (by simp)⟩
  unfold tySize at hty
  cases hi : P.info? ty with
  | none => simp [hi] at hty
  | some ie =>
    simp only [hi, Option.map_some, Option.some.injEq] at hty
    rw [List.getElem?_eq_getElem hj] at hc
    simp [Instr.storeAt, Instr.sureAddr, storeVar, sizeOf, typeInfo, hi, hty, Value.cells, storeCells, addr_add, run_store_slice, stored, hc, hf]

def mach0 : Mach := ⟨0, 0, [], [], []⟩
abbrev mv0 : MV := ⟨none, 0, none, 0, none, 0⟩
theorem mach0_built {K : Fr → World → Prop} {u : World} {f : Fr} {d : Option Nat} {w : World} : Val1 Tryd.prog K (Instr.build 25 #[]) u f d w = K (updO f d (.agg (mv0.cells mach0).toArray)) w := bld_of (by kernel_rfl)
theorem mach0_is (ok : Nat → Prop) (w : World) : IsM ok w mv0 mach0 := ⟨Ints.nil _ _ _, Arrs.nil _ _ _, Ints.nil _ _ _⟩
theorem sto_mach {K : Fr → World → Prop} {f : Fr} {d : Option Nat} {w : World} {g : Nat} {old : List Value} (hk : Blk w g 25 old) (ho : old.length = 5) (a : MV) (m : Mach)
    (h : ∀ w', Blk w' g 25 (a.cells m) → Grew w w' (some ⟨g, 0, none⟩) → w'.heap.size = w.heap.size → K (updO f d undef) w') :
    Eff1 Tryd.prog K (do Instr.storeAt 25 (.pointer (some ⟨g, 0, none⟩)) (a.val m); pure undef) f d w :=
  sto_blk hk ty_sz_25 ho rfl h

/-- The places of the sets that meet the ends. -/
def endsUpto (m : Mach) (L : List (List Int)) (k : Nat) : List Int := ((List.range k).filter fun i => decide (MeetL (L.getD i []) m.ends)).map fun (i : Nat) => (i : Int)
def detOf (m : Mach) (L : List (List Int)) (ar : List Arr) : Mach := ⟨L.length, m.events, [0], ar, endsUpto m L L.length⟩
end
end Go.Proofs.YtcjedgiglimipaaDoor
