/-
  Chapter 3: what can be come to: the program's spread, back, Reach, Live: by their contracts.
  Chapter 3: the program's Only, Reach, Live, Trim: by their contracts.
  Chapter 3: the reference's place, places, Reach, Live; chapter 2: its Sort: by their contracts.
-/
import Derived.Test.YtcjinmgieiebbaaTrim
import Derived.Test.YtcjinmgieiebbaaDet
import Derived.Test.YtcjinmgieiebbaaSame
namespace Go.Proofs.Ytcjinmgieiebbaa
set_option linter.unusedSimpArgs false
set_option linter.unusedVariables false
set_option linter.unusedSectionVars false
/-! # Reach -/
section
open Go.RowKit

theorem e4_set (l : List Int) : tySize Try.prog 46 = some (setCells (wordsOf l)).length := by rw [setCells_4]; exact ty_sz_46
theorem bl_set0 {K : Fr → World → Prop} {u : World} {f : Fr} {d : Option Nat} {w : World} : Val1 Try.prog K (Instr.build 46 #[]) u f d w = K (updO f d (setV [])) w := bld_of (by kernel_rfl)
/-- Arrows between states. -/
def ArSmall (ar : List Arr) : Prop := ∀ a ∈ ar, (0 ≤ a.frm ∧ a.frm < 256) ∧ (0 ≤ a.to_ ∧ a.to_ < 256)
theorem ArSmall.eds {ar : List Arr} (h : ArSmall ar) (p : Arr → Bool) (rev : Bool) : ∀ e ∈ eds p rev ar, 0 ≤ e.2 ∧ e.2 < 256 := fun e he => by
  obtain ⟨a, ha, _, rfl⟩ := mem_eds.1 he
  cases rev
  · exact (h a ha).2
  · exact (h a ha).1
theorem May.arSmall {m : Mach} (hm : m.May) : ArSmall m.arrows := fun a ha => by
  have h := May.arr hm ha
  have : m.states ≤ 256 := hm.2.1
  have h1 := h.1
  have h2 := h.2.1
  exact ⟨⟨h1.1, by omega⟩, h2.1, by omega⟩
/-- An arrow the other way round. -/
def Arr.back (a : Arr) : Arr := ⟨a.to_, a.evt, a.frm⟩
theorem eds_back (ar : List Arr) : eds allA false (ar.map Arr.back) = eds allA true ar := by
  unfold eds
  simp [List.filter_eq_self.2, Arr.back]
end

/-! # ReachB -/
section
open Go.RowKit

/-! ## What lies between two marks stays -/
structure Mid (lo hi : Nat) (w w' : World) : Prop where
  size : hi ≤ w'.heap.size
  block : ∀ b, lo < b → b < hi → w'.heap[b]? = w.heap[b]?
theorem Mid.start {lo : Nat} {w : World} : Mid lo w.heap.size w w := ⟨Nat.le_refl _, fun _ _ _ => rfl⟩
theorem Mid.below {lo hi : Nat} {w w' w'' : World} (h : Mid lo hi w w') (hb : Below w'.heap.size w' w'') : Mid lo hi w w'' :=
  ⟨Nat.le_trans h.size hb.size, fun b h1 h2 => (hb.block b (Nat.lt_of_lt_of_le h2 h.size)).trans (h.block b h1 h2)⟩
theorem Mid.same {lo hi : Nat} {w w' w'' : World} (h : Mid lo hi w w') (hs : Same w' w'') : Mid lo hi w w'' := h.below (hs.below _)
theorem Mid.grew {lo hi : Nat} {w w' w'' : World} {A : Option Addr} (h : Mid lo hi w w') (hg : Grew w' w'' A) (hA : ∀ a, A = some a → a.block ≤ lo ∨ hi ≤ a.block) : Mid lo hi w w'' :=
  ⟨Nat.le_trans h.size hg.by_.size, fun b h1 h2 => (hg.by_.block b (Nat.lt_of_lt_of_le h2 h.size) (fun e => by
    cases A with
    | none => cases e
    | some a => have e : b = a.block := by simpa using e
                rcases hA a rfl with h3 | h3 <;> omega)).trans (h.block b h1 h2)⟩
theorem Ints.mid {lo hi : Nat} {w w' : World} {A : Option Addr} {l : List Int} (h : Ints (fun b => lo < b ∧ b < hi) w A l) (hm : Mid lo hi w w') : Ints (fun b => lo < b ∧ b < hi) w' A l := h.keep fun b hb => hm.block b hb.1 hb.2
/-- What one owns, newer than a mark. -/
theorem OwnI.between {B e c : Nat} {w : World} {A : Option Addr} {l : List Int} (h : OwnI B e w A c l) {lo : Nat} (hlo : lo < B) : Ints (fun b => lo < b ∧ b < w.heap.size) w A l :=
  ((OwnI.ints h).both (OwnI.ints h).lt).mono fun b hb => ⟨Nat.lt_of_lt_of_le hlo hb.1.1, hb.2⟩

theorem slices_IndexX {ok : Nat → Prop} {w : World} {A : Option Addr} {l : List Int} (h : Ints ok w A l) (c : Nat) (b : Int) (hl : l.length ≤ 9223372036854775807) :
    Cal Try.prog 64 [.slice A l.length c, .int .i64 b] w fun v w' => v = .int .i64 (if b ∈ l then (ix b l : Int) else -1) ∧ Same w w' := by
  refine cal_slices_Index (by simp) 100000 fun Q hQ => ?_
  simp (disch := first | with_reducible assumption | omega) only [push_cast, x_blk, x_cd, ↓reduceIte, Nat.reduceEqDiff, List.map_cons, List.map_nil, Int.reduceEq, Int.lt_irrefl, F_slices_Index]
  refine loop_rule (fun f w' => ∃ k : Nat, k ≤ l.length ∧ f 0 = .slice A l.length c ∧ f 1 = .int .i64 b ∧ f 7 = .int .i64 l.length ∧ f 8 = .int .i64 k ∧ (∀ i, i < k → l.getD i 0 ≠ b) ∧ Same w w')
    (fun f _ => l.length - (intOf (f 8)).toNat) ⟨0, Nat.zero_le _, rfl, rfl, rfl, rfl, fun i hi => absurd hi (by omega), Same.refl w⟩ ?_
  rintro f w1 ⟨k, hk, h0, h1, h7, h8, hpre, hs⟩ J hJ
  have hI := h.same hs
  by_cases hlt : k < l.length
  · have hA := hI.isSome (by omega)
    by_cases c1 : b = l.getD k 0
    · have hin : b ∈ l := c1 ▸ getD_mem l 0 k hlt
      have hix := ix_first hlt c1.symm hpre
      simp (disch := first | with_reducible assumption | omega) only [push_cast, x_blk, x_cd, ↓reduceIte, Nat.reduceEqDiff, List.map_cons, List.map_nil, Int.reduceEq, Int.lt_irrefl, L_slices_Index_0, h0, h1, h7, h8, hlt, c1, hI.ld ty_ag_3]
      exact fin_1 (hQ _ _ ⟨by rw [if_pos hin, hix]; rfl, hs⟩)
    · simp (disch := first | with_reducible assumption | omega) only [push_cast, x_blk, x_cd, ↓reduceIte, Nat.reduceEqDiff, List.map_cons, List.map_nil, Int.reduceEq, Int.lt_irrefl, L_slices_Index_0, h0, h1, h7, h8, hlt, c1, hI.ld ty_ag_3]
      exact hJ _ _ ⟨k + 1, hlt, (by simp only [push_cast, ↓reduceIte, Nat.reduceEqDiff, Int.reduceEq, h0]), (by simp only [push_cast, ↓reduceIte, Nat.reduceEqDiff, Int.reduceEq, h1]), (by simp only [push_cast, ↓reduceIte, Nat.reduceEqDiff, Int.reduceEq, h7]), (by simp only [push_cast, ↓reduceIte, Nat.reduceEqDiff, Int.reduceEq]), fun i hi => if e : i = k then e ▸ fun h => c1 h.symm else hpre i (by omega), hs⟩ (by simp only [push_cast, ↓reduceIte, Nat.reduceEqDiff, h8, intOf]; omega)
  · simp (disch := first | with_reducible assumption | omega) only [push_cast, x_blk, x_cd, ↓reduceIte, Nat.reduceEqDiff, List.map_cons, List.map_nil, Int.reduceEq, Int.lt_irrefl, L_slices_Index_0, h0, h1, h7, h8, hlt]
    refine fin_1 (hQ _ _ ⟨?_, hs⟩)
    rw [if_neg fun h => by
      obtain ⟨i, hi, he⟩ := (mem_iff_getD l 0 b).1 h
      exact absurd he (hpre i (by omega))]
    rfl

section
variable {P : Program} {K : Fr → World → Prop} {f : Fr} {d : Option Nat} {w : World} {t e bytes : Nat}
theorem fill_2i (x y : Value) (a b : Int) : Instr.fill (fun i => some (i * 1, 1)) #[x, y] [(0, .int .i64 a), (1, .int .i64 b)] = some #[.int .i64 a, .int .i64 b] := by
  simp [Instr.fill, Value.cells]
theorem bsl2_eq (hT : SlT P t e 1 bytes) (a b : Int) :
    Eff1 P K (Instr.buildSlice t 2 #[(0, .int .i64 a), (1, .int .i64 b)]) f d w = K (updO f d (.slice (some ⟨w.heap.size, 0, none⟩) 2 2)) (w.alloc (.cells [.int .i64 a, .int .i64 b].toArray e)) := by
  obtain ⟨i, z, hi, hz, hs, hb, hc⟩ := hT.get
  refine eff1_of ?_
  have hz3 : (Array.range 2).map (z.cells[· % z.cells.size]!) = #[z.cells[0 % z.cells.size]!, z.cells[1 % z.cells.size]!] := by
    apply Array.ext'; simp [List.range_succ]
  have hf := fill_2i (z.cells[0 % z.cells.size]!) (z.cells[1 % z.cells.size]!) a b
  rw [← hz3] at hf
  simp only [Instr.buildSlice, run_underlying hT.under, sizeOf, typeInfo, Sem.run_bind, Result.andThen_ok]
  simp only [Nat.mul_one] at hf
  simp [hi, hs, zeroValue, typeInfo, hz, newRow, hf]
theorem ints_new2 (w : World) (a b : Int) (e : Nat) : Ints (· < (w.alloc (.cells [.int .i64 a, .int .i64 b].toArray e)).heap.size) (w.alloc (.cells [.int .i64 a, .int .i64 b].toArray e)) (some ⟨w.heap.size, 0, none⟩) [a, b] :=
  (Ints.of_rd (ok := fun _ => True) (rd_new w [.int .i64 a, .int .i64 b] e) fun _ => trivial).lt
end
theorem bl_mach2 {K : Fr → World → Prop} {u : World} {f : Fr} {d : Option Nat} {w : World} (x y : Int) :
    Val1 Try.prog K (Instr.build 25 #[(0, .int .i64 x), (1, .int .i64 y)]) u f d w = K (updO f d (.agg [.int .i64 x, .int .i64 y, .slice none 0 0, .slice none 0 0, .slice none 0 0].toArray)) w := by
  refine bld_of ?_
  rw [built_of blt_mach]
  rw [fill_cons (off := 0) (size := 1) rfl rfl (by decide), fill_cons (off := 1) (size := 1) rfl rfl (by simp [putL, Value.cells]), fill_nil]
  simp [putL, Value.cells]
theorem max_one (n : Nat) : max (n : Int) 1 = ((max n 1 : Nat) : Int) := by omega

/-- What Reach and Live answer with. -/
def RowRes (m : Mach) (L : List Int) (w : World) (v : Value) (w' : World) : Prop :=
  ∃ O co o e, v = .tuple #[.slice O o.length co, .int .i64 e] ∧ OwnI w.heap.size 3 w' O co o ∧ Below w.heap.size w w' ∧ (m.May → e = 0 ∧ o = L) ∧ (¬ m.May → e = 2 ∧ o = [])
def TrimRes (m : Mach) (w : World) (v : Value) (w' : World) : Prop :=
  ∃ (d : MV) (dm : Mach) (O : Option Addr) (co : Nat) (o : List Int) (e : Int), v = .tuple #[d.val dm, .slice O o.length co, .int .i64 e] ∧ IsM (· < w'.heap.size) w' d dm ∧ Ints (· < w'.heap.size) w' O o ∧ Below w.heap.size w w' ∧
    (m.May → e = 0 ∧ o = bothL m ∧ dm = trimM m (bothL m)) ∧ (¬ m.May → e = 2 ∧ o = [] ∧ dm = mach0)
end

/-! # ReachC -/
section
open Go.RowKit

/-! ## Sort -/
def atA (x : Arr) : List Arr → Nat
  | [] => 0
  | y :: o => if y.lt x then atA x o + 1 else 0
theorem atA_eq {x : Arr} : ∀ {o : List Arr} {n : Nat}, n ≤ o.length → (∀ j, j < n → (o.getD j default).lt x) → (n < o.length → ¬ (o.getD n default).lt x) → atA x o = n
  | [], n, hn, _, _ => by simp at hn; rw [hn]; rfl
  | y :: o, 0, _, _, h2 => by
    have := h2 (by simp)
    unfold atA
    rw [if_neg (show ¬ y.lt x from this)]
  | y :: o, n + 1, hn, h1, h2 => by
    unfold atA
    have h0 := h1 0 (by omega)
    rw [if_pos (show y.lt x from h0), atA_eq (o := o) (n := n) (by simpa using hn) (fun j hj => by have := h1 (j + 1) (by omega); simpa using this) fun hlt => by
      have := h2 (by simpa using hlt)
      simpa using this]
def insA (x : Arr) (o : List Arr) : List Arr := if atA x o < o.length ∧ o.getD (atA x o) default = x then o else o.take (atA x o) ++ x :: o.drop (atA x o)
def sortA (l : List Arr) : List Arr := l.foldl (fun o x => insA x o) []
theorem sortA_snoc (l : List Arr) (k : Nat) (h : k < l.length) : sortA (l.take (k + 1)) = insA (l.getD k default) (sortA (l.take k)) := by
  unfold sortA
  rw [take_snoc _ default k h, List.foldl_append]; rfl
theorem insA_len (x : Arr) (o : List Arr) : (insA x o).length ≤ o.length + 1 := by
  unfold insA
  split
  · omega
  · simp; omega
theorem sortA_len (l : List Arr) : ∀ k, (sortA (l.take k)).length ≤ k
  | 0 => by simp [sortA]
  | k + 1 => by
    rcases Nat.lt_or_ge k l.length with h | h
    · rw [sortA_snoc l k h]; have := insA_len (l.getD k default) (sortA (l.take k)); have := sortA_len l k; omega
    · rw [List.take_of_length_le (by omega), ← List.take_of_length_le (l := l) (i := k) h]; have := sortA_len l k; omega
theorem sortA_ord {l : List Arr} (h : OrdA l) : sortA l = l := by
  have key : ∀ k, k ≤ l.length → sortA (l.take k) = l.take k := by
    intro k
    induction k with
    | zero => intro _; rfl
    | succ k ih =>
      intro hk
      rw [sortA_snoc l k hk, ih (by omega), take_snoc l default k hk]
      have hl : (l.take k).length = k := by simp; omega
      have hat : atA (l.getD k default) (l.take k) = k := atA_eq (by omega) (fun j hj => by
        have := h.at_ hj hk
        rwa [show (l.take k).getD j default = l.getD j default by simp [List.getD_eq_getElem?_getD, List.getElem?_take, hj]]) (by omega)
      unfold insA
      rw [hat, if_neg (by omega), List.take_of_length_le (by omega), List.drop_of_length_le (by omega)]
  have := key l.length (Nat.le_refl _)
  rwa [List.take_length] at this
section
variable {P : Program} {K : Fr → World → Prop} {u w : World} {f : Fr} {d : Option Nat} {A : Option Addr} {n c B e bytes t : Nat} {xs : List Value}
theorem slice_head {sz : Nat} (hT : SlT P t e sz bytes) (k : Nat) (hk : k ≤ c) : Val1 P K (Instr.sliceAt t (.slice A n c) none (some (.int .i64 k)) none) u f d w = K (updO f d (.slice A k c)) w :=
  val1_of u f d w fun w' _ => by
    obtain ⟨i, z, hi, hz, hs, hb, hcc⟩ := hT.get
    have h1 : (0 : Int) ≤ (k : Int) ∧ (k : Int) ≤ (c : Int) := by omega
    cases A with
    | none => simp [Instr.sliceAt, run_underlying hT.under, Instr.slice, Instr.sliceBounds, Instr.sliceBound, asIntOf, hk, sizeOf, typeInfo, hi, hs]
    | some a => simp [Instr.sliceAt, run_underlying hT.under, Instr.slice, Instr.sliceBounds, Instr.sliceBound, asIntOf, hk, sizeOf, typeInfo, hi, hs, Addr.add]
theorem Own.take {sz : Nat} (h : Own B e sz w A c n xs) {k : Nat} (hk : k ≤ n) (h0 : n = 0 → k = 0) : Own B e sz w A c k (xs.take (k * sz)) := by
  obtain ⟨hl, hh⟩ := h.own
  have hkn : k * sz ≤ n * sz := Nat.mul_le_mul_right _ hk
  refine ⟨⟨by rw [List.length_take]; omega, ?_⟩⟩
  rcases hh with ⟨h1, h2⟩ | ⟨g, cap, cur, hv, hB, hg, hnc, h3, h4, h5⟩
  · injection h1 with h1 h6 h7
    subst h1 h6 h7
    obtain rfl := h0 rfl
    exact .inl ⟨rfl, rfl⟩
  · injection hv with e1 e2 e3
    subst e1 e3
    refine .inr ⟨g, c, cur, rfl, hB, hg, by omega, h3, h4, ?_⟩
    rw [← h5, List.take_take, Nat.min_eq_left hkn]
end
theorem eql_run_arr (w : World) (xo yo : Operand) (a b : Arr) : (binS .eql 59 xo yo (arrVal a) (arrVal b)).run Try.prog w = .ok (.bool (decide (a = b))) w := by
  unfold binS
  rw [Sem.run_bind, run_eqGuard_agg w .eql 59 xo yo _ _ (by kernel_rfl), Result.andThen_ok, run_eql_struct w, equal_arr w a b]; rfl
theorem eql_arr {K : Fr → World → Prop} {u w : World} {f : Fr} {d : Option Nat} {xo yo : Operand} (a b : Arr) : Val1 Try.prog K (binS .eql 59 xo yo (arrVal a) (arrVal b)) u f d w = K (updO f d (.bool (decide (a = b)))) w :=
  val1_of u f d w fun w' _ => eql_run_arr w' xo yo a b
theorem Arrs.lt {ok : Nat → Prop} {w : World} {A : Option Addr} {l : List Arr} (h : Arrs ok w A l) : Arrs (· < w.heap.size) w A l :=
  ⟨h.isSome, fun hl => by
    have := World.block_lt_of_cell? w _ (h.cell 0 hl 0 (by decide))
    rwa [eA_block] at this, h.cell⟩
theorem OwnA.arrs {B e c : Nat} {w : World} {A : Option Addr} {l : List Arr} (h : OwnR arrCells B e 3 w A c l) : Arrs (fun b => B ≤ b ∧ b < w.heap.size) w A l :=
  Arrs.of_recs (((OwnR.recs h arrEnc (by decide)).both (Recs.lt arrEnc (by decide) (OwnR.recs h arrEnc (by decide)))).mono fun b hb => ⟨hb.1.1, hb.2⟩)

theorem flatMap_drop {α : Type} {enc : α → List Value} {sz : Nat} (E : Enc enc sz) (o : List α) {n : Nat} (hn : n ≤ o.length) : (o.drop n).flatMap enc = (o.flatMap enc).drop (n * sz) := by
  have hl : ((o.take n).flatMap enc).length = n * sz := by rw [flatMap_len E, List.length_take, Nat.min_eq_left hn]
  have : o.flatMap enc = (o.take n).flatMap enc ++ (o.drop n).flatMap enc := by rw [← List.flatMap_append, List.take_append_drop]
  rw [this, List.drop_left' hl]
theorem flatMap_take {α : Type} {enc : α → List Value} {sz : Nat} (E : Enc enc sz) (o : List α) {n : Nat} (hn : n ≤ o.length) : (o.take n).flatMap enc = (o.flatMap enc).take (n * sz) := by
  have hl : ((o.take n).flatMap enc).length = n * sz := by rw [flatMap_len E, List.length_take, Nat.min_eq_left hn]
  have : o.flatMap enc = (o.take n).flatMap enc ++ (o.drop n).flatMap enc := by rw [← List.flatMap_append, List.take_append_drop]
  rw [this, List.take_left' hl]
theorem Rd.below {w w' : World} {A : Option Addr} {xs : List Value} (h : Rd w A xs) (hb : Below w.heap.size w w') : Rd w' A xs := ⟨h.isSome, fun j v hv => below_cell hb (h.cell j v hv)⟩
theorem Rd.tail {w : World} {A : Option Addr} {xs : List Value} {n c k sz : Nat} (h : Rd w A xs) (hs : xs.length = n * sz) (hk : k ≤ n) (hc : n ≤ c) : Rd w (if c = k then A else A.map (·.add (k * sz))) (xs.drop (k * sz)) := by
  have hlt : ∀ j, j < (xs.drop (k * sz)).length → c ≠ k := fun j hj e => by
    rw [List.length_drop, hs] at hj
    have : n = k := by omega
    rw [this] at hj; omega
  refine ⟨fun hl => ?_, fun j v hv => ?_⟩
  · rw [if_neg (hlt 0 hl)]
    have := h.isSome (by rw [List.length_drop] at hl; omega)
    cases A <;> simp_all
  · have hj : j < (xs.drop (k * sz)).length := (List.getElem?_eq_some_iff.1 hv).1
    rw [if_neg (hlt j hj)]
    rw [List.getElem?_drop] at hv
    have hA := h.isSome (by rw [List.length_drop] at hj; omega)
    have := h.cell _ v hv
    cases A with
    | none => cases hA
    | some a => rw [eA_some] at this; rw [Option.map_some, eA_some, add_add, this]
theorem app_rec' {α : Type} {enc : α → List Value} {sz : Nat} {P : Program} {K : Fr → World → Prop} {w : World} {f : Fr} {d : Option Nat} {A : Option Addr} {l : List α} {B e bytes t ty c n : Nat} (E : Enc enc sz) (hT : SlT P t e sz bytes) (hn : l.length = n) (hown : OwnR enc B e sz w A c l) (x : α) (hl : (n + 1) * bytes ≤ 140737488355328) (h63 : n + 1 ≤ 9223372036854775807) (hB : B ≤ w.heap.size)
    (hk : ∀ A' c' w', OwnR enc B e sz w' A' c' (l ++ [x]) → Grew w w' A → (A'.map (·.block) = A.map (·.block) ∨ ∃ g, A'.map (·.block) = some g ∧ w.heap.size ≤ g) → A'.isSome = true → w.heap.size ≤ w'.heap.size → K (updO f d (.slice A' (n + 1) c')) w') :
    Eff1 P K (Builtin.append_ #[t, t] ty #[.slice A n c, .slice (some ⟨w.heap.size, 0, none⟩) 1 1]) f d (w.alloc (.cells (enc x).toArray e)) := by
  subst hn
  exact app_rec E hT hown x hl h63 hB hk

end
end Go.Proofs.Ytcjinmgieiebbaa
