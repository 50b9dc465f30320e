/-
  Chapter 3: what can be come to: the program's spread, back, Reach, Live: by their contracts.
  Chapter 3: the program's Only, Reach, Live, Trim: by their contracts.
  Chapter 3: the reference's place, places, Reach, Live; chapter 2: its Sort: by their contracts.
-/
import Derived.Test.YtcjedgiglimipaaDoorZTrim
import Derived.Test.YtcjedgiglimipaaDoorZDet
import Derived.Test.YtcjedgiglimipaaDoorZSame
namespace Go.Proofs.YtcjedgiglimipaaDoor
set_option linter.unusedSimpArgs false
set_option linter.unusedVariables false
set_option linter.unusedSectionVars false
section
open Go.RowKit

/-- Arrows between states. -/
def ArSmall (ar : List Arr) : Prop := ∀ a ∈ ar, (0 ≤ a.frm ∧ a.frm < 256) ∧ (0 ≤ a.to_ ∧ a.to_ < 256)
theorem ArSmall.eds {ar : List Arr} (h : ArSmall ar) (p : Arr → Bool) (rev : Bool) : ∀ e ∈ eds p rev ar, 0 ≤ e.2 ∧ e.2 < 256 := fun e he => by
  obtain ⟨a, ha, _, rfl⟩ := mem_eds.1 he
  cases rev
  · exact (h a ha).2
  · exact (h a ha).1
/-- An arrow the other way round. -/
def Arr.back (a : Arr) : Arr := ⟨a.to_, a.evt, a.frm⟩
end

section
open Go.RowKit

structure Mid (lo hi : Nat) (w w' : World) : Prop where
  size : hi ≤ w'.heap.size
  block : ∀ b, lo < b → b < hi → w'.heap[b]? = w.heap[b]?
theorem Mid.start {lo : Nat} {w : World} : Mid lo w.heap.size w w := ⟨Nat.le_refl _, fun _ _ _ => rfl⟩
theorem Mid.below {lo hi : Nat} {w w' w'' : World} (h : Mid lo hi w w') (hb : Below w'.heap.size w' w'') : Mid lo hi w w'' :=
  ⟨Nat.le_trans h.size hb.size, fun b h1 h2 => (hb.block b (Nat.lt_of_lt_of_le h2 h.size)).trans (h.block b h1 h2)⟩
theorem Mid.same {lo hi : Nat} {w w' w'' : World} (h : Mid lo hi w w') (hs : Same w' w'') : Mid lo hi w w'' := h.below (hs.below _)
theorem Mid.grew {lo hi : Nat} {w w' w'' : World} {A : Option Addr} (h : Mid lo hi w w') (hg : Grew w' w'' A) (hA : ∀ a, A = some a → a.block ≤ lo ∨ hi ≤ a.block) : Mid lo hi w w'' :=
  ⟨Nat.le_trans h.size hg.by_.size, fun b h1 h2 => (hg.by_.block b (Nat.lt_of_lt_of_le h2 h.size) (fun e => by
    cases A with
    | none => cases e
    | some a => have e : b = a.block := by simpa using e
                rcases hA a rfl with h3 | h3 <;> omega)).trans (h.block b h1 h2)⟩
theorem Ints.mid {lo hi : Nat} {w w' : World} {A : Option Addr} {l : List Int} (h : Ints (fun b => lo < b ∧ b < hi) w A l) (hm : Mid lo hi w w') : Ints (fun b => lo < b ∧ b < hi) w' A l := h.keep fun b hb => hm.block b hb.1 hb.2
/-- What one owns, newer than a mark. -/
theorem OwnI.between {B e c : Nat} {w : World} {A : Option Addr} {l : List Int} (h : OwnI B e w A c l) {lo : Nat} (hlo : lo < B) : Ints (fun b => lo < b ∧ b < w.heap.size) w A l :=
  ((OwnI.ints h).both (OwnI.ints h).lt).mono fun b hb => ⟨Nat.lt_of_lt_of_le hlo hb.1.1, hb.2⟩

section
variable {P : Program} {K : Fr → World → Prop} {f : Fr} {d : Option Nat} {w : World} {t e bytes : Nat}
theorem fill_2i (x y : Value) (a b : Int) : Instr.fill (fun i => some (i * 1, 1)) #[x, y] [(0, .int .i64 a), (1, .int .i64 b)] = some #[.int .i64 a, .int .i64 b] := by
  simp [Instr.fill, Value.cells]
theorem bsl2_eq (hT : SlT P t e 1 bytes) (a b : Int) :
    Eff1 P K (Instr.buildSlice t 2 #[(0, .int .i64 a), (1, .int .i64 b)]) f d w = K (updO f d (.slice (some ⟨w.heap.size, 0, none⟩) 2 2)) (w.alloc (.cells [.int .i64 a, .int .i64 b].toArray e)) := by
  obtain ⟨i, z, hi, hz, hs, hb, hc⟩ := hT.get
  refine eff1_of ?_
  have hz3 : (Array.range 2).map (z.cells[· % z.cells.size]!) = #[z.cells[0 % z.cells.size]!, z.cells[1 % z.cells.size]!] := by
    apply Array.ext'; simp [List.range_succ]
  have hf := fill_2i (z.cells[0 % z.cells.size]!) (z.cells[1 % z.cells.size]!) a b
  rw [← hz3] at hf
  simp only [Instr.buildSlice, run_underlying hT.under, sizeOf, typeInfo, Sem.run_bind, Result.andThen_ok]
  simp only [Nat.mul_one] at hf
  simp [hi, hs, zeroValue, typeInfo, hz, newRow, hf]
theorem ints_new2 (w : World) (a b : Int) (e : Nat) : Ints (· < (w.alloc (.cells [.int .i64 a, .int .i64 b].toArray e)).heap.size) (w.alloc (.cells [.int .i64 a, .int .i64 b].toArray e)) (some ⟨w.heap.size, 0, none⟩) [a, b] :=
  (Ints.of_rd (ok := fun _ => True) (rd_new w [.int .i64 a, .int .i64 b] e) fun _ => trivial).lt
end
theorem max_one (n : Nat) : max (n : Int) 1 = ((max n 1 : Nat) : Int) := by omega

end

section
open Go.RowKit

def atA (x : Arr) : List Arr → Nat
  | [] => 0
  | y :: o => if y.lt x then atA x o + 1 else 0
theorem atA_eq {x : Arr} : ∀ {o : List Arr} {n : Nat}, n ≤ o.length → (∀ j, j < n → (o.getD j default).lt x) → (n < o.length → ¬ (o.getD n default).lt x) → atA x o = n
  | [], n, hn, _, _ => by simp at hn; rw [hn]; rfl
  | y :: o, 0, _, _, h2 => by
    have := h2 (by simp)
    unfold atA
    rw [if_neg (show ¬ y.lt x from this)]
  | y :: o, n + 1, hn, h1, h2 => by
    unfold atA
    have h0 := h1 0 (by omega)
    rw [if_pos (show y.lt x from h0), atA_eq (o := o) (n := n) (by simpa using hn) (fun j hj => by have := h1 (j + 1) (by omega); simpa using this) fun hlt => by
      have := h2 (by simpa using hlt)
      simpa using this]
def insA (x : Arr) (o : List Arr) : List Arr := if atA x o < o.length ∧ o.getD (atA x o) default = x then o else o.take (atA x o) ++ x :: o.drop (atA x o)
def sortA (l : List Arr) : List Arr := l.foldl (fun o x => insA x o) []
theorem sortA_snoc (l : List Arr) (k : Nat) (h : k < l.length) : sortA (l.take (k + 1)) = insA (l.getD k default) (sortA (l.take k)) := by
  unfold sortA
  rw [take_snoc _ default k h, List.foldl_append]; rfl
theorem insA_len (x : Arr) (o : List Arr) : (insA x o).length ≤ o.length + 1 := by
  unfold insA
  split
  · omega
  · simp; omega
theorem sortA_len (l : List Arr) : ∀ k, (sortA (l.take k)).length ≤ k
  | 0 => by simp [sortA]
  | k + 1 => by
    rcases Nat.lt_or_ge k l.length with h | h
    · rw [sortA_snoc l k h]; have := insA_len (l.getD k default) (sortA (l.take k)); have := sortA_len l k; omega
    · rw [List.take_of_length_le (by omega), ← List.take_of_length_le (l := l) (i := k) h]; have := sortA_len l k; omega
section
variable {P : Program} {K : Fr → World → Prop} {u w : World} {f : Fr} {d : Option Nat} {A : Option Addr} {n c B e bytes t : Nat} {xs : List Value}
theorem slice_head {sz : Nat} (hT : SlT P t e sz bytes) (k : Nat) (hk : k ≤ c) : Val1 P K (Instr.sliceAt t (.slice A n c) none (some (.int .i64 k)) none) u f d w = K (updO f d (.slice A k c)) w :=
  val1_of u f d w fun w' _ => by
    obtain ⟨i, z, hi, hz, hs, hb, hcc⟩ := hT.get
    have h1 : (0 : Int) ≤ (k : Int) ∧ (k : Int) ≤ (c : Int) := by omega
    cases A with
    | none => simp [Instr.sliceAt, run_underlying hT.under, Instr.slice, Instr.sliceBounds, Instr.sliceBound, asIntOf, hk, sizeOf, typeInfo, hi, hs]
    | some a => simp [Instr.sliceAt, run_underlying hT.under, Instr.slice, Instr.sliceBounds, Instr.sliceBound, asIntOf, hk, sizeOf, typeInfo, hi, hs, Addr.add]
theorem Own.take {sz : Nat} (h : Own B e sz w A c n xs) {k : Nat} (hk : k ≤ n) (h0 : n = 0 → k = 0) : Own B e sz w A c k (xs.take (k * sz)) := by
  obtain ⟨hl, hh⟩ := h.own
  have hkn : k * sz ≤ n * sz := Nat.mul_le_mul_right _ hk
  refine ⟨⟨by rw [List.length_take]; omega, ?_⟩⟩
  rcases hh with ⟨h1, h2⟩ | ⟨g, cap, cur, hv, hB, hg, hnc, h3, h4, h5⟩
  · injection h1 with h1 h6 h7
    subst h1 h6 h7
    obtain rfl := h0 rfl
    exact .inl ⟨rfl, rfl⟩
  · injection hv with e1 e2 e3
    subst e1 e3
    refine .inr ⟨g, c, cur, rfl, hB, hg, by omega, h3, h4, ?_⟩
    rw [← h5, List.take_take, Nat.min_eq_left hkn]
end
theorem eql_run_arr (w : World) (xo yo : Operand) (a b : Arr) : (binS .eql 85 xo yo (arrVal a) (arrVal b)).run Tryd.prog w = .ok (.bool (decide (a = b))) w := by
  unfold binS
  rw [Sem.run_bind, run_eqGuard_agg w .eql 85 xo yo _ _ (by kernel_rfl), Result.andThen_ok, run_eql_struct w, equal_arr w a b]; rfl
theorem eql_arr {K : Fr → World → Prop} {u w : World} {f : Fr} {d : Option Nat} {xo yo : Operand} (a b : Arr) : Val1 Tryd.prog K (binS .eql 85 xo yo (arrVal a) (arrVal b)) u f d w = K (updO f d (.bool (decide (a = b)))) w :=
  val1_of u f d w fun w' _ => eql_run_arr w' xo yo a b
theorem Arrs.lt {ok : Nat → Prop} {w : World} {A : Option Addr} {l : List Arr} (h : Arrs ok w A l) : Arrs (· < w.heap.size) w A l :=
  ⟨h.isSome, fun hl => by
    have := World.block_lt_of_cell? w _ (h.cell 0 hl 0 (by decide))
    rwa [eA_block] at this, h.cell⟩
theorem OwnA.arrs {B e c : Nat} {w : World} {A : Option Addr} {l : List Arr} (h : OwnR arrCells B e 3 w A c l) : Arrs (fun b => B ≤ b ∧ b < w.heap.size) w A l :=
  Arrs.of_recs (((OwnR.recs h arrEnc (by decide)).both (Recs.lt arrEnc (by decide) (OwnR.recs h arrEnc (by decide)))).mono fun b hb => ⟨hb.1.1, hb.2⟩)

theorem flatMap_drop {α : Type} {enc : α → List Value} {sz : Nat} (E : Enc enc sz) (o : List α) {n : Nat} (hn : n ≤ o.length) : (o.drop n).flatMap enc = (o.flatMap enc).drop (n * sz) := by
  have hl : ((o.take n).flatMap enc).length = n * sz := by rw [flatMap_len E, List.length_take, Nat.min_eq_left hn]
  have : o.flatMap enc = (o.take n).flatMap enc ++ (o.drop n).flatMap enc := by rw [← List.flatMap_append, List.take_append_drop]
  rw [this, List.drop_left' hl]
theorem flatMap_take {α : Type} {enc : α → List Value} {sz : Nat} (E : Enc enc sz) (o : List α) {n : Nat} (hn : n ≤ o.length) : (o.take n).flatMap enc = (o.flatMap enc).take (n * sz) := by
  have hl : ((o.take n).flatMap enc).length = n * sz := by rw [flatMap_len E, List.length_take, Nat.min_eq_left hn]
  have : o.flatMap enc = (o.take n).flatMap enc ++ (o.drop n).flatMap enc := by rw [← List.flatMap_append, List.take_append_drop]
  rw [this, List.take_left' hl]
theorem Rd.below {w w' : World} {A : Option Addr} {xs : List Value} (h : Rd w A xs) (hb : Below w.heap.size w w') : Rd w' A xs := ⟨h.isSome, fun j v hv => below_cell hb (h.cell j v hv)⟩
theorem Rd.tail {w : World} {A : Option Addr} {xs : List Value} {n c k sz : Nat} (h : Rd w A xs) (hs : xs.length = n * sz) (hk : k ≤ n) (hc : n ≤ c) : Rd w (if c = k then A else A.map (·.add (k * sz))) (xs.drop (k * sz)) := by
  have hlt : ∀ j, j < (xs.drop (k * sz)).length → c ≠ k := fun j hj e => by
    rw [List.length_drop, hs] at hj
    have : n = k := by omega
    rw [this] at hj; omega
  refine ⟨fun hl => ?_, fun j v hv => ?_⟩
  · rw [if_neg (hlt 0 hl)]
    have := h.isSome (by rw [List.length_drop] at hl; omega)
    cases A <;> simp_all
  · have hj : j < (xs.drop (k * sz)).length := (List.getElem?_eq_some_iff.1 hv).1
    rw [if_neg (hlt j hj)]
    rw [List.getElem?_drop] at hv
    have hA := h.isSome (by rw [List.length_drop] at hj; omega)
    have := h.cell _ v hv
    cases A with
    | none => cases hA
    | some a => rw [eA_some] at this; rw [Option.map_some, eA_some, add_add, this]
theorem app_rec' {α : Type} {enc : α → List Value} {sz : Nat} {P : Program} {K : Fr → World → Prop} {w : World} {f : Fr} {d : Option Nat} {A : Option Addr} {l : List α} {B e bytes t ty c n : Nat} (E : Enc enc sz) (hT : SlT P t e sz bytes) (hn : l.length = n) (hown : OwnR enc B e sz w A c l) (x : α) (hl : (n + 1) * bytes ≤ 140737488355328) (h63 : n + 1 ≤ 9223372036854775807) (hB : B ≤ w.heap.size)
    (hk : ∀ A' c' w', OwnR enc B e sz w' A' c' (l ++ [x]) → Grew w w' A → (A'.map (·.block) = A.map (·.block) ∨ ∃ g, A'.map (·.block) = some g ∧ w.heap.size ≤ g) → A'.isSome = true → w.heap.size ≤ w'.heap.size → K (updO f d (.slice A' (n + 1) c')) w') :
    Eff1 P K (Builtin.append_ #[t, t] ty #[.slice A n c, .slice (some ⟨w.heap.size, 0, none⟩) 1 1]) f d (w.alloc (.cells (enc x).toArray e)) := by
  subst hn
  exact app_rec E hT hown x hl h63 hB hk

theorem ref2_Sort {w : World} {A : Option Addr} {c : Nat} {l : List Arr} (h : Arrs (· < w.heap.size) w A l) (hl : l.length ≤ 1000000) :
    Cal Tryd.prog 89 [.slice A l.length c] w fun v w' => ∃ O co, v = .slice O (sortA l).length co ∧ OwnR arrCells w.heap.size 85 3 w' O co (sortA l) ∧ Below w.heap.size w w' := by
  refine cal_ref2_Sort (by simp) 100000 fun Q hQ => ?_
  simp (disch := first | with_reducible assumption | omega) only [push_cast, x_blk, x_cd, ↓reduceIte, Nat.reduceEqDiff, List.map_cons, List.map_nil, Int.reduceEq, Int.lt_irrefl, F_ref2_Sort]
  refine loop_rule (fun f w' => ∃ (k : Nat) (O : Option Addr) (co : Nat), k ≤ l.length ∧ (f 0 = .slice A l.length c ∧ f 3 = .slice O (sortA (l.take k)).length co ∧ f 4 = .int .i64 k) ∧
      OwnR arrCells w.heap.size 85 3 w' O co (sortA (l.take k)) ∧ Below w.heap.size w w')
    (fun f _ => l.length - (intOf (f 4)).toNat) ⟨0, none, 0, Nat.zero_le _, ⟨rfl, rfl, rfl⟩, Own.nil _ _ _ _, Below.refl _ _⟩ ?_
  rintro f w1 ⟨k, O, co, hk, fr, ho, bb⟩ J hJ
  by_cases hlt : k < l.length
  case neg =>
    obtain rfl : k = l.length := by omega
    rw [List.take_length] at fr ho
    simp (disch := first | with_reducible assumption | omega) only [push_cast, x_blk, x_cd, ↓reduceIte, Nat.reduceEqDiff, List.map_cons, List.map_nil, Int.reduceEq, Int.lt_irrefl, L_ref2_Sort_1, fr, Nat.lt_irrefl]
    exact fin_1 (hQ _ _ ⟨O, co, (by simp only [push_cast, ↓reduceIte, Nat.reduceEqDiff, Int.reduceEq, fr]), ho, bb⟩)
  have hsn := sortA_snoc l k hlt
  have hle := sortA_len l k
  have hmu : (intOf (f 4)).toNat = k := by rw [fr.2.2]; simp [intOf]
  generalize hoo : sortA (l.take k) = o at *
  generalize hx : l.getD k default = x at *
  simp (disch := first | with_reducible assumption | omega) only [push_cast, x_cd, ↓reduceIte, Nat.reduceEqDiff, L_ref2_Sort_1, fr, hlt]
  rw [x_blk]
  simp (disch := first | with_reducible assumption | omega) only [push_cast, x_cd, ↓reduceIte, Nat.reduceEqDiff]
  refine cut (fun f' w' => (f' 0 = .slice A l.length c ∧ f' 3 = .slice O o.length co ∧ f' 4 = .int .i64 k ∧ f' 5 = .int .i64 (atA x o)) ∧ atA x o ≤ o.length ∧ OwnR arrCells w.heap.size 85 3 w' O co o ∧ Below w.heap.size w w') 40000 40000 (by decide) ?_ ?_
  · intro E hE
    simp (disch := first | with_reducible assumption | omega) only [push_cast, x_blk, x_cd, ↓reduceIte, Nat.reduceEqDiff, List.map_cons, List.map_nil, Int.reduceEq, Int.lt_irrefl]
    refine loop_rule (fun f' w' => ∃ n : Nat, n ≤ o.length ∧ (f' 0 = .slice A l.length c ∧ f' 3 = .slice O o.length co ∧ f' 4 = .int .i64 k ∧ f' 5 = .int .i64 n) ∧ (∀ j, j < n → (o.getD j default).lt x) ∧
        OwnR arrCells w.heap.size 85 3 w' O co o ∧ Below w.heap.size w w')
      (fun f' _ => o.length - (intOf (f' 5)).toNat) ⟨0, Nat.zero_le _, (by simp only [push_cast, ↓reduceIte, Nat.reduceEqDiff, true_and, and_true, and_self, eq_self, fr]), fun j hj => absurd hj (by omega), ho, bb⟩ ?_
    clear ho bb fr
    rintro f w1 ⟨n, hn, fr, hp, ho, bb⟩ J2 hJ2
    have sd : Same w1 w1.drew := (Same.refl w1).drew
    have hod := ho.same sd
    have bd := bb.trans (sd.below _)
    have hId := h.below bd
    have hAl := hId.isSome (by omega)
    have hOd := OwnA.arrs hod
    have ldl := fun {K : Fr → World → Prop} {f : Fr} {d : Option Nat} {w : World} => hId.ldA (P := Tryd.prog) (K := K) (f := f) (d := d) (w := w) ty_ag_85 ty_sz_85 k hlt
    rw [hx] at ldl
    generalize hu : w1.drew = u at *
    by_cases hno : n < o.length
    case neg =>
      have hat : atA x o = n := atA_eq hn hp fun h => absurd h hno
      have hno' : ¬ ((n : Int) < (o.length : Int)) := by omega
      simp (disch := first | with_reducible assumption | omega) only [push_cast, x_blk, x_cd, ↓reduceIte, Nat.reduceEqDiff, List.map_cons, List.map_nil, Int.reduceEq, Int.lt_irrefl, L_ref2_Sort_0, fr, hno', hno, hlt, hu, ldl, Bool.false_and]
      exact hE _ _ ⟨(by simp only [push_cast, ↓reduceIte, Nat.reduceEqDiff, true_and, and_true, and_self, eq_self, fr, hat]), by omega, hod, bd⟩
    have hAo := hOd.isSome (by omega)
    have ldo := fun {K : Fr → World → Prop} {f : Fr} {d : Option Nat} {w : World} => hOd.ldA (P := Tryd.prog) (K := K) (f := f) (d := d) (w := w) ty_ag_85 ty_sz_85 n hno
    simp (disch := first | with_reducible assumption | omega) only [push_cast, x_blk, x_cd, ↓reduceIte, Nat.reduceEqDiff, List.map_cons, List.map_nil, Int.reduceEq, Int.lt_irrefl, L_ref2_Sort_0, fr, hno, hlt, hu, ldl, ldo]
    refine call_of (ref2_ahead _ _ _) ?_
    rintro v w2 ⟨rfl, b2⟩
    have ho2 := hod.below b2 (Nat.le_refl _)
    have bb2 := bd.trans (b2.mono bd.size)
    by_cases ha : (o.getD n default).lt x
    · simp (disch := first | with_reducible assumption | omega) only [push_cast, x_blk, x_cd, ↓reduceIte, Nat.reduceEqDiff, List.map_cons, List.map_nil, Int.reduceEq, Int.lt_irrefl, fr, decide_eq_true ha]
      exact hJ2 _ _ ⟨n + 1, hno, (by simp only [push_cast, ↓reduceIte, Nat.reduceEqDiff, true_and, and_true, and_self, eq_self, fr]), fun j hj => if e : j = n then e ▸ ha else hp j (by omega), ho2, bb2⟩ (by simp only [push_cast, ↓reduceIte, Nat.reduceEqDiff, intOf, fr]; omega)
    have hat : atA x o = n := atA_eq hn hp fun _ => ha
    simp (disch := first | with_reducible assumption | omega) only [push_cast, x_blk, x_cd, ↓reduceIte, Nat.reduceEqDiff, List.map_cons, List.map_nil, Int.reduceEq, Int.lt_irrefl, fr, decide_eq_false ha]
    exact hE _ _ ⟨(by simp only [push_cast, ↓reduceIte, Nat.reduceEqDiff, true_and, and_true, and_self, eq_self, fr, hat]), by omega, ho2, bb2⟩
  clear ho bb fr
  rintro f w1 ⟨fr, hat, ho, bb⟩
  unfold insA at hsn
  have hcl := ho.cap
  generalize atA x o = n at *
  have sd : Same w1 w1.drew := (Same.refl w1).drew
  have hod := ho.same sd
  have bd := bb.trans (sd.below _)
  have hId := h.below bd
  have hAl := hId.isSome (by omega)
  have hOd := OwnA.arrs hod
  have ldl := fun {K : Fr → World → Prop} {f : Fr} {d : Option Nat} {w : World} => hId.ldA (P := Tryd.prog) (K := K) (f := f) (d := d) (w := w) ty_ag_85 ty_sz_85 k hlt
  rw [hx] at ldl
  generalize hu : w1.drew = u at *
  rw [x_sq]
  refine cut (fun f' w' => (f' 0 = .slice A l.length c ∧ f' 3 = .slice O o.length co ∧ f' 4 = .int .i64 k ∧ f' 5 = .int .i64 n) ∧ w' = u ∧ ¬ (n < o.length ∧ o.getD n default = x)) 19000 20000 (by decide) ?_ ?_
  · intro E hE
    by_cases hno : n < o.length
    case neg =>
      have hno' : ¬ ((n : Int) < (o.length : Int)) := by omega
      simp (disch := first | with_reducible assumption | omega) only [push_cast, x_blk, x_cd, ↓reduceIte, Nat.reduceEqDiff, List.map_cons, List.map_nil, Int.reduceEq, Int.lt_irrefl, fr, hno', hno, hlt, hu, ldl]
      exact hE _ _ ⟨(by simp only [push_cast, ↓reduceIte, Nat.reduceEqDiff, true_and, and_true, and_self, eq_self, fr]), rfl, fun hh => hno hh.1⟩
    have hAo := hOd.isSome (by omega)
    have ldo := fun {K : Fr → World → Prop} {f : Fr} {d : Option Nat} {w : World} => hOd.ldA (P := Tryd.prog) (K := K) (f := f) (d := d) (w := w) ty_ag_85 ty_sz_85 n hno
    by_cases heq : o.getD n default = x
    · rw [if_pos ⟨hno, heq⟩] at hsn
      simp (disch := first | with_reducible assumption | omega) only [push_cast, x_blk, x_cd, ↓reduceIte, Nat.reduceEqDiff, List.map_cons, List.map_nil, Int.reduceEq, Int.lt_irrefl, fr, hno, hlt, hu, ldl, ldo, eql_arr, decide_eq_true heq]
      exact hJ _ _ ⟨k + 1, O, co, hlt, (by simp only [push_cast, ↓reduceIte, Nat.reduceEqDiff, true_and, and_true, and_self, eq_self, fr, hsn]), by rw [hsn]; exact hod, bd⟩ (by rw [hmu]; simp only [push_cast, ↓reduceIte, Nat.reduceEqDiff, intOf, fr]; omega)
    · simp (disch := first | with_reducible assumption | omega) only [push_cast, x_blk, x_cd, ↓reduceIte, Nat.reduceEqDiff, List.map_cons, List.map_nil, Int.reduceEq, Int.lt_irrefl, fr, hno, hlt, hu, ldl, ldo, eql_arr, decide_eq_false heq]
      exact hE _ _ ⟨(by simp only [push_cast, ↓reduceIte, Nat.reduceEqDiff, true_and, and_true, and_self, eq_self, fr]), rfl, fun hh => heq hh.2⟩
  clear fr
  rintro f w2 ⟨fr, rfl, heq⟩
  rw [if_neg heq] at hsn
  have hz : n = o.length → o.length = 0 → True := fun _ _ => trivial
  have hcn : n ≤ co := by omega
  simp (disch := first | with_reducible assumption | omega) only [push_cast, x_blk, x_cd, ↓reduceIte, Nat.reduceEqDiff, List.map_cons, List.map_nil, Int.reduceEq, Int.lt_irrefl, fr, slice_tail slT_23 n hat hcl, bs0_23]
  have o0 : OwnR arrCells w2.heap.size 85 3 (w2.alloc (.cells [].toArray 85)) (some ⟨w2.heap.size, 0, none⟩) 0 [] := ⟨World.ownsRow_made w2 #[] 0 (Nat.le_refl _) (by decide) (by simp)⟩
  have b0 : Below w2.heap.size w2 (w2.alloc (.cells [].toArray 85)) := (Below.refl _ _).alloc (Nat.le_refl _) _
  generalize w2.alloc (Obj.cells [].toArray 85) = w3 at *
  have hr : Rd w3 (if co = n then O else O.map (·.add (n * 3))) ((o.drop n).flatMap arrCells) := by
    rw [flatMap_drop arrEnc o hat]
    exact ((hod.rd (by decide)).tail (by rw [flatMap_len arrEnc]) hat hcl).below b0
  refine append_own slT_23 _ o0 hr (by rw [flatMap_len arrEnc, List.length_drop]) (fun v hv => by
    obtain ⟨y, _, hy⟩ := List.mem_flatMap.1 hv
    exact arrEnc.one y v hy) (by simp; omega) (by simp; omega) b0.size ?_
  intro R cr w4 hoR g4 hA4 hs4 hz4
  have hlO := fun {b : Nat} (hb : some b = O.map (·.block)) => hod.ltB hb
  have ho3 := hod.below b0 (Nat.le_refl _)
  have hne4 : O = none ∨ O.map (·.block) ≠ (some (⟨w2.heap.size, 0, none⟩ : Addr)).map (·.block) := .inr fun e => by
    have := hlO (b := w2.heap.size) e.symm
    omega
  have ho4 := ho3.grew g4 hne4
  have b4 : Below w2.heap.size w2 w4 := g4.below b0 b0.size (by intro a ha; injection ha with ha; subst ha; exact Nat.le_refl _)
  have bb4 := bd.trans (b4.mono bd.size)
  have hdl : ([] : List Arr).length + (o.length - n) = (o.drop n).length := by simp
  have hoR' : OwnR arrCells w2.heap.size 85 3 w4 R cr (o.drop n) := by
    have := hoR
    simp only [List.flatMap_nil, List.nil_append, List.length_nil, Nat.zero_add] at this
    unfold OwnR
    rw [List.length_drop]; exact this
  clear hoR
  have hRO : R = none ∨ R.map (·.block) ≠ O.map (·.block) := by
    cases R with
    | none => exact .inl rfl
    | some a =>
      refine .inr fun e => ?_
      have h1 := hoR'.geB a rfl
      have h2 := hlO (b := a.block) e
      omega
  have sd4 : Same w4 w4.drew := (Same.refl w4).drew
  replace ho4 := ho4.same sd4
  replace hoR' := hoR'.same sd4
  replace bb4 := bb4.trans (sd4.below _)
  have hI4 := h.below bb4
  have ldl4 := fun {K : Fr → World → Prop} {f : Fr} {d : Option Nat} {w : World} => hI4.ldA (P := Tryd.prog) (K := K) (f := f) (d := d) (w := w) ty_ag_85 ty_sz_85 k hlt
  rw [hx] at ldl4
  generalize hu4 : w4.drew = u4 at *
  simp (disch := first | with_reducible assumption | omega) only [push_cast, x_blk, x_cd, ↓reduceIte, Nat.reduceEqDiff, List.map_cons, List.map_nil, Int.reduceEq, Int.lt_irrefl, fr, hu4, hlt, slice_head slT_23 n hcn, ldl4, bs_rec arrEnc slT_23 _ (by decide)]
  refine ⟨(Below.refl _ _).alloc (Nat.le_refl _) _, ?_⟩
  have hln : (o.take n).length = n := by simp; omega
  have hot : OwnR arrCells w.heap.size 85 3 u4 O co (o.take n) := by
    have := ho4.take hat (by omega)
    rw [← flatMap_take arrEnc o hat] at this
    unfold OwnR
    rw [hln]; exact this
  refine app_rec' arrEnc slT_23 hln hot x (by omega) (by omega) bb4.size ?_
  intro O2 c2 w5 ho5 g5 hA5 hs5 hz5
  have hoR5 := hoR'.grew g5 hRO
  have bb5 := g5.below bb4 bb4.size hot.geB
  have ho5' : Own w.heap.size 85 3 w5 O2 c2 (n + 1) ((o.take n ++ [x]).flatMap arrCells) := by
    have := ho5
    unfold OwnR at this
    rwa [List.length_append, hln] at this
  simp (disch := first | with_reducible assumption | omega) only [push_cast, x_blk, x_cd, ↓reduceIte, Nat.reduceEqDiff, List.map_cons, List.map_nil, Int.reduceEq, Int.lt_irrefl]
  refine append_own slT_23 _ ho5' (hoR5.rd (by decide)) (by rw [flatMap_len arrEnc, List.length_drop]) (fun v hv => by
    obtain ⟨y, _, hy⟩ := List.mem_flatMap.1 hv
    exact arrEnc.one y v hy) (by omega) (by omega) bb5.size ?_
  intro O3 c3 w6 ho6 g6 hA6 hs6 hz6
  have hl6 : (o.take n ++ x :: o.drop n).length = n + 1 + (o.length - n) := by simp; omega
  have ho6' : OwnR arrCells w.heap.size 85 3 w6 O3 c3 (o.take n ++ x :: o.drop n) := by
    unfold OwnR
    rw [hl6]
    simpa using ho6
  simp (disch := first | with_reducible assumption | omega) only [push_cast, x_blk, x_cd, ↓reduceIte, Nat.reduceEqDiff, List.map_cons, List.map_nil, Int.reduceEq, Int.lt_irrefl, fr]
  exact hJ _ _ ⟨k + 1, O3, c3, hlt, (by simp only [push_cast, ↓reduceIte, Nat.reduceEqDiff, true_and, and_true, and_self, eq_self, fr, hsn, hl6]), by rw [hsn]; exact ho6', g6.below bb5 bb5.size ho5'.geB⟩ (by rw [hmu]; simp only [push_cast, ↓reduceIte, Nat.reduceEqDiff, intOf, fr]; omega)
end
end Go.Proofs.YtcjedgiglimipaaDoor
