/-
  Chapter 3: what can be come to: the program's spread, back, Reach, Live: by their contracts.
  Chapter 3: the program's Only, Reach, Live, Trim: by their contracts.
  Chapter 3: the reference's place, places, Reach, Live; chapter 2: its Sort: by their contracts.
-/
import Derived.Test.YtpinjiikiaakaaaDoorZM8
import Derived.Room.Shelf.Join48
namespace Go.Proofs.YtpinjiikiaakaaaDoor
set_option linter.unusedSimpArgs false
set_option linter.unusedVariables false
set_option linter.unusedSectionVars false
section
open Go.RowKit

/-- Arrows between states. -/
def ArSmall (ar : List Arr) : Prop := ∀ a ∈ ar, (0 ≤ a.frm ∧ a.frm < 256) ∧ (0 ≤ a.to_ ∧ a.to_ < 256)
theorem ArSmall.eds {ar : List Arr} (h : ArSmall ar) (p : Arr → Bool) (rev : Bool) : ∀ e ∈ eds p rev ar, 0 ≤ e.2 ∧ e.2 < 256 := fun e he => by
  obtain ⟨a, ha, _, rfl⟩ := mem_eds.1 he
  cases rev
  · exact (h a ha).2
  · exact (h a ha).1
/-- An arrow the other way round. -/
def Arr.back (a : Arr) : Arr := ⟨a.to_, a.evt, a.frm⟩
end

section
open Go.RowKit

structure Mid (lo hi : Nat) (w w' : World) : Prop where
  size : hi ≤ w'.heap.size
  block : ∀ b, lo < b → b < hi → w'.heap[b]? = w.heap[b]?
theorem Mid.start {lo : Nat} {w : World} : Mid lo w.heap.size w w := ⟨Nat.le_refl _, fun _ _ _ => rfl⟩
theorem Mid.below {lo hi : Nat} {w w' w'' : World} (h : Mid lo hi w w') (hb : Below w'.heap.size w' w'') : Mid lo hi w w'' :=
  ⟨Nat.le_trans h.size hb.size, fun b h1 h2 => (hb.block b (Nat.lt_of_lt_of_le h2 h.size)).trans (h.block b h1 h2)⟩
theorem Mid.same {lo hi : Nat} {w w' w'' : World} (h : Mid lo hi w w') (hs : Same w' w'') : Mid lo hi w w'' := h.below (hs.below _)
theorem Mid.grew {lo hi : Nat} {w w' w'' : World} {A : Option Addr} (h : Mid lo hi w w') (hg : Grew w' w'' A) (hA : ∀ a, A = some a → a.block ≤ lo ∨ hi ≤ a.block) : Mid lo hi w w'' :=
  ⟨Nat.le_trans h.size hg.by_.size, fun b h1 h2 => (hg.by_.block b (Nat.lt_of_lt_of_le h2 h.size) (fun e => by
    cases A with
    | none => cases e
    | some a => have e : b = a.block := by simpa using e
                rcases hA a rfl with h3 | h3 <;> omega)).trans (h.block b h1 h2)⟩
/-- What one owns, newer than a mark. -/
theorem OwnI.between {B e c : Nat} {w : World} {A : Option Addr} {l : List Int} (h : OwnI B e w A c l) {lo : Nat} (hlo : lo < B) : Ints (fun b => lo < b ∧ b < w.heap.size) w A l :=
  ((OwnI.ints h).both (OwnI.ints h).lt).mono fun b hb => ⟨Nat.lt_of_lt_of_le hlo hb.1.1, hb.2⟩

section
variable {P : Program} {K : Fr → World → Prop} {f : Fr} {d : Option Nat} {w : World} {t e bytes : Nat}
end
end

section
open Go.RowKit

def atA (x : Arr) : List Arr → Nat
  | [] => 0
  | y :: o => if y.lt x then atA x o + 1 else 0
theorem atA_eq {x : Arr} : ∀ {o : List Arr} {n : Nat}, n ≤ o.length → (∀ j, j < n → (o.getD j default).lt x) → (n < o.length → ¬ (o.getD n default).lt x) → atA x o = n
  | [], n, hn, _, _ => by simp at hn; rw [hn]; rfl
  | y :: o, 0, _, _, h2 => by
    have := h2 (by simp)
    unfold atA
    rw [if_neg (show ¬ y.lt x from this)]
  | y :: o, n + 1, hn, h1, h2 => by
    unfold atA
    have h0 := h1 0 (by omega)
    rw [if_pos (show y.lt x from h0), atA_eq (o := o) (n := n) (by simpa using hn) (fun j hj => by have := h1 (j + 1) (by omega); simpa using this) fun hlt => by
      have := h2 (by simpa using hlt)
      simpa using this]
def insA (x : Arr) (o : List Arr) : List Arr := if atA x o < o.length ∧ o.getD (atA x o) default = x then o else o.take (atA x o) ++ x :: o.drop (atA x o)
def sortA (l : List Arr) : List Arr := l.foldl (fun o x => insA x o) []
theorem sortA_snoc (l : List Arr) (k : Nat) (h : k < l.length) : sortA (l.take (k + 1)) = insA (l.getD k default) (sortA (l.take k)) := by
  unfold sortA
  rw [take_snoc _ default k h, List.foldl_append]; rfl
theorem insA_len (x : Arr) (o : List Arr) : (insA x o).length ≤ o.length + 1 := by
  unfold insA
  split
  · omega
  · simp; omega
theorem sortA_len (l : List Arr) : ∀ k, (sortA (l.take k)).length ≤ k
  | 0 => by simp [sortA]
  | k + 1 => by
    rcases Nat.lt_or_ge k l.length with h | h
    · rw [sortA_snoc l k h]; have := insA_len (l.getD k default) (sortA (l.take k)); have := sortA_len l k; omega
    · rw [List.take_of_length_le (by omega), ← List.take_of_length_le (l := l) (i := k) h]; have := sortA_len l k; omega
section
variable {P : Program} {K : Fr → World → Prop} {u w : World} {f : Fr} {d : Option Nat} {A : Option Addr} {n c B e bytes t : Nat} {xs : List Value}
theorem slice_head {sz : Nat} (hT : SlT P t e sz bytes) (k : Nat) (hk : k ≤ c) : Val1 P K (Instr.sliceAt t (.slice A n c) none (some (.int .i64 k)) none) u f d w = K (updO f d (.slice A k c)) w :=
  val1_of u f d w fun w' _ => by
    obtain ⟨i, z, hi, hz, hs, hb, hcc⟩ := hT.get
    have h1 : (0 : Int) ≤ (k : Int) ∧ (k : Int) ≤ (c : Int) := by omega
    cases A with
    | none => simp [Instr.sliceAt, run_underlying hT.under, Instr.slice, Instr.sliceBounds, Instr.sliceBound, asIntOf, hk, sizeOf, typeInfo, hi, hs]
    | some a => simp [Instr.sliceAt, run_underlying hT.under, Instr.slice, Instr.sliceBounds, Instr.sliceBound, asIntOf, hk, sizeOf, typeInfo, hi, hs, Addr.add]
theorem Own.take {sz : Nat} (h : Own B e sz w A c n xs) {k : Nat} (hk : k ≤ n) (h0 : n = 0 → k = 0) : Own B e sz w A c k (xs.take (k * sz)) := by
  obtain ⟨hl, hh⟩ := h.own
  have hkn : k * sz ≤ n * sz := Nat.mul_le_mul_right _ hk
  refine ⟨⟨by rw [List.length_take]; omega, ?_⟩⟩
  rcases hh with ⟨h1, h2⟩ | ⟨g, cap, cur, hv, hB, hg, hnc, h3, h4, h5⟩
  · injection h1 with h1 h6 h7
    subst h1 h6 h7
    obtain rfl := h0 rfl
    exact .inl ⟨rfl, rfl⟩
  · injection hv with e1 e2 e3
    subst e1 e3
    refine .inr ⟨g, c, cur, rfl, hB, hg, by omega, h3, h4, ?_⟩
    rw [← h5, List.take_take, Nat.min_eq_left hkn]
end
theorem eql_run_arr (w : World) (xo yo : Operand) (a b : Arr) : (binS .eql 66 xo yo (arrVal a) (arrVal b)).run Tryd.prog w = .ok (.bool (decide (a = b))) w := by
  unfold binS
  rw [Sem.run_bind, run_eqGuard_agg w .eql 66 xo yo _ _ (by kernel_rfl), Result.andThen_ok, run_eql_struct w, equal_arr w a b]; rfl
theorem eql_arr {K : Fr → World → Prop} {u w : World} {f : Fr} {d : Option Nat} {xo yo : Operand} (a b : Arr) : Val1 Tryd.prog K (binS .eql 66 xo yo (arrVal a) (arrVal b)) u f d w = K (updO f d (.bool (decide (a = b)))) w :=
  val1_of u f d w fun w' _ => eql_run_arr w' xo yo a b
theorem Arrs.lt {ok : Nat → Prop} {w : World} {A : Option Addr} {l : List Arr} (h : Arrs ok w A l) : Arrs (· < w.heap.size) w A l :=
  ⟨h.isSome, fun hl => by
    have := World.block_lt_of_cell? w _ (h.cell 0 hl 0 (by decide))
    rwa [eA_block] at this, h.cell⟩
theorem OwnA.arrs {B e c : Nat} {w : World} {A : Option Addr} {l : List Arr} (h : OwnR arrCells B e 3 w A c l) : Arrs (fun b => B ≤ b ∧ b < w.heap.size) w A l :=
  Arrs.of_recs (((OwnR.recs h arrEnc (by decide)).both (Recs.lt arrEnc (by decide) (OwnR.recs h arrEnc (by decide)))).mono fun b hb => ⟨hb.1.1, hb.2⟩)

theorem flatMap_drop {α : Type} {enc : α → List Value} {sz : Nat} (E : Enc enc sz) (o : List α) {n : Nat} (hn : n ≤ o.length) : (o.drop n).flatMap enc = (o.flatMap enc).drop (n * sz) := by
  have hl : ((o.take n).flatMap enc).length = n * sz := by rw [flatMap_len E, List.length_take, Nat.min_eq_left hn]
  have : o.flatMap enc = (o.take n).flatMap enc ++ (o.drop n).flatMap enc := by rw [← List.flatMap_append, List.take_append_drop]
  rw [this, List.drop_left' hl]
theorem flatMap_take {α : Type} {enc : α → List Value} {sz : Nat} (E : Enc enc sz) (o : List α) {n : Nat} (hn : n ≤ o.length) : (o.take n).flatMap enc = (o.flatMap enc).take (n * sz) := by
  have hl : ((o.take n).flatMap enc).length = n * sz := by rw [flatMap_len E, List.length_take, Nat.min_eq_left hn]
  have : o.flatMap enc = (o.take n).flatMap enc ++ (o.drop n).flatMap enc := by rw [← List.flatMap_append, List.take_append_drop]
  rw [this, List.take_left' hl]
theorem Rd.below {w w' : World} {A : Option Addr} {xs : List Value} (h : Rd w A xs) (hb : Below w.heap.size w w') : Rd w' A xs := ⟨h.isSome, fun j v hv => below_cell hb (h.cell j v hv)⟩
theorem Rd.tail {w : World} {A : Option Addr} {xs : List Value} {n c k sz : Nat} (h : Rd w A xs) (hs : xs.length = n * sz) (hk : k ≤ n) (hc : n ≤ c) : Rd w (if c = k then A else A.map (·.add (k * sz))) (xs.drop (k * sz)) := by
  have hlt : ∀ j, j < (xs.drop (k * sz)).length → c ≠ k := fun j hj e => by
    rw [List.length_drop, hs] at hj
    have : n = k := by omega
    rw [this] at hj; omega
  refine ⟨fun hl => ?_, fun j v hv => ?_⟩
  · rw [if_neg (hlt 0 hl)]
    have := h.isSome (by rw [List.length_drop] at hl; omega)
    cases A <;> simp_all
  · have hj : j < (xs.drop (k * sz)).length := (List.getElem?_eq_some_iff.1 hv).1
    rw [if_neg (hlt j hj)]
    rw [List.getElem?_drop] at hv
    have hA := h.isSome (by rw [List.length_drop] at hj; omega)
    have := h.cell _ v hv
    cases A with
    | none => cases hA
    | some a => rw [eA_some] at this; rw [Option.map_some, eA_some, add_add, this]
theorem app_rec' {α : Type} {enc : α → List Value} {sz : Nat} {P : Program} {K : Fr → World → Prop} {w : World} {f : Fr} {d : Option Nat} {A : Option Addr} {l : List α} {B e bytes t ty c n : Nat} (E : Enc enc sz) (hT : SlT P t e sz bytes) (hn : l.length = n) (hown : OwnR enc B e sz w A c l) (x : α) (hl : (n + 1) * bytes ≤ 140737488355328) (h63 : n + 1 ≤ 9223372036854775807) (hB : B ≤ w.heap.size)
    (hk : ∀ A' c' w', OwnR enc B e sz w' A' c' (l ++ [x]) → Grew w w' A → (A'.map (·.block) = A.map (·.block) ∨ ∃ g, A'.map (·.block) = some g ∧ w.heap.size ≤ g) → A'.isSome = true → w.heap.size ≤ w'.heap.size → K (updO f d (.slice A' (n + 1) c')) w') :
    Eff1 P K (Builtin.append_ #[t, t] ty #[.slice A n c, .slice (some ⟨w.heap.size, 0, none⟩) 1 1]) f d (w.alloc (.cells (enc x).toArray e)) := by
  subst hn
  exact app_rec E hT hown x hl h63 hB hk

theorem ref2_Sort {w : World} {A : Option Addr} {c : Nat} {l : List Arr} (h : Arrs (· < w.heap.size) w A l) (hl : l.length ≤ 1000000) :
    Cal Tryd.prog 23 [.slice A l.length c] w fun v w' => ∃ O co, v = .slice O (sortA l).length co ∧ OwnR arrCells w.heap.size 66 3 w' O co (sortA l) ∧ Below w.heap.size w w' := by
  refine cal_ref2_Sort (by simp) 100000 fun Q hQ => ?_
  simp (disch := first | with_reducible assumption | omega) only [push_cast, x_blk, x_cd, ↓reduceIte, Nat.reduceEqDiff, List.map_cons, List.map_nil, Int.reduceEq, Int.lt_irrefl, F_ref2_Sort]
  refine loop_rule (fun f w' => ∃ (k : Nat) (O : Option Addr) (co : Nat), k ≤ l.length ∧ (f 0 = .slice A l.length c ∧ f 3 = .slice O (sortA (l.take k)).length co ∧ f 4 = .int .i64 k) ∧
      OwnR arrCells w.heap.size 66 3 w' O co (sortA (l.take k)) ∧ Below w.heap.size w w')
    (fun f _ => l.length - (intOf (f 4)).toNat) ⟨0, none, 0, Nat.zero_le _, ⟨rfl, rfl, rfl⟩, Own.nil _ _ _ _, Below.refl _ _⟩ ?_
  rintro f w1 ⟨k, O, co, hk, fr, ho, bb⟩ J hJ
  by_cases hlt : k < l.length
  case neg =>
    obtain rfl : k = l.length := by omega
    rw [List.take_length] at fr ho
    simp (disch := first | with_reducible assumption | omega) only [push_cast, x_blk, x_cd, ↓reduceIte, Nat.reduceEqDiff, List.map_cons, List.map_nil, Int.reduceEq, Int.lt_irrefl, L_ref2_Sort_1, fr, Nat.lt_irrefl]
    exact fin_1 (hQ _ _ ⟨O, co, (by simp only [push_cast, ↓reduceIte, Nat.reduceEqDiff, Int.reduceEq, fr]), ho, bb⟩)
  have hsn := sortA_snoc l k hlt
  have hle := sortA_len l k
  have hmu : (intOf (f 4)).toNat = k := by rw [fr.2.2]; simp [intOf]
  generalize hoo : sortA (l.take k) = o at *
  generalize hx : l.getD k default = x at *
  simp (disch := first | with_reducible assumption | omega) only [push_cast, x_cd, ↓reduceIte, Nat.reduceEqDiff, L_ref2_Sort_1, fr, hlt]
  rw [x_blk]
  simp (disch := first | with_reducible assumption | omega) only [push_cast, x_cd, ↓reduceIte, Nat.reduceEqDiff]
  refine cut (fun f' w' => (f' 0 = .slice A l.length c ∧ f' 3 = .slice O o.length co ∧ f' 4 = .int .i64 k ∧ f' 5 = .int .i64 (atA x o)) ∧ atA x o ≤ o.length ∧ OwnR arrCells w.heap.size 66 3 w' O co o ∧ Below w.heap.size w w') 40000 40000 (by decide) ?_ ?_
  · intro E hE
    simp (disch := first | with_reducible assumption | omega) only [push_cast, x_blk, x_cd, ↓reduceIte, Nat.reduceEqDiff, List.map_cons, List.map_nil, Int.reduceEq, Int.lt_irrefl]
    refine loop_rule (fun f' w' => ∃ n : Nat, n ≤ o.length ∧ (f' 0 = .slice A l.length c ∧ f' 3 = .slice O o.length co ∧ f' 4 = .int .i64 k ∧ f' 5 = .int .i64 n) ∧ (∀ j, j < n → (o.getD j default).lt x) ∧
        OwnR arrCells w.heap.size 66 3 w' O co o ∧ Below w.heap.size w w')
      (fun f' _ => o.length - (intOf (f' 5)).toNat) ⟨0, Nat.zero_le _, (by simp only [push_cast, ↓reduceIte, Nat.reduceEqDiff, true_and, and_true, and_self, eq_self, fr]), fun j hj => absurd hj (by omega), ho, bb⟩ ?_
    clear ho bb fr
    rintro f w1 ⟨n, hn, fr, hp, ho, bb⟩ J2 hJ2
    have sd : Same w1 w1.drew := (Same.refl w1).drew
    have hod := ho.same sd
    have bd := bb.trans (sd.below _)
    have hId := h.below bd
    have hAl := hId.isSome (by omega)
    have hOd := OwnA.arrs hod
    have ldl := fun {K : Fr → World → Prop} {f : Fr} {d : Option Nat} {w : World} => hId.ldA (P := Tryd.prog) (K := K) (f := f) (d := d) (w := w) ty_ag_66 ty_sz_66 k hlt
    rw [hx] at ldl
    generalize hu : w1.drew = u at *
    by_cases hno : n < o.length
    case neg =>
      have hat : atA x o = n := atA_eq hn hp fun h => absurd h hno
      have hno' : ¬ ((n : Int) < (o.length : Int)) := by omega
      simp (disch := first | with_reducible assumption | omega) only [push_cast, x_blk, x_cd, ↓reduceIte, Nat.reduceEqDiff, List.map_cons, List.map_nil, Int.reduceEq, Int.lt_irrefl, L_ref2_Sort_0, fr, hno', hno, hlt, hu, ldl, Bool.false_and]
      exact hE _ _ ⟨(by simp only [push_cast, ↓reduceIte, Nat.reduceEqDiff, true_and, and_true, and_self, eq_self, fr, hat]), by omega, hod, bd⟩
    have hAo := hOd.isSome (by omega)
    have ldo := fun {K : Fr → World → Prop} {f : Fr} {d : Option Nat} {w : World} => hOd.ldA (P := Tryd.prog) (K := K) (f := f) (d := d) (w := w) ty_ag_66 ty_sz_66 n hno
    simp (disch := first | with_reducible assumption | omega) only [push_cast, x_blk, x_cd, ↓reduceIte, Nat.reduceEqDiff, List.map_cons, List.map_nil, Int.reduceEq, Int.lt_irrefl, L_ref2_Sort_0, fr, hno, hlt, hu, ldl, ldo]
    refine call_of (ref2_ahead _ _ _) ?_
    rintro v w2 ⟨rfl, b2⟩
    have ho2 := hod.below b2 (Nat.le_refl _)
    have bb2 := bd.trans (b2.mono bd.size)
    by_cases ha : (o.getD n default).lt x
    · simp (disch := first | with_reducible assumption | omega) only [push_cast, x_blk, x_cd, ↓reduceIte, Nat.reduceEqDiff, List.map_cons, List.map_nil, Int.reduceEq, Int.lt_irrefl, fr, decide_eq_true ha]
      exact hJ2 _ _ ⟨n + 1, hno, (by simp only [push_cast, ↓reduceIte, Nat.reduceEqDiff, true_and, and_true, and_self, eq_self, fr]), fun j hj => if e : j = n then e ▸ ha else hp j (by omega), ho2, bb2⟩ (by simp only [push_cast, ↓reduceIte, Nat.reduceEqDiff, intOf, fr]; omega)
    have hat : atA x o = n := atA_eq hn hp fun _ => ha
    simp (disch := first | with_reducible assumption | omega) only [push_cast, x_blk, x_cd, ↓reduceIte, Nat.reduceEqDiff, List.map_cons, List.map_nil, Int.reduceEq, Int.lt_irrefl, fr, decide_eq_false ha]
    exact hE _ _ ⟨(by simp only [push_cast, ↓reduceIte, Nat.reduceEqDiff, true_and, and_true, and_self, eq_self, fr, hat]), by omega, ho2, bb2⟩
  clear ho bb fr
  rintro f w1 ⟨fr, hat, ho, bb⟩
  unfold insA at hsn
  have hcl := ho.cap
  generalize atA x o = n at *
  have sd : Same w1 w1.drew := (Same.refl w1).drew
  have hod := ho.same sd
  have bd := bb.trans (sd.below _)
  have hId := h.below bd
  have hAl := hId.isSome (by omega)
  have hOd := OwnA.arrs hod
  have ldl := fun {K : Fr → World → Prop} {f : Fr} {d : Option Nat} {w : World} => hId.ldA (P := Tryd.prog) (K := K) (f := f) (d := d) (w := w) ty_ag_66 ty_sz_66 k hlt
  rw [hx] at ldl
  generalize hu : w1.drew = u at *
  rw [x_sq]
  refine cut (fun f' w' => (f' 0 = .slice A l.length c ∧ f' 3 = .slice O o.length co ∧ f' 4 = .int .i64 k ∧ f' 5 = .int .i64 n) ∧ w' = u ∧ ¬ (n < o.length ∧ o.getD n default = x)) 19000 20000 (by decide) ?_ ?_
  · intro E hE
    by_cases hno : n < o.length
    case neg =>
      have hno' : ¬ ((n : Int) < (o.length : Int)) := by omega
      simp (disch := first | with_reducible assumption | omega) only [push_cast, x_blk, x_cd, ↓reduceIte, Nat.reduceEqDiff, List.map_cons, List.map_nil, Int.reduceEq, Int.lt_irrefl, fr, hno', hno, hlt, hu, ldl]
      exact hE _ _ ⟨(by simp only [push_cast, ↓reduceIte, Nat.reduceEqDiff, true_and, and_true, and_self, eq_self, fr]), rfl, fun hh => hno hh.1⟩
    have hAo := hOd.isSome (by omega)
    have ldo := fun {K : Fr → World → Prop} {f : Fr} {d : Option Nat} {w : World} => hOd.ldA (P := Tryd.prog) (K := K) (f := f) (d := d) (w := w) ty_ag_66 ty_sz_66 n hno
    by_cases heq : o.getD n default = x
    · rw [if_pos ⟨hno, heq⟩] at hsn
      simp (disch := first | with_reducible assumption | omega) only [push_cast, x_blk, x_cd, ↓reduceIte, Nat.reduceEqDiff, List.map_cons, List.map_nil, Int.reduceEq, Int.lt_irrefl, fr, hno, hlt, hu, ldl, ldo, eql_arr, decide_eq_true heq]
      exact hJ _ _ ⟨k + 1, O, co, hlt, (by simp only [push_cast, ↓reduceIte, Nat.reduceEqDiff, true_and, and_true, and_self, eq_self, fr, hsn]), by rw [hsn]; exact hod, bd⟩ (by rw [hmu]; simp only [push_cast, ↓reduceIte, Nat.reduceEqDiff, intOf, fr]; omega)
    · simp (disch := first | with_reducible assumption | omega) only [push_cast, x_blk, x_cd, ↓reduceIte, Nat.reduceEqDiff, List.map_cons, List.map_nil, Int.reduceEq, Int.lt_irrefl, fr, hno, hlt, hu, ldl, ldo, eql_arr, decide_eq_false heq]
      exact hE _ _ ⟨(by simp only [push_cast, ↓reduceIte, Nat.reduceEqDiff, true_and, and_true, and_self, eq_self, fr]), rfl, fun hh => heq hh.2⟩
  clear fr
  rintro f w2 ⟨fr, rfl, heq⟩
  rw [if_neg heq] at hsn
  have hz : n = o.length → o.length = 0 → True := fun _ _ => trivial
  have hcn : n ≤ co := by omega
  simp (disch := first | with_reducible assumption | omega) only [push_cast, x_blk, x_cd, ↓reduceIte, Nat.reduceEqDiff, List.map_cons, List.map_nil, Int.reduceEq, Int.lt_irrefl, fr, slice_tail slT_24 n hat hcl, bs0_24]
  have o0 : OwnR arrCells w2.heap.size 66 3 (w2.alloc (.cells [].toArray 66)) (some ⟨w2.heap.size, 0, none⟩) 0 [] := ⟨World.ownsRow_made w2 #[] 0 (Nat.le_refl _) (by decide) (by simp)⟩
  have b0 : Below w2.heap.size w2 (w2.alloc (.cells [].toArray 66)) := (Below.refl _ _).alloc (Nat.le_refl _) _
  generalize w2.alloc (Obj.cells [].toArray 66) = w3 at *
  have hr : Rd w3 (if co = n then O else O.map (·.add (n * 3))) ((o.drop n).flatMap arrCells) := by
    rw [flatMap_drop arrEnc o hat]
    exact ((hod.rd (by decide)).tail (by rw [flatMap_len arrEnc]) hat hcl).below b0
  refine append_own slT_24 _ o0 hr (by rw [flatMap_len arrEnc, List.length_drop]) (fun v hv => by
    obtain ⟨y, _, hy⟩ := List.mem_flatMap.1 hv
    exact arrEnc.one y v hy) (by simp; omega) (by simp; omega) b0.size ?_
  intro R cr w4 hoR g4 hA4 hs4 hz4
  have hlO := fun {b : Nat} (hb : some b = O.map (·.block)) => hod.ltB hb
  have ho3 := hod.below b0 (Nat.le_refl _)
  have hne4 : O = none ∨ O.map (·.block) ≠ (some (⟨w2.heap.size, 0, none⟩ : Addr)).map (·.block) := .inr fun e => by
    have := hlO (b := w2.heap.size) e.symm
    omega
  have ho4 := ho3.grew g4 hne4
  have b4 : Below w2.heap.size w2 w4 := g4.below b0 b0.size (by intro a ha; injection ha with ha; subst ha; exact Nat.le_refl _)
  have bb4 := bd.trans (b4.mono bd.size)
  have hdl : ([] : List Arr).length + (o.length - n) = (o.drop n).length := by simp
  have hoR' : OwnR arrCells w2.heap.size 66 3 w4 R cr (o.drop n) := by
    have := hoR
    simp only [List.flatMap_nil, List.nil_append, List.length_nil, Nat.zero_add] at this
    unfold OwnR
    rw [List.length_drop]; exact this
  clear hoR
  have hRO : R = none ∨ R.map (·.block) ≠ O.map (·.block) := by
    cases R with
    | none => exact .inl rfl
    | some a =>
      refine .inr fun e => ?_
      have h1 := hoR'.geB a rfl
      have h2 := hlO (b := a.block) e
      omega
  have sd4 : Same w4 w4.drew := (Same.refl w4).drew
  replace ho4 := ho4.same sd4
  replace hoR' := hoR'.same sd4
  replace bb4 := bb4.trans (sd4.below _)
  have hI4 := h.below bb4
  have ldl4 := fun {K : Fr → World → Prop} {f : Fr} {d : Option Nat} {w : World} => hI4.ldA (P := Tryd.prog) (K := K) (f := f) (d := d) (w := w) ty_ag_66 ty_sz_66 k hlt
  rw [hx] at ldl4
  generalize hu4 : w4.drew = u4 at *
  simp (disch := first | with_reducible assumption | omega) only [push_cast, x_blk, x_cd, ↓reduceIte, Nat.reduceEqDiff, List.map_cons, List.map_nil, Int.reduceEq, Int.lt_irrefl, fr, hu4, hlt, slice_head slT_24 n hcn, ldl4, bs_rec arrEnc slT_24 _ (by decide)]
  refine ⟨(Below.refl _ _).alloc (Nat.le_refl _) _, ?_⟩
  have hln : (o.take n).length = n := by simp; omega
  have hot : OwnR arrCells w.heap.size 66 3 u4 O co (o.take n) := by
    have := ho4.take hat (by omega)
    rw [← flatMap_take arrEnc o hat] at this
    unfold OwnR
    rw [hln]; exact this
  refine app_rec' arrEnc slT_24 hln hot x (by omega) (by omega) bb4.size ?_
  intro O2 c2 w5 ho5 g5 hA5 hs5 hz5
  have hoR5 := hoR'.grew g5 hRO
  have bb5 := g5.below bb4 bb4.size hot.geB
  have ho5' : Own w.heap.size 66 3 w5 O2 c2 (n + 1) ((o.take n ++ [x]).flatMap arrCells) := by
    have := ho5
    unfold OwnR at this
    rwa [List.length_append, hln] at this
  simp (disch := first | with_reducible assumption | omega) only [push_cast, x_blk, x_cd, ↓reduceIte, Nat.reduceEqDiff, List.map_cons, List.map_nil, Int.reduceEq, Int.lt_irrefl]
  refine append_own slT_24 _ ho5' (hoR5.rd (by decide)) (by rw [flatMap_len arrEnc, List.length_drop]) (fun v hv => by
    obtain ⟨y, _, hy⟩ := List.mem_flatMap.1 hv
    exact arrEnc.one y v hy) (by omega) (by omega) bb5.size ?_
  intro O3 c3 w6 ho6 g6 hA6 hs6 hz6
  have hl6 : (o.take n ++ x :: o.drop n).length = n + 1 + (o.length - n) := by simp; omega
  have ho6' : OwnR arrCells w.heap.size 66 3 w6 O3 c3 (o.take n ++ x :: o.drop n) := by
    unfold OwnR
    rw [hl6]
    simpa using ho6
  simp (disch := first | with_reducible assumption | omega) only [push_cast, x_blk, x_cd, ↓reduceIte, Nat.reduceEqDiff, List.map_cons, List.map_nil, Int.reduceEq, Int.lt_irrefl, fr]
  exact hJ _ _ ⟨k + 1, O3, c3, hlt, (by simp only [push_cast, ↓reduceIte, Nat.reduceEqDiff, true_and, and_true, and_self, eq_self, fr, hsn, hl6]), by rw [hsn]; exact ho6', g6.below bb5 bb5.size ho5'.geB⟩ (by rw [hmu]; simp only [push_cast, ↓reduceIte, Nat.reduceEqDiff, intOf, fr]; omega)
end
end Go.Proofs.YtpinjiikiaakaaaDoor

/-
  What a text is read as: tokens, their fform, names and numbers; or the first fault. As functions of the text; no program in sight.
-/
namespace Go.Proofs.YtpinjiikiaakaaaDoor
set_option linter.unusedSimpArgs false
set_option linter.unusedVariables false
set_option linter.unusedSectionVars false
open Go.RowKit

/-- A token: its kind, its bytes, where it stands. -/
structure Tok where
  k : Int
  s : ByteArray
  at_ : Int
instance : Inhabited Tok := ⟨⟨0, ⟨#[]⟩, 0⟩⟩
def Tok.cells (t : Tok) : List Value := [.int .i64 t.k, .string t.s, .int .i64 t.at_]
theorem tokEnc : Enc Tok.cells 3 := ⟨fun _ => rfl, fun t u hu => by
  unfold Tok.cells at hu
  simp only [List.mem_cons, List.not_mem_nil, or_false] at hu
  rcases hu with rfl | rfl | rfl <;> rfl⟩
def isBlank (c : Int) : Prop := c = 32 ∨ c = 10
def isSign (c : Int) : Prop := c = 59 ∨ c = 44
instance (c : Int) : Decidable (isBlank c) := inferInstanceAs (Decidable (_ ∨ _))
instance (c : Int) : Decidable (isSign c) := inferInstanceAs (Decidable (_ ∨ _))
/-- How far a word goes. -/
def wordN : List UInt8 → Nat
  | [] => 0
  | c :: l => if IsIn (c.toNat : Int) then wordN l + 1 else 0
theorem wordN_at : ∀ (l : List UInt8) (n : Nat), n ≤ l.length → (∀ j, j < n → IsIn ((l.getD j 0).toNat : Int)) → (n < l.length → ¬ IsIn ((l.getD n 0).toNat : Int)) → wordN l = n
  | [], n, h, _, _ => by have : n = 0 := by simpa using h
                         subst this; rfl
  | c :: l, 0, _, _, h2 => by
    unfold wordN
    rw [if_neg (by simpa using h2 (by simp))]
  | c :: l, n + 1, h, h1, h2 => by
    unfold wordN
    rw [if_pos (by simpa using h1 0 (by omega)), wordN_at l n (by simpa using h) (fun j hj => by simpa using h1 (j + 1) (by omega)) (fun hn => by simpa using h2 (by simpa using hn))]
/-- The tokens of a text from a place on, or the first fault (code, place). -/
def toks (at_ : Nat) (l : List UInt8) : List Tok × Option (Int × Int) :=
  match l with
  | [] => ([], none)
  | c :: r =>
    if isBlank (c.toNat : Int) then toks (at_ + 1) r
    else if isSign (c.toNat : Int) then (⟨3, ⟨#[c]⟩, at_⟩ :: (toks (at_ + 1) r).1, (toks (at_ + 1) r).2)
    else if ¬ IsLet (c.toNat : Int) then ([], some (2, at_))
    else if 16 < wordN r + 1 then ([], some (1, at_))
    else (⟨1, ⟨(c :: r.take (wordN r)).toArray⟩, at_⟩ :: (toks (at_ + 1 + wordN r) (r.drop (wordN r))).1, (toks (at_ + 1 + wordN r) (r.drop (wordN r))).2)
termination_by l.length
decreasing_by all_goals (simp only [List.length_cons, List.length_drop]; omega)
theorem toks_nil (a : Nat) : toks a [] = ([], none) := by rw [toks]
theorem toks_cons (a : Nat) (c : UInt8) (r : List UInt8) : toks a (c :: r) =
    if isBlank (c.toNat : Int) then toks (a + 1) r
    else if isSign (c.toNat : Int) then (⟨3, ⟨#[c]⟩, a⟩ :: (toks (a + 1) r).1, (toks (a + 1) r).2)
    else if ¬ IsLet (c.toNat : Int) then ([], some (2, (a : Int)))
    else if 16 < wordN r + 1 then ([], some (1, (a : Int)))
    else (⟨1, ⟨(c :: r.take (wordN r)).toArray⟩, a⟩ :: (toks (a + 1 + wordN r) (r.drop (wordN r))).1, (toks (a + 1 + wordN r) (r.drop (wordN r))).2) := by
  rw [toks]
theorem toks_len : ∀ (n : Nat) (l : List UInt8), l.length ≤ n → ∀ a, (toks a l).1.length ≤ l.length
  | _, [], _, a => by rw [toks_nil]; exact Nat.le_refl _
  | 0, c :: r, h, _ => by simp at h
  | n + 1, c :: r, h, a => by
    have hr : r.length ≤ n := by simpa using h
    rw [toks_cons, List.length_cons]
    split
    · have := toks_len n r hr (a + 1); omega
    · split
      · have := toks_len n r hr (a + 1); simp only [List.length_cons]; omega
      · split
        · simp
        · split
          · simp
          · have := toks_len n (r.drop (wordN r)) (by rw [List.length_drop]; omega) (a + 1 + wordN r)
            rw [List.length_drop] at this
            simp only [List.length_cons]; omega
/-- What may come next: a part's word; a name; a name or the end; a comma or the end. -/
inductive Nx where
  | p
  | n
  | m
  | z
  deriving DecidableEq
def Nx.num : Nx → Int
  | .p => 1
  | .n => 2
  | .m => 6
  | .z => 12
structure FSt where
  part : Nat
  names : Nat
  next : Nx
def partWs : List ByteArray := [⟨stB.toArray⟩, ⟨evB.toArray⟩, ⟨snB.toArray⟩, ⟨frB.toArray⟩, ⟨fuB.toArray⟩, ⟨scB.toArray⟩, ⟨saB.toArray⟩, ⟨enB.toArray⟩, ⟨arB.toArray⟩]
abbrev semi : ByteArray := ⟨#[59]⟩
abbrev comma : ByteArray := ⟨#[44]⟩
def afterName (st : FSt) : Option (FSt × Int) := some (⟨st.part, st.names + 1, if st.part = 8 then (if 0 < (st.names + 1) % 3 then .n else .z) else .m⟩, (st.part : Int))
def fstep (st : FSt) (t : Tok) : Option (FSt × Int) :=
  match st.next with
  | .p => if st.part < 9 ∧ t.k = 1 ∧ t.s = partWs.getD st.part ⟨#[]⟩ then some (⟨st.part, 0, if st.part = 0 then .n else .m⟩, -1) else none
  | .n => if t.k = 1 then afterName st else none
  | .m => if t.k = 1 then afterName st else if t.s = semi then some (⟨st.part + 1, st.names, .p⟩, -1) else none
  | .z => if t.s = semi then some (⟨st.part + 1, st.names, .p⟩, -1) else if t.s = comma then some (⟨st.part, st.names, .n⟩, -1) else none
def fs0 : FSt := ⟨0, 0, .p⟩
/-- Of each right token the part that it is a name of; and where that stops. -/
def fform : FSt → List Tok → List Int × FSt
  | st, [] => ([], st)
  | st, t :: ts => match fstep st t with
    | none => ([], st)
    | some (st', i) => (i :: (fform st' ts).1, (fform st' ts).2)
def endTok (en : Int) : Tok := ⟨0, ⟨#[]⟩, en⟩
theorem step_end (st : FSt) (en : Int) : fstep st (endTok en) = none := by
  unfold fstep endTok
  cases st.next <;> simp [semi, comma]
theorem form_some {st st' : FSt} {t : Tok} {ts : List Tok} {i : Int} (h : fstep st t = some (st', i)) : fform st (t :: ts) = (i :: (fform st' ts).1, (fform st' ts).2) := by
  rw [fform, h]
theorem form_none {st : FSt} {t : Tok} {ts : List Tok} (h : fstep st t = none) : fform st (t :: ts) = ([], st) := by
  rw [fform, h]
structure FReach (ts : List Tok) (i : Nat) (st : FSt) (of : List Int) : Prop where
  eq : fform fs0 ts = (of ++ (fform st (ts.drop i)).1, (fform st (ts.drop i)).2)
  len : of.length = i
  le : i ≤ ts.length
theorem FReach.zero (ts : List Tok) : FReach ts 0 fs0 [] := ⟨rfl, rfl, Nat.zero_le _⟩
theorem FReach.next {ts : List Tok} {i : Nat} {st st' : FSt} {of : List Int} {x en : Int} (h : FReach ts i st of) (hs : fstep st (ts.getD i (endTok en)) = some (st', x)) : i < ts.length ∧ FReach ts (i + 1) st' (of ++ [x]) := by
  have hi : i < ts.length := by
    apply Classical.byContradiction
    intro hc
    rw [List.getD_eq_getElem?_getD, List.getElem?_eq_none (by omega)] at hs
    rw [Option.getD_none, step_end] at hs
    cases hs
  refine ⟨hi, ⟨?_, by rw [List.length_append, h.len]; rfl, hi⟩⟩
  have hd : ts.drop i = ts[i] :: ts.drop (i + 1) := List.drop_eq_getElem_cons hi
  have hg : ts.getD i (endTok en) = ts[i] := by rw [List.getD_eq_getElem?_getD, List.getElem?_eq_getElem hi]; rfl
  rw [hg] at hs
  rw [h.eq, hd, form_some hs]
  simp only [List.append_assoc, List.singleton_append]
theorem FReach.stuck {ts : List Tok} {i : Nat} {st : FSt} {of : List Int} {en : Int} (h : FReach ts i st of) (hs : fstep st (ts.getD i (endTok en)) = none) : fform fs0 ts = (of, st) := by
  rw [h.eq]
  rcases Nat.lt_or_ge i ts.length with hi | hi
  · have hd : ts.drop i = ts[i] :: ts.drop (i + 1) := List.drop_eq_getElem_cons hi
    have hg : ts.getD i (endTok en) = ts[i] := by rw [List.getD_eq_getElem?_getD, List.getElem?_eq_getElem hi]; rfl
    rw [hg] at hs
    rw [hd, form_none hs]
    simp
  · rw [List.drop_eq_nil_of_le hi]
    simp [fform]
def fsel (ts : List Tok) (of : List Int) (j : Nat) : List Tok := ((ts.zip of).filter fun p => decide (p.2 = (j : Int))).map (·.1)
theorem sel_next (ts : List Tok) (of : List Int) (x : Int) (j : Nat) (en : Int) (h : of.length < ts.length) : fsel ts (of ++ [x]) j = fsel ts of j ++ (if x = j then [ts.getD of.length (endTok en)] else []) := by
  have hg : ts.getD of.length (endTok en) = ts[of.length] := by rw [List.getD_eq_getElem?_getD, List.getElem?_eq_getElem h]; rfl
  have hz : ts.zip (of ++ [x]) = ts.zip of ++ [(ts[of.length], x)] := by
    apply List.ext_getElem?
    intro i
    rw [List.getElem?_append]
    have hl : (ts.zip of).length = of.length := by rw [List.length_zip]; omega
    rw [hl]
    simp only [List.zip, List.getElem?_zipWith, List.getElem?_append]
    by_cases c : i < of.length
    · rw [if_pos c, if_pos c]
    · rw [if_neg c, if_neg c]
      by_cases c2 : i = of.length
      · subst c2
        simp [h]
      · have : i - of.length ≠ 0 := by omega
        obtain ⟨k, hk⟩ := Nat.exists_eq_succ_of_ne_zero this
        rw [hk]
        simp
  unfold fsel
  rw [hz, List.filter_append, List.map_append, hg]
  congr 1
  by_cases c : x = (j : Int)
  · rw [if_pos c]; simp [c]
  · rw [if_neg c]; simp [c]
abbrev Flt := Int × Int
def decl (most : Nat) : List ByteArray → List Tok → Except Flt (List ByteArray)
  | acc, [] => .ok acc
  | acc, t :: ts => if t.s ∈ acc then .error (5, t.at_) else if most ≤ acc.length then .error (1, t.at_) else decl most (acc ++ [t.s]) ts
def rowF (names : List ByteArray) : List Int → List Tok → Except Flt (List Int)
  | acc, [] => .ok acc
  | acc, t :: ts => if ixS t.s names < 0 then .error (4, t.at_) else if ixS t.s names ∈ acc then .error (5, t.at_) else rowF names (acc ++ [ixS t.s names]) ts
def arrF (S E : List ByteArray) : List Arr → List Tok → Except Flt (List Arr)
  | acc, a :: b :: c :: ts => if ixS a.s S < 0 then .error (4, a.at_) else if ixS b.s E < 0 then .error (4, b.at_) else if ixS c.s S < 0 then .error (4, c.at_)
      else if (⟨ixS a.s S, ixS b.s E, ixS c.s S⟩ : Arr) ∈ acc then .error (5, a.at_) else arrF S E (acc ++ [⟨ixS a.s S, ixS b.s E, ixS c.s S⟩]) ts
  | acc, _ => .ok acc
/-- What the names of the parts come to: part by part. -/
def namesS (N : Nat → List Tok) : Except Flt Pj :=
  match decl 6 [] (N 0) with
  | .error f => .error f
  | .ok S => match decl 8 [] (N 1) with
    | .error f => .error f
    | .ok E => match rowF E [] (N 2) with
      | .error f => .error f
      | .ok r2 => match rowF E [] (N 3) with
        | .error f => .error f
        | .ok r3 => match rowF E [] (N 4) with
          | .error f => .error f
          | .ok r4 => match rowF S [] (N 5) with
            | .error f => .error f
            | .ok r5 => match rowF S [] (N 6) with
              | .error f => .error f
              | .ok r6 => match rowF S [] (N 7) with
                | .error f => .error f
                | .ok r7 => match arrF S E [] (N 8) with
                  | .error f => .error f
                  | .ok A => .ok ⟨S, E, ⟨S.length, E.length, sortedL r6, sortA A, sortedL r7⟩, sortedL r2, sortedL r3, sortedL r4, sortedL r5⟩
/-- What a text is read as. -/
def parseS (l : List UInt8) : Except Flt Pj :=
  if 4000 < l.length then .error (1, 0)
  else match (toks 0 l).2 with
    | some f => .error f
    | none =>
      if (fform fs0 (toks 0 l).1).1.length = (toks 0 l).1.length ∧ (fform fs0 (toks 0 l).1).2.part = 9 then namesS fun j => fsel (toks 0 l).1 (fform fs0 (toks 0 l).1).1 j
      else .error (2, ((toks 0 l).1.getD (fform fs0 (toks 0 l).1).1.length (endTok l.length)).at_)
structure RS where
  S : List ByteArray
  E : List ByteArray
  rows : List (List Int)
  arrows : List Arr
  three : List Int
  first : Int
def refC : RS → List (Tok × Int) → Except Flt RS
  | s, [] => .ok s
  | s, (t, k) :: l =>
    if k < 0 then refC s l
    else if k < 2 then
      if k = 0 then
        if t.s ∈ s.S then .error (5, t.at_) else if 6 ≤ s.S.length then .error (1, t.at_) else refC { s with S := s.S ++ [t.s] } l
      else
        if t.s ∈ s.E then .error (5, t.at_) else if 8 ≤ s.E.length then .error (1, t.at_) else refC { s with E := s.E ++ [t.s] } l
    else if k < 8 then
      if ixS t.s (if k < 5 then s.E else s.S) < 0 then .error (4, t.at_)
      else if ixS t.s (if k < 5 then s.E else s.S) ∈ s.rows.getD k.toNat [] then .error (5, t.at_)
      else refC { s with rows := s.rows.set k.toNat (s.rows.getD k.toNat [] ++ [ixS t.s (if k < 5 then s.E else s.S)]) } l
    else
      if ixS t.s (if s.three.length = 1 then s.E else s.S) < 0 then .error (4, t.at_)
      else match s.three with
        | [] => refC { s with three := [ixS t.s s.S], first := t.at_ } l
        | [a] => refC { s with three := [a, ixS t.s s.E] } l
        | a :: b :: _ => if (⟨a, b, ixS t.s s.S⟩ : Arr) ∈ s.arrows then .error (5, s.first) else refC { s with arrows := s.arrows ++ [⟨a, b, ixS t.s s.S⟩], three := [] } l
def RS.out (s : RS) : Pj := ⟨s.S, s.E, ⟨s.S.length, s.E.length, sortedL (s.rows.getD 6 []), sortA s.arrows, sortedL (s.rows.getD 7 [])⟩, sortedL (s.rows.getD 2 []), sortedL (s.rows.getD 3 []), sortedL (s.rows.getD 4 []), sortedL (s.rows.getD 5 [])⟩
def rs0 : RS := ⟨[], [], [[], [], [], [], [], [], [], [], []], [], [], 0⟩
def tg (k : Nat) (ts : List Tok) : List (Tok × Int) := ts.map fun t => (t, (k : Int))
theorem refC_skip : ∀ (l : List (Tok × Int)) (s : RS), refC s l = refC s (l.filter fun p => decide (0 ≤ p.2))
  | [], _ => rfl
  | (t, k) :: l, s => by
    by_cases h : k < 0
    · rw [List.filter_cons_of_neg (by simpa using h), ← refC_skip l s]
      rw [refC, if_pos h]
    · rw [List.filter_cons_of_pos (by simpa using h)]
      simp only [refC]
      simp only [← refC_skip l]
theorem refC_0 (l : List (Tok × Int)) : ∀ (ts : List Tok) (s : RS), refC s (tg 0 ts ++ l) = match decl 6 s.S ts with
    | .error f => .error f
    | .ok S => refC { s with S := S } l
  | [], _ => rfl
  | t :: ts, s => by
    show refC s ((t, ((0 : Nat) : Int)) :: (tg 0 ts ++ l)) = _
    rw [refC, if_neg (by decide), if_pos (by decide), if_pos (by decide), decl]
    by_cases h1 : t.s ∈ s.S
    · rw [if_pos h1, if_pos h1]
    · rw [if_neg h1, if_neg h1]
      by_cases h2 : 6 ≤ s.S.length
      · rw [if_pos h2, if_pos h2]
      · rw [if_neg h2, if_neg h2, refC_0 l ts]
theorem refC_1 (l : List (Tok × Int)) : ∀ (ts : List Tok) (s : RS), refC s (tg 1 ts ++ l) = match decl 8 s.E ts with
    | .error f => .error f
    | .ok E => refC { s with E := E } l
  | [], _ => rfl
  | t :: ts, s => by
    show refC s ((t, ((1 : Nat) : Int)) :: (tg 1 ts ++ l)) = _
    rw [refC, if_neg (by decide), if_pos (by decide), if_neg (by decide), decl]
    by_cases h1 : t.s ∈ s.E
    · rw [if_pos h1, if_pos h1]
    · rw [if_neg h1, if_neg h1]
      by_cases h2 : 8 ≤ s.E.length
      · rw [if_pos h2, if_pos h2]
      · rw [if_neg h2, if_neg h2, refC_1 l ts]
theorem refC_k (k : Nat) (h1 : 2 ≤ k) (h2 : k < 8) (l : List (Tok × Int)) : ∀ (ts : List Tok) (s : RS), k < s.rows.length → refC s (tg k ts ++ l) = match rowF (if k < 5 then s.E else s.S) (s.rows.getD k []) ts with
    | .error f => .error f
    | .ok r => refC { s with rows := s.rows.set k r } l
  | [], s, hk => by
    show refC s l = refC { s with rows := s.rows.set k (s.rows.getD k []) } l
    have : s.rows.set k (s.rows.getD k []) = s.rows := by
      apply List.ext_getElem?
      intro i
      rw [List.getElem?_set]
      by_cases c : k = i
      · subst c; rw [if_pos rfl, if_pos hk, List.getD_eq_getElem?_getD, List.getElem?_eq_getElem hk]; rfl
      · rw [if_neg c]
    rw [this]
  | t :: ts, s, hk => by
    show refC s ((t, (k : Int)) :: (tg k ts ++ l)) = _
    have e5 : ((k : Int) < 5) = (k < 5) := propext (by omega)
    rw [refC, if_neg (by omega), if_neg (by omega), if_pos (by omega), rowF]
    simp only [e5, Int.toNat_natCast]
    generalize hn : ixS t.s (if k < 5 then s.E else s.S) = n
    by_cases h1 : n < 0
    · rw [if_pos h1, if_pos h1]
    · rw [if_neg h1, if_neg h1]
      by_cases h2 : n ∈ s.rows.getD k []
      · rw [if_pos h2, if_pos h2]
      · rw [if_neg h2, if_neg h2, refC_k k ‹_› ‹_› l ts _ (by rw [List.length_set]; exact hk)]
        have hg : ∀ r, (s.rows.set k r).getD k [] = r := fun r => by rw [List.getD_eq_getElem?_getD, List.getElem?_set, if_pos rfl, if_pos hk]; rfl
        simp only [hg, List.set_set]
theorem refC_8 (l : List (Tok × Int)) : ∀ (ts : List Tok) (s : RS), s.three = [] → ts.length % 3 = 0 → ∃ q, refC s (tg 8 ts ++ l) = match arrF s.S s.E s.arrows ts with
    | .error f => .error f
    | .ok a => refC { s with arrows := a, first := q } l
  | [], s, _, _ => ⟨s.first, rfl⟩
  | [_], _, _, h => by simp at h
  | [_, _], _, _, h => by simp at h
  | a :: b :: c :: ts, s, h3, hl => by
    have e : ∀ q, refC s (tg 8 (a :: b :: c :: ts) ++ l) = q ↔ refC s ((a, ((8 : Nat) : Int)) :: (b, ((8 : Nat) : Int)) :: (c, ((8 : Nat) : Int)) :: (tg 8 ts ++ l)) = q := fun q => Iff.rfl
    simp only [e]
    clear e
    rw [arrF, refC, if_neg (by decide), if_neg (by decide), if_neg (by decide)]
    simp only [h3, List.length_nil]
    rw [if_neg (show ¬ (0 = 1) by decide)]
    by_cases h1 : ixS a.s s.S < 0
    · rw [if_pos h1, if_pos h1]; exact ⟨0, rfl⟩
    rw [if_neg h1, if_neg h1, refC, if_neg (by decide), if_neg (by decide), if_neg (by decide)]
    simp only [List.length_singleton]
    rw [if_pos trivial]
    by_cases h2 : ixS b.s s.E < 0
    · rw [if_pos h2, if_pos h2]; exact ⟨0, rfl⟩
    rw [if_neg h2, if_neg h2, refC, if_neg (by decide), if_neg (by decide), if_neg (by decide)]
    simp only [List.length_cons, List.length_nil]
    rw [if_neg (show ¬ (0 + 1 + 1 = 1) by decide)]
    by_cases h4 : ixS c.s s.S < 0
    · rw [if_pos h4, if_pos h4]; exact ⟨0, rfl⟩
    rw [if_neg h4, if_neg h4]
    by_cases h5 : (⟨ixS a.s s.S, ixS b.s s.E, ixS c.s s.S⟩ : Arr) ∈ s.arrows
    · rw [if_pos h5, if_pos h5]; exact ⟨0, rfl⟩
    rw [if_neg h5, if_neg h5]
    obtain ⟨q, hq⟩ := refC_8 l ts { s with arrows := s.arrows ++ [⟨ixS a.s s.S, ixS b.s s.E, ixS c.s s.S⟩], three := [], first := a.at_ } rfl (by simp only [List.length_cons] at hl; omega)
    refine ⟨q, ?_⟩
    rw [hq]
structure FSt.Ok (st : FSt) : Prop where
  le : st.part ≤ 9
  lt : st.next ≠ .p → st.part ≤ 8
  mz : st.part = 8 → (st.next = .m ∨ st.next = .z) → st.names % 3 = 0
theorem fs0_ok : fs0.Ok := ⟨by decide, fun h => absurd rfl h, fun h => by cases h⟩
def fcnt (st : FSt) : Nat := if st.part = 8 ∧ st.next ≠ .p then st.names else 0
structure StepOk (st st' : FSt) (i : Int) : Prop where
  ok : st'.Ok
  le : st.part ≤ st'.part
  tag : i = -1 ∨ (i = st.part ∧ st'.part = st.part ∧ st.part ≤ 8)
  fcnt : ((if i = 8 then 1 else 0) + fcnt st) % 3 = fcnt st' % 3
theorem an_ok {st st' : FSt} {i : Int} (h : st.Ok) (hp : st.next ≠ .p) (ha : afterName st = some (st', i)) : StepOk st st' i := by
  have h8 := h.lt hp
  unfold afterName at ha
  injection ha with ha
  injection ha with h1 h2
  subst h1 h2
  refine ⟨⟨h.le, fun _ => h8, fun e hm => ?_⟩, Nat.le_refl _, .inr ⟨rfl, rfl, h8⟩, ?_⟩
  · simp only at e hm ⊢
    rw [if_pos e] at hm
    by_cases c : 0 < (st.names + 1) % 3
    · rw [if_pos c] at hm; rcases hm with hm | hm <;> cases hm
    · omega
  · unfold Go.Proofs.YtpinjiikiaakaaaDoor.fcnt
    by_cases e : st.part = 8
    · have : (if st.part = 8 then (if 0 < (st.names + 1) % 3 then Nx.n else .z) else .m) ≠ .p := by
        rw [if_pos e]; split <;> simp
      rw [if_pos (by omega), if_pos ⟨e, hp⟩, if_pos ⟨e, this⟩, Nat.add_comm]
    · rw [if_neg (by omega), if_neg (fun c => e c.1), if_neg (fun c => e c.1)]
theorem sm_ok {st st' : FSt} {i : Int} (h : st.Ok) (hp : st.next ≠ .p) (hm : st.part = 8 → st.names % 3 = 0) (ha : some ((⟨st.part + 1, st.names, .p⟩ : FSt), (-1 : Int)) = some (st', i)) : StepOk st st' i := by
  have h8 := h.lt hp
  injection ha with ha
  injection ha with h1 h2
  subst h1 h2
  refine ⟨⟨by simp only; omega, fun e => absurd rfl e, fun _ e => by rcases e with e | e <;> cases e⟩, Nat.le_succ _, .inl rfl, ?_⟩
  unfold Go.Proofs.YtpinjiikiaakaaaDoor.fcnt
  by_cases e : st.part = 8
  · rw [if_neg (by decide), if_pos ⟨e, hp⟩]; have := hm e; simp only [ne_eq, not_true_eq_false, and_false, ↓reduceIte]; omega
  · rw [if_neg (by decide), if_neg (fun c => e c.1)]; simp
theorem step_ok {st st' : FSt} {t : Tok} {i : Int} (h : st.Ok) (hs : fstep st t = some (st', i)) : StepOk st st' i := by
  have hq := h.mz
  have hl := h.lt
  unfold fstep at hs
  cases hn : st.next with
  | p =>
    simp only [hn] at hs
    split at hs
    · rename_i hc
      injection hs with hs
      injection hs with h1 h2
      subst h1 h2
      refine ⟨⟨h.le, fun _ => by simp only; omega, fun _ _ => rfl⟩, Nat.le_refl _, .inl rfl, ?_⟩
      unfold Go.Proofs.YtpinjiikiaakaaaDoor.fcnt
      rw [if_neg (by decide), if_neg (fun c => c.2 hn)]
      simp
    · cases hs
  | n =>
    simp only [hn] at hs
    split at hs
    · exact an_ok h (by rw [hn]; simp) hs
    · cases hs
  | m =>
    simp only [hn] at hs
    split at hs
    · exact an_ok h (by rw [hn]; simp) hs
    · split at hs
      · exact sm_ok h (by rw [hn]; simp) (fun e => hq e (.inl hn)) hs
      · cases hs
  | z =>
    have hp : st.next ≠ .p := by rw [hn]; simp
    simp only [hn] at hs
    split at hs
    · exact sm_ok h hp (fun e => hq e (.inr hn)) hs
    · split at hs
      · injection hs with hs
        injection hs with h1 h2
        subst h1 h2
        refine ⟨⟨h.le, fun _ => hl hp, fun _ e => by rcases e with e | e <;> cases e⟩, Nat.le_refl _, .inl rfl, ?_⟩
        unfold Go.Proofs.YtpinjiikiaakaaaDoor.fcnt
        by_cases e : st.part = 8
        · rw [if_neg (by decide), if_pos ⟨e, hp⟩, if_pos ⟨e, by simp⟩, Nat.zero_add]
        · rw [if_neg (by decide), if_neg (fun c => e c.1), if_neg (fun c => e c.1)]
      · cases hs
/-- The tagged tokens, in order. -/
def tagd (ts : List Tok) (of : List Int) : List (Tok × Int) := (ts.zip of).filter fun p => decide (0 ≤ p.2)
theorem form_ok : ∀ (ts : List Tok) (st : FSt), st.Ok → (fform st ts).2.Ok ∧ st.part ≤ (fform st ts).2.part ∧
    (∀ p ∈ tagd ts (fform st ts).1, (st.part : Int) ≤ p.2 ∧ p.2 ≤ 8) ∧ (tagd ts (fform st ts).1).Pairwise (fun p q => p.2 ≤ q.2) ∧
    (((tagd ts (fform st ts).1).filter fun p => decide (p.2 = 8)).length + fcnt st) % 3 = fcnt (fform st ts).2 % 3
  | [], st, h => by
    have e : tagd [] (fform st []).1 = [] := rfl
    rw [e]
    exact ⟨h, Nat.le_refl _, (fun p hp => by cases hp), List.Pairwise.nil, by simp [fform]⟩
  | t :: ts, st, h => by
    cases hs : fstep st t with
    | none =>
      rw [form_none hs]
      have e : tagd (t :: ts) [] = [] := rfl
      simp only [e]
      exact ⟨h, Nat.le_refl _, (fun p hp => by cases hp), List.Pairwise.nil, by simp⟩
    | some q =>
      obtain ⟨st', i⟩ := q
      rw [form_some hs]
      have so := step_ok h hs
      obtain ⟨i1, i2, i3, i4, i5⟩ := form_ok ts st' so.ok
      have le := so.le
      have sc := so.fcnt
      refine ⟨i1, Nat.le_trans le i2, ?_⟩
      rcases so.tag with hi | ⟨hi, hp, h8⟩
      · have e : tagd (t :: ts) (i :: (fform st' ts).1) = tagd ts (fform st' ts).1 := by
          unfold tagd
          rw [List.zip_cons_cons, List.filter_cons_of_neg (by simp [hi])]
        simp only [e]
        rw [if_neg (by omega)] at sc
        exact ⟨fun p hp => ⟨by have := (i3 p hp).1; omega, (i3 p hp).2⟩, i4, by omega⟩
      · have e : tagd (t :: ts) (i :: (fform st' ts).1) = (t, i) :: tagd ts (fform st' ts).1 := by
          unfold tagd
          rw [List.zip_cons_cons, List.filter_cons_of_pos (by simp; omega)]
        simp only [e]
        refine ⟨fun p hp' => ?_, List.Pairwise.cons (fun p hp' => by have := (i3 p hp').1; simp only; omega) i4, ?_⟩
        · rcases List.mem_cons.1 hp' with rfl | hp'
          · simp only; omega
          · have := i3 p hp'; omega
        · by_cases c : i = 8
          · rw [if_pos c] at sc
            rw [List.filter_cons_of_pos (by simpa using c), List.length_cons]; omega
          · rw [if_neg c] at sc
            rw [List.filter_cons_of_neg (by simpa using c)]; omega
theorem split_tags : ∀ (n k : Nat) (F : List (Tok × Int)), (∀ p ∈ F, (k : Int) ≤ p.2 ∧ p.2 < (k + n : Nat)) → F.Pairwise (fun p q => p.2 ≤ q.2) →
    F = (List.range' k n).flatMap fun (j : Nat) => F.filter fun p => decide (p.2 = (j : Int))
  | 0, k, F, h, _ => by
    cases F with
    | nil => rfl
    | cons p F => have := h p (List.mem_cons_self ..); omega
  | n + 1, k, F, h, hp => by
    have hs : F = (F.filter fun p => decide (p.2 = (k : Int))) ++ F.filter fun p => decide ((k : Int) < p.2) := by
      have h' : ∀ p ∈ F, (k : Int) ≤ p.2 := fun p hp => (h p hp).1
      clear h
      induction F with
      | nil => rfl
      | cons p F ih =>
        have h := h'
        have hp' := List.pairwise_cons.1 hp
        have hk := h p (List.mem_cons_self ..)
        by_cases c : p.2 = (k : Int)
        · rw [List.filter_cons_of_pos (by simpa using c), List.filter_cons_of_neg (by simp; omega), List.cons_append, ← ih hp'.2 (fun q hq => h q (List.mem_cons_of_mem _ hq))]
        · have hall : ∀ q ∈ F, (k : Int) < q.2 := fun q hq => by have := hp'.1 q hq; omega
          have e1 : (F.filter fun p => decide (p.2 = (k : Int))) = [] := List.filter_eq_nil_iff.2 fun q hq => by have := hall q hq; simp; omega
          have e2 : (F.filter fun p => decide ((k : Int) < p.2)) = F := List.filter_eq_self.2 fun q hq => by have := hall q hq; simpa using this
          rw [List.filter_cons_of_neg (by simpa using c), List.filter_cons_of_pos (by simp; omega), e1, e2]; rfl
    have ih := split_tags n (k + 1) (F.filter fun p => decide ((k : Int) < p.2)) (fun p hp' => by
      obtain ⟨h1, h2⟩ := List.mem_filter.1 hp'
      have := h p h1
      have := of_decide_eq_true h2
      omega) (hp.sublist List.filter_sublist)
    rw [List.range'_succ, List.flatMap_cons]
    conv => lhs; rw [hs]
    congr 1
    rw [ih]
    rw [List.flatMap_def, List.flatMap_def]
    congr 1
    apply List.map_congr_left
    intro j hj
    have hj' := List.mem_range'_1.1 hj
    rw [List.filter_filter]
    apply List.filter_congr
    intro p _
    by_cases c : p.2 = (j : Int)
    · simp [c]; omega
    · simp [c]
theorem sel_tg (ts : List Tok) (of : List Int) (j : Nat) : (tagd ts of).filter (fun p => decide (p.2 = (j : Int))) = tg j (fsel ts of j) := by
  unfold tagd fsel tg
  rw [List.filter_filter, List.map_map]
  have e : ((ts.zip of).filter fun p => decide (p.2 = (j : Int)) && decide (0 ≤ p.2)) = (ts.zip of).filter fun p => decide (p.2 = (j : Int)) := by
    apply List.filter_congr
    intro p _
    by_cases c : p.2 = (j : Int)
    · simp [c]
    · simp [c]
  rw [e]
  generalize ts.zip of = l
  induction l with
  | nil => rfl
  | cons p l ih =>
    by_cases c : p.2 = (j : Int)
    · rw [List.filter_cons_of_pos (by simpa using c), List.map_cons, ← ih]
      cases p
      simp only at c
      subst c
      rfl
    · rw [List.filter_cons_of_neg (by simpa using c)]; exact ih
theorem tagd_eq (ts : List Tok) : tagd ts (fform fs0 ts).1 = tg 0 (fsel ts (fform fs0 ts).1 0) ++ (tg 1 (fsel ts (fform fs0 ts).1 1) ++ (tg 2 (fsel ts (fform fs0 ts).1 2) ++ (tg 3 (fsel ts (fform fs0 ts).1 3) ++ (tg 4 (fsel ts (fform fs0 ts).1 4) ++
    (tg 5 (fsel ts (fform fs0 ts).1 5) ++ (tg 6 (fsel ts (fform fs0 ts).1 6) ++ (tg 7 (fsel ts (fform fs0 ts).1 7) ++ (tg 8 (fsel ts (fform fs0 ts).1 8) ++ [])))))))) := by
  obtain ⟨_, _, h3, h4, _⟩ := form_ok ts fs0 fs0_ok
  have h := split_tags 9 0 (tagd ts (fform fs0 ts).1) (fun p hp => by have := h3 p hp; simp only [fs0] at this; omega) h4
  rw [h]
  simp only [sel_tg]
  rfl
theorem sel8_mod (ts : List Tok) (h : (fform fs0 ts).2.part = 9) : (fsel ts (fform fs0 ts).1 8).length % 3 = 0 := by
  obtain ⟨_, _, _, _, h5⟩ := form_ok ts fs0 fs0_ok
  have e := sel_tg ts (fform fs0 ts).1 8
  have e2 : fcnt (fform fs0 ts).2 = 0 := by unfold fcnt; rw [if_neg (by omega)]
  have e3 : fcnt fs0 = 0 := rfl
  rw [e2, e3] at h5
  have e4 : ((tagd ts (fform fs0 ts).1).filter fun p => decide (p.2 = 8)).length = (fsel ts (fform fs0 ts).1 8).length := by
    have := congrArg List.length e
    rw [show (tg 8 (fsel ts (fform fs0 ts).1 8)).length = (fsel ts (fform fs0 ts).1 8).length by simp [tg]] at this
    exact this
  omega
/-- Token by token comes to the same as part by part. -/
theorem refC_names (ts : List Tok) (h : (fform fs0 ts).2.part = 9) : (match refC rs0 (ts.zip (fform fs0 ts).1) with | .error f => Except.error f | .ok s => .ok s.out) = namesS fun j => fsel ts (fform fs0 ts).1 j := by
  have h8 := sel8_mod ts h
  rw [refC_skip]
  rw [show ((ts.zip (fform fs0 ts).1).filter fun p => decide (0 ≤ p.2)) = tagd ts (fform fs0 ts).1 from rfl, tagd_eq]
  generalize fsel ts (fform fs0 ts).1 = N at *
  unfold namesS
  rw [refC_0]
  cases e0 : decl 6 rs0.S (N 0) with
  | error f => rw [show rs0.S = [] from rfl] at e0; simp only [e0]
  | ok S =>
  rw [show rs0.S = [] from rfl] at e0
  simp only [e0]
  rw [refC_1]
  cases e1 : decl 8 rs0.E (N 1) with
  | error f => rw [show rs0.E = [] from rfl] at e1; simp only [e1]
  | ok E =>
  rw [show rs0.E = [] from rfl] at e1
  simp only [e1]
  rw [refC_k 2 (by decide) (by decide) _ _ _ (by simp only [rs0, List.length_cons, List.length_nil]; decide)]
  simp only [rs0, List.getD_cons_succ, List.getD_cons_zero, List.set_cons_succ, List.set_cons_zero]
  rw [if_pos (by decide)]
  cases e2 : rowF E [] (N 2) with
  | error f => rfl
  | ok r2 =>
  simp only
  rw [refC_k 3 (by decide) (by decide) _ _ _ (by simp only [List.length_cons, List.length_nil]; decide)]
  simp only [List.getD_cons_succ, List.getD_cons_zero, List.set_cons_succ, List.set_cons_zero]
  rw [if_pos (by decide)]
  cases e3 : rowF E [] (N 3) with
  | error f => rfl
  | ok r3 =>
  simp only
  rw [refC_k 4 (by decide) (by decide) _ _ _ (by simp only [List.length_cons, List.length_nil]; decide)]
  simp only [List.getD_cons_succ, List.getD_cons_zero, List.set_cons_succ, List.set_cons_zero]
  rw [if_pos (by decide)]
  cases e4 : rowF E [] (N 4) with
  | error f => rfl
  | ok r4 =>
  simp only
  rw [refC_k 5 (by decide) (by decide) _ _ _ (by simp only [List.length_cons, List.length_nil]; decide)]
  simp only [List.getD_cons_succ, List.getD_cons_zero, List.set_cons_succ, List.set_cons_zero]
  rw [if_neg (by decide)]
  cases e5 : rowF S [] (N 5) with
  | error f => rfl
  | ok r5 =>
  simp only
  rw [refC_k 6 (by decide) (by decide) _ _ _ (by simp only [List.length_cons, List.length_nil]; decide)]
  simp only [List.getD_cons_succ, List.getD_cons_zero, List.set_cons_succ, List.set_cons_zero]
  rw [if_neg (by decide)]
  cases e6 : rowF S [] (N 6) with
  | error f => rfl
  | ok r6 =>
  simp only
  rw [refC_k 7 (by decide) (by decide) _ _ _ (by simp only [List.length_cons, List.length_nil]; decide)]
  simp only [List.getD_cons_succ, List.getD_cons_zero, List.set_cons_succ, List.set_cons_zero]
  rw [if_neg (by decide)]
  cases e7 : rowF S [] (N 7) with
  | error f => rfl
  | ok r7 =>
  simp only
  obtain ⟨q, hq⟩ := refC_8 [] (N 8) (RS.mk S E [[], [], r2, r3, r4, r5, r6, r7, []] [] [] 0) rfl h8
  rw [hq]
  simp only
  cases e8 : arrF S E [] (N 8) with
  | error f => rfl
  | ok A => rfl
end Go.Proofs.YtpinjiikiaakaaaDoor

/-
  What lies in blocks that hold elements of some types, or that lay there at first, is kept while rows of other types grow. No program in sight.
-/
namespace Go.Proofs.YtpinjiikiaakaaaDoor
set_option linter.unusedSimpArgs false
set_option linter.unusedVariables false
set_option linter.unusedSectionVars false
open Go.RowKit

def TyB (es : List Nat) (B : Nat) (w : World) (b : Nat) : Prop := b < w.heap.size ∧ (b < B ∨ ∃ e, e ∈ es ∧ ∃ cs r, w.heap[b]? = some (.cells cs e r))
structure KeepT (es : List Nat) (B : Nat) (w w' : World) : Prop where
  size : w.heap.size ≤ w'.heap.size
  at_ : ∀ b, TyB es B w b → w'.heap[b]? = w.heap[b]?
section
variable {es : List Nat} {B : Nat} {w w' : World} {A : Option Addr}
theorem TyB.lt {b : Nat} (h : TyB es B w b) : b < w.heap.size := h.1
theorem KeepT.tyb (k : KeepT es B w w') {b : Nat} (h : TyB es B w b) : TyB es B w' b := by
  refine ⟨Nat.lt_of_lt_of_le h.1 k.size, ?_⟩
  rcases h.2 with h2 | ⟨e, he, cs, r, h3⟩
  · exact .inl h2
  · exact .inr ⟨e, he, cs, r, by rw [k.at_ b h]; exact h3⟩
theorem KeepT.refl (w : World) : KeepT es B w w := ⟨Nat.le_refl _, fun _ _ => rfl⟩
theorem KeepT.trans {w2 : World} (h : KeepT es B w w') (k : KeepT es B w' w2) : KeepT es B w w2 := ⟨Nat.le_trans h.size k.size, fun b hb => (k.at_ b (h.tyb hb)).trans (h.at_ b hb)⟩
theorem KeepT.below (h : Below w.heap.size w w') : KeepT es B w w' := ⟨h.size, fun b hb => h.block b hb.1⟩
theorem KeepT.same (h : Same w w') : KeepT es B w w' := .below (h.below _)
theorem KeepT.grew {B' e' sz c n : Nat} {xs : List Value} (ho : Own B' e' sz w A c n xs) (hB : B ≤ B') (hne : e' ∉ es) (hg : Grew w w' A) : KeepT es B w w' :=
  ⟨hg.by_.size, fun b hb => hg.by_.block b hb.1 (by
    rcases ho.own.2 with ⟨h0, _⟩ | ⟨g, cap, cur, hv, hB', hh, _⟩
    · injection h0 with h0; subst h0; simp
    · injection hv with hv
      subst hv
      simp only [Option.map_some, ne_eq, Option.some.injEq]
      rintro rfl
      rcases hb.2 with h1 | ⟨e, he, cs, r, h1⟩
      · omega
      · rw [h1] at hh
        injection hh with hh
        injection hh with _ ht
        exact hne (ht ▸ he))⟩
theorem KeepT.grewB {g i t : Nat} {cs : List Value} (hk : Blk w g t cs) (hB : B ≤ g) (hne : t ∉ es) (hg : Grew w w' (some ⟨g, i, none⟩)) : KeepT es B w w' :=
  ⟨hg.by_.size, fun b hb => hg.by_.block b hb.1 (by
    simp only [Option.map_some, ne_eq, Option.some.injEq]
    rintro rfl
    rcases hb.2 with h1 | ⟨e, he, cs, r, h1⟩
    · omega
    · unfold Blk at hk
      rw [h1] at hk
      injection hk with hh
      injection hh with _ ht
      exact hne (ht ▸ he))⟩
theorem RowT.tyb {e : Nat} {l : List Int} (h : RowT B e w A l) (he : e ∈ es) : Ints (TyB es B w) w A l := h.ints.mono fun _ hb => ⟨hb.1, hb.2.imp id fun ⟨cs, r, hh⟩ => ⟨e, he, cs, r, hh⟩⟩
theorem Own.tyb {B' e sz c n : Nat} {xs : List Value} (h : Own B' e sz w A c n xs) (he : e ∈ es) {b : Nat} (hb : A.map (·.block) = some b) : TyB es B w b := by
  refine ⟨h.ltB hb.symm, .inr ⟨e, he, ?_⟩⟩
  rcases h.own.2 with ⟨h0, _⟩ | ⟨g, cap, cur, hv, hB', hh, _⟩
  · injection h0 with h0; subst h0; cases hb
  · injection hv with hv
    subst hv
    injection hb with hb
    simp only at hb
    subst hb
    exact ⟨_, _, hh⟩
theorem OwnI.tyb {B' e c : Nat} {l : List Int} (h : OwnI B' e w A c l) (he : e ∈ es) : Ints (TyB es B w) w A l := (OwnI.ints h).mono fun _ hb => Own.tyb h he hb.2
theorem OwnR.tyb {α : Type} {enc : α → List Value} {B' e sz c : Nat} {l : List α} (h : OwnR enc B' e sz w A c l) (E : Enc enc sz) (hs : 0 < sz) (he : e ∈ es) : Recs enc sz (TyB es B w) w A l := (OwnR.recs h E hs).mono fun _ hb => Own.tyb h he hb.2
/-- One of two rows of the same kind grows. -/
theorem Own.far {B1 e sz c n B2 e2 sz2 c2 n2 : Nat} {A2 A2' : Option Addr} {xs ys : List Value} (h : Own B1 e sz w A c n xs) (_ : Own B2 e2 sz2 w A2 c2 n2 ys) (hne : A = none ∨ A.map (·.block) ≠ A2.map (·.block))
    (hA : A2'.map (·.block) = A2.map (·.block) ∨ ∃ g, A2'.map (·.block) = some g ∧ w.heap.size ≤ g) : A = none ∨ A.map (·.block) ≠ A2'.map (·.block) := by
  rcases hne with hne | hne
  · exact .inl hne
  · rcases hA with hA | ⟨g, hg, hz⟩
    · exact .inr (by rw [hA]; exact hne)
    · cases A with
      | none => exact .inl rfl
      | some a =>
        refine .inr fun e => ?_
        rw [hg] at e
        have := h.ltB (b := g) e.symm
        omega
end
end Go.Proofs.YtpinjiikiaakaaaDoor

/-
  The words of a project's text as they are written: all, write: by their contracts.
-/
namespace Go.Proofs.YtpinjiikiaakaaaDoor
set_option linter.unusedSimpArgs false
set_option linter.unusedVariables false
set_option linter.unusedSectionVars false
open Go.RowKit

/-- The words so far, in their variable. -/
structure WMem (g : Nat) (w : World) (W : List ByteArray) (A : Option Addr) (c : Nat) : Prop where
  k : Blk w g 22 [.slice A W.length c]
  o : OwnR strE g 9 1 w A c W
theorem WMem.ld {K : Fr → World → Prop} {u w : World} {f : Fr} {d : Option Nat} {g c : Nat} {W : List ByteArray} {A : Option Addr} (h : WMem g u W A c) : Val1 Tryd.prog K (Instr.loadAt 22 (.pointer (some ⟨g, 0, none⟩))) u f d w = K (updO f d (.slice A W.length c)) w := h.k.ld ty_ag_22 0 (by simp)
theorem WMem.below {w w' : World} {g c : Nat} {W : List ByteArray} {A : Option Addr} (h : WMem g w W A c) (b : Below w.heap.size w w') : WMem g w' W A c := ⟨h.k.below b h.k.lt, h.o.below b (Nat.le_refl _)⟩
/-- One more word, appended and stored. -/
theorem WMem.put {w w1 w2 : World} {g c c' : Nat} {W : List ByteArray} {A A' : Option Addr} {x : ByteArray} (h : WMem g w W A c) (o' : OwnR strE g 9 1 w1 A' c' (W ++ [x])) (g1 : Grew w w1 A) (k2 : Blk w2 g 22 [.slice A' (W.length + 1) c']) (g2 : Grew w1 w2 (some ⟨g, 0, none⟩)) :
    WMem g w2 (W ++ [x]) A' c' ∧ Below g w w2 ∧ KeepT [3] g w w2 := by
  have hk1 : Blk w1 g 22 [.slice A W.length c] := h.k.grown g1.by_ (h.o.ne_blk h.k (by decide)).symm
  refine ⟨⟨by rw [List.length_append]; exact k2, o'.grew g2 (.inr (o'.ne_blk hk1 (by decide)))⟩, ?_, ?_⟩
  · exact g2.below (g1.below (Below.refl _ _) (Nat.le_of_lt h.k.lt) h.o.geB) (Nat.le_of_lt hk1.lt) (by intro a ha; injection ha with ha; subst ha; exact Nat.le_refl _)
  · exact (KeepT.grew h.o (Nat.le_refl _) (by decide) g1).trans (KeepT.grewB hk1 (Nat.le_refl _) (by decide) g2)
end Go.Proofs.YtpinjiikiaakaaaDoor

/-
  strings.Join, by the library's contract.
-/
namespace Go.Proofs.YtpinjiikiaakaaaDoor
set_option linter.unusedSimpArgs false
set_option linter.unusedVariables false
set_option linter.unusedSectionVars false
open Go.Shelf Go.RowKit
section
variable {P : Program} {K : Fr → World → Prop} {f : Fr} {d : Option Nat} {w : World} {A : Option Addr} {l : List ByteArray} {B e bytes t ty c : Nat}
end
end Go.Proofs.YtpinjiikiaakaaaDoor

/-
  The program's text of a project: by its contract.
-/
namespace Go.Proofs.YtpinjiikiaakaaaDoor
set_option linter.unusedSimpArgs false
set_option linter.unusedVariables false
set_option linter.unusedSectionVars false
open Go.RowKit

theorem WMem.putL {w w1 w2 : World} {g c c' : Nat} {W X : List ByteArray} {A A' : Option Addr} (h : WMem g w W A c) (o' : OwnR strE g 9 1 w1 A' c' (W ++ X)) (g1 : Grew w w1 A) (k2 : Blk w2 g 22 [.slice A' (W.length + X.length) c']) (g2 : Grew w1 w2 (some ⟨g, 0, none⟩)) :
    WMem g w2 (W ++ X) A' c' ∧ Below g w w2 := by
  have hk1 : Blk w1 g 22 [.slice A W.length c] := h.k.grown g1.by_ (h.o.ne_blk h.k (by decide)).symm
  refine ⟨⟨by rw [List.length_append]; exact k2, o'.grew g2 (.inr (o'.ne_blk hk1 (by decide)))⟩, ?_⟩
  exact g2.below (g1.below (Below.refl _ _) (Nat.le_of_lt h.k.lt) h.o.geB) (Nat.le_of_lt hk1.lt) (by intro a ha; injection ha with ha; subst ha; exact Nat.le_refl _)
end Go.Proofs.YtpinjiikiaakaaaDoor

/-
  The text of a project is read as that project. No program in sight.
-/
namespace Go.Proofs.YtpinjiikiaakaaaDoor
set_option linter.unusedSimpArgs false
set_option linter.unusedVariables false
set_option linter.unusedSectionVars false
open Go.RowKit

def kd (s : ByteArray) : Int := if s = semi ∨ s = comma then 3 else 1
/-- Tokens that are these words. -/
def TW (ts : List Tok) (W : List ByteArray) : Prop := ts.map (·.s) = W ∧ ∀ t ∈ ts, t.k = kd t.s
theorem TW.nil : TW [] [] := ⟨rfl, fun _ h => by cases h⟩
theorem TW.cons {ts : List Tok} {W : List ByteArray} {t : Tok} (h : TW ts W) (hk : t.k = kd t.s) : TW (t :: ts) (t.s :: W) :=
  ⟨by rw [List.map_cons, h.1], fun u hu => by
    rcases List.mem_cons.1 hu with rfl | hu
    · exact hk
    · exact h.2 u hu⟩
theorem TW.split {ts : List Tok} {W X : List ByteArray} (h : TW ts (W ++ X)) : ∃ a b, ts = a ++ b ∧ TW a W ∧ TW b X := by
  refine ⟨ts.take W.length, ts.drop W.length, (List.take_append_drop _ _).symm, ⟨?_, fun t ht => h.2 t (List.mem_of_mem_take ht)⟩, ⟨?_, fun t ht => h.2 t (List.mem_of_mem_drop ht)⟩⟩
  · rw [List.map_take, h.1]; simp
  · rw [List.map_drop, h.1]; simp
/-- What the fform tells of a piece of tokens, between two states. -/
def Fm (st : FSt) (ts : List Tok) (of : List Int) (st' : FSt) : Prop := ∀ rest, fform st (ts ++ rest) = (of ++ (fform st' rest).1, (fform st' rest).2)
theorem Fm.nil (st : FSt) : Fm st [] [] st := fun _ => rfl
theorem Fm.one {st st' : FSt} {t : Tok} {i : Int} (h : fstep st t = some (st', i)) : Fm st [t] [i] st' := fun rest => by
  rw [List.singleton_append, form_some h]; rfl
theorem Fm.app {s1 s2 s3 : FSt} {a b : List Tok} {u v : List Int} (h1 : Fm s1 a u s2) (h2 : Fm s2 b v s3) : Fm s1 (a ++ b) (u ++ v) s3 := fun rest => by
  rw [List.append_assoc, h1, h2, List.append_assoc]
theorem NamesOk.nodup {l : List ByteArray} (h : NamesOk l) : l.Nodup := by
  refine List.pairwise_iff_getElem.2 fun i j hi hj hij he => ?_
  have hjs : l[j]? = some l[j] := List.getElem?_eq_getElem hj
  refine (h j _ hjs).2 (List.mem_of_getElem? (i := i) ?_)
  rw [List.getElem?_take, if_pos hij, List.getElem?_eq_getElem hi, he]
theorem NamesOk.all {l : List ByteArray} (h : NamesOk l) : ∀ s ∈ l, Named s := fun s hs => by
  obtain ⟨i, hi⟩ := List.mem_iff_getElem?.1 hs
  exact (h i s hi).1
end Go.Proofs.YtpinjiikiaakaaaDoor

/-
  must: a fault is thrown unless something is so: by its contract.
-/
namespace Go.Proofs.YtpinjiikiaakaaaDoor
set_option linter.unusedSimpArgs false
set_option linter.unusedVariables false
set_option linter.unusedSectionVars false
open Go.RowKit

/-- The fault that is thrown. -/
def badV (code at_ : Int) : Value := .iface 41 (.agg #[.int .i64 code, .int .i64 at_])
theorem mkif {P : Program} {K : Fr → World → Prop} {u w : World} {f : Fr} {d : Option Nat} {t : TypeId} {fs : Array Field} (ht : P.underlying t = some (.struct fs)) (v : Value) : Val1 P K (Instr.makeInterface t v) u f d w = K (updO f d (.iface t v)) w :=
  val1_of u f d w fun w' _ => by simp [Instr.makeInterface, run_underlying ht]
theorem bl_flt {K : Fr → World → Prop} {u : World} {f : Fr} {d : Option Nat} {w : World} (a b : Int) : Val1 Tryd.prog K (Instr.build 31 #[(0, .int .i64 a), (1, .int .i64 b)]) u f d w = K (updO f d (.agg #[.int .i64 a, .int .i64 b])) w := bld_of (by kernel_rfl)
theorem bl_bad {K : Fr → World → Prop} {u : World} {f : Fr} {d : Option Nat} {w : World} (a b : Int) : Val1 Tryd.prog K (Instr.build 41 #[(0, .agg #[.int .i64 a, .int .i64 b])]) u f d w = K (updO f d (.agg #[.int .i64 a, .int .i64 b])) w := bld_of (by kernel_rfl)
theorem text_must (is : Bool) (code at_ : Int) (w : World) :
    Cal2 Tryd.prog 11 [.bool is, .int .i64 code, .int .i64 at_] w (fun v w' => v = .tuple #[] ∧ is = true ∧ Same w w') (fun ch w' => ch = [{ v := badV code at_, recovered := false }] ∧ is = false ∧ Same w w') := by
  refine cal2_text_must (by simp) 1000 fun Q Qp hQ hP => ?_
  cases is with
  | true =>
    simp (disch := first | with_reducible assumption | omega) only [push_cast, x_blk, x_cd, ↓reduceIte, Nat.reduceEqDiff, List.map_cons, List.map_nil, Int.reduceEq, Int.lt_irrefl, F_text_must]
    exact fin_0 (hQ _ _ ⟨rfl, rfl, Same.refl _⟩)
  | false =>
    simp (disch := first | with_reducible assumption | omega) only [push_cast, x_blk, x_cd, ↓reduceIte, Nat.reduceEqDiff, List.map_cons, List.map_nil, Int.reduceEq, Int.lt_irrefl, F_text_must, bl_flt, bl_bad, mkif Tryd.underlying41]
    exact ⟨⟨_, _, rfl⟩, hP _ _ ⟨rfl, rfl, Same.refl _⟩⟩
end Go.Proofs.YtpinjiikiaakaaaDoor

/-
  The tokens of a text: the program's and the reference's: by their contracts.
-/
namespace Go.Proofs.YtpinjiikiaakaaaDoor
set_option linter.unusedSimpArgs false
set_option linter.unusedVariables false
set_option linter.unusedSectionVars false
open Go.RowKit

theorem slice_str {P : Program} {K : Fr → World → Prop} {u : World} {f : Fr} {d : Option Nat} {w : World} {t : TypeId} (ht : P.underlying t = some .string) (s : ByteArray) (a b : Nat) (hab : a ≤ b) (hb : b ≤ s.size) :
    Val1 P K (Instr.sliceAt t (.string s) (some (.int .i64 a)) (some (.int .i64 b)) none) u f d w = K (updO f d (.string (s.extract a b))) w :=
  val1_of u f d w fun w' _ => by
    have h1 : (0 : Int) ≤ (a : Int) ∧ (a : Int) ≤ (b : Int) := by omega
    have h2 : (0 : Int) ≤ (b : Int) ∧ (b : Int) ≤ (s.size : Int) := by omega
    simp [Instr.sliceAt, run_underlying ht, Instr.slice, Instr.sliceBounds, Instr.sliceBound, asIntOf, h1, h2, hab, hb]
theorem slice_str1 {P : Program} {K : Fr → World → Prop} {u : World} {f : Fr} {d : Option Nat} {w : World} {t : TypeId} (ht : P.underlying t = some .string) (s : ByteArray) (a : Nat) (hb : a < s.size) :
    Val1 P K (Instr.sliceAt t (.string s) (some (.int .i64 a)) (some (.int .i64 ((a : Int) + 1))) none) u f d w = K (updO f d (.string (s.extract a (a + 1)))) w :=
  slice_str ht s a (a + 1) (by omega) hb
theorem ext_list (s : ByteArray) (a b : Nat) : s.extract a b = ⟨((s.data.toList.drop a).take (b - a)).toArray⟩ := by
  refine ba_inj ?_
  rw [ByteArray.data_extract]
  simp [Array.toList_extract, List.extract_eq_take_drop]
theorem bl_tok {K : Fr → World → Prop} {u : World} {f : Fr} {d : Option Nat} {w : World} (k : Int) (s : ByteArray) (a : Int) : Val1 Tryd.prog K (Instr.build 53 #[(0, .int .i64 k), (1, .string s), (2, .int .i64 a)]) u f d w = K (updO f d (.agg (Tok.cells ⟨k, s, a⟩).toArray)) w :=
  bld_3 (z := [.int .i64 0, .string ⟨#[]⟩, .int .i64 0]) (o0 := 0) (s0 := 1) (o1 := 1) (s1 := 1) (o2 := 2) (s2 := 1) (by kernel_rfl) rfl rfl rfl rfl rfl rfl rfl
theorem bl_flt0 {K : Fr → World → Prop} {u : World} {f : Fr} {d : Option Nat} {w : World} : Val1 Tryd.prog K (Instr.build 31 #[]) u f d w = K (updO f d (.agg #[.int .i64 0, .int .i64 0])) w := bld_of (by kernel_rfl)
theorem fin_tc {P : Program} {Rc : Value → World → Prop} {a t t' g s : Nat} {cs : List Value} {f : Fr} {w : World} (hk : Blk w g t' cs) (ht : tyAgg P t = some true) (hs : tySize P t = some cs.length)
    (hf : f a = .pointer (some ⟨g, 0, none⟩)) (h : Rc (.tuple #[f s, .agg cs.toArray]) w) : FinX P #[.tmp s, .cell a t] Rc f w := by
  refine ⟨_, fun fn tmps hr hf' => ?_, h⟩
  have e : tmps.getD a undef = .pointer (some ⟨g, 0, none⟩) := by rw [hf', hf]
  have e2 : tmps[a]?.getD undef = .pointer (some ⟨g, 0, none⟩) := by simpa using e
  have e3 : tmps[s]?.getD undef = f s := by simpa using hf' s
  unfold tyAgg at ht
  unfold tySize at hs
  cases hu : P.underlying t with
  | none => simp [hu] at ht
  | some de =>
    cases hi : P.info? t with
    | none => simp [hi] at hs
    | some ie =>
      simp only [hi, Option.map_some, Option.some.injEq] at hs
      simp only [hu, Option.map_some, Option.some.injEq] at ht
      have hl := run_loadCells_list (P := P) w ⟨g, 0, none⟩ cs (fun j v hv => by rw [addr_add, Nat.zero_add, hk.cell, hv])
      cases de <;> simp at ht <;> simp [results, hr, e2, e3, asAddr, loadVar, isAgg, run_underlying hu, sizeOf, typeInfo, hi, hs, hl]
abbrev blv (s : ByteArray) (i : Nat) : UInt8 := s.data.toList.getD i 0
theorem drop_cons {s : ByteArray} {i : Nat} (h : i < s.size) : s.data.toList.drop i = blv s i :: s.data.toList.drop (i + 1) := by
  rw [size_list] at h
  rw [List.drop_eq_getElem_cons h]
  unfold blv
  rw [List.getD_eq_getElem?_getD, List.getElem?_eq_getElem h]; rfl
theorem toks_at {s : ByteArray} {i : Nat} (h : i < s.size) (a : Nat) : toks a (s.data.toList.drop i) =
    if isBlank (byt s i) then toks (a + 1) (s.data.toList.drop (i + 1))
    else if isSign (byt s i) then (⟨3, ⟨#[blv s i]⟩, a⟩ :: (toks (a + 1) (s.data.toList.drop (i + 1))).1, (toks (a + 1) (s.data.toList.drop (i + 1))).2)
    else if ¬ IsLet (byt s i) then ([], some (2, (a : Int)))
    else if 16 < wordN (s.data.toList.drop (i + 1)) + 1 then ([], some (1, (a : Int)))
    else (⟨1, ⟨(blv s i :: (s.data.toList.drop (i + 1)).take (wordN (s.data.toList.drop (i + 1)))).toArray⟩, a⟩ :: (toks (a + 1 + wordN (s.data.toList.drop (i + 1))) ((s.data.toList.drop (i + 1)).drop (wordN (s.data.toList.drop (i + 1))))).1, (toks (a + 1 + wordN (s.data.toList.drop (i + 1))) ((s.data.toList.drop (i + 1)).drop (wordN (s.data.toList.drop (i + 1))))).2) := by
  rw [drop_cons h, toks_cons]; rfl
theorem sub_one {s : ByteArray} {i : Nat} (h : i < s.size) : s.extract i (i + 1) = ⟨#[blv s i]⟩ := by
  rw [ext_list, drop_cons h, show i + 1 - i = 1 by omega]; rfl
theorem sub_word {s : ByteArray} {i n : Nat} (h : i < s.size) : s.extract i (i + 1 + n) = ⟨(blv s i :: (s.data.toList.drop (i + 1)).take n).toArray⟩ := by
  rw [ext_list, drop_cons h, show i + 1 + n - i = n + 1 by omega, List.take_succ_cons]
theorem word_at {s : ByteArray} {i t : Nat} (h0 : i + 1 ≤ t) (h : t ≤ s.size) (h1 : ∀ j, i + 1 ≤ j → j < t → IsIn (byt s j)) (h2 : t < s.size → ¬ IsIn (byt s t)) : wordN (s.data.toList.drop (i + 1)) = t - (i + 1) := by
  rw [size_list] at h h2
  have hg : ∀ j, (s.data.toList.drop (i + 1)).getD j 0 = s.data.toList.getD (i + 1 + j) 0 := fun j => by
    rw [List.getD_eq_getElem?_getD, List.getD_eq_getElem?_getD, List.getElem?_drop]
  refine wordN_at _ _ (by rw [List.length_drop]; omega) (fun j hj => ?_) fun hn => ?_
  · rw [hg]; exact h1 (i + 1 + j) (by omega) (by omega)
  · rw [hg, show i + 1 + (t - (i + 1)) = t by omega]; exact h2 (by rw [List.length_drop] at hn; omega)
/-- What is found of the tokens, a place on. -/
def TkInv (s : ByteArray) (i : Nat) (acc : List Tok) : Prop := toks 0 s.data.toList = (acc ++ (toks i (s.data.toList.drop i)).1, (toks i (s.data.toList.drop i)).2) ∧ acc.length ≤ i
theorem TkInv.zero (s : ByteArray) : TkInv s 0 [] := ⟨rfl, Nat.le_refl _⟩
theorem TkInv.blank {s : ByteArray} {i : Nat} {acc : List Tok} (h : TkInv s i acc) (hi : i < s.size) (hb : isBlank (byt s i)) : TkInv s (i + 1) acc := by
  refine ⟨?_, by have := h.2; omega⟩
  have h1 := h.1
  rw [toks_at hi, if_pos hb] at h1
  exact h1
theorem TkInv.sign {s : ByteArray} {i : Nat} {acc : List Tok} (h : TkInv s i acc) (hi : i < s.size) (hb : ¬ isBlank (byt s i)) (hg : isSign (byt s i)) : TkInv s (i + 1) (acc ++ [⟨3, s.extract i (i + 1), i⟩]) := by
  refine ⟨?_, by rw [List.length_append]; have := h.2; simp; omega⟩
  have h1 := h.1
  rw [toks_at hi, if_neg hb, if_pos hg] at h1
  rw [h1, sub_one hi]
  simp only [List.append_assoc, List.singleton_append]
theorem TkInv.bad {s : ByteArray} {i : Nat} {acc : List Tok} (h : TkInv s i acc) (hi : i < s.size) (hb : ¬ isBlank (byt s i)) (hg : ¬ isSign (byt s i)) (hl : ¬ IsLet (byt s i)) : (toks 0 s.data.toList).2 = some (2, (i : Int)) := by
  have h1 := h.1
  rw [toks_at hi, if_neg hb, if_neg hg, if_pos hl] at h1
  rw [h1]
theorem TkInv.long {s : ByteArray} {i t : Nat} {acc : List Tok} (h : TkInv s i acc) (hi : i < s.size) (hb : ¬ isBlank (byt s i)) (hg : ¬ isSign (byt s i)) (hl : IsLet (byt s i)) (h0 : i + 1 ≤ t) (hn : wordN (s.data.toList.drop (i + 1)) = t - (i + 1)) (h16 : i + 16 < t) : (toks 0 s.data.toList).2 = some (1, (i : Int)) := by
  have h1 := h.1
  rw [toks_at hi, if_neg hb, if_neg hg, if_neg (fun c => c hl), hn, if_pos (by omega)] at h1
  rw [h1]
theorem TkInv.word {s : ByteArray} {i t : Nat} {acc : List Tok} (h : TkInv s i acc) (hi : i < s.size) (hb : ¬ isBlank (byt s i)) (hg : ¬ isSign (byt s i)) (hl : IsLet (byt s i)) (h0 : i + 1 ≤ t) (hn : wordN (s.data.toList.drop (i + 1)) = t - (i + 1)) (h16 : ¬ i + 16 < t) : TkInv s t (acc ++ [⟨1, s.extract i t, i⟩]) := by
  refine ⟨?_, by rw [List.length_append]; have := h.2; simp; omega⟩
  have h1 := h.1
  rw [toks_at hi, if_neg hb, if_neg hg, if_neg (fun c => c hl), hn, if_neg (by omega), List.drop_drop, show i + 1 + (t - (i + 1)) = t by omega] at h1
  rw [h1]
  have := sub_word (n := t - (i + 1)) hi
  rw [show i + 1 + (t - (i + 1)) = t by omega] at this
  rw [this]
  simp only [List.append_assoc, List.singleton_append]
theorem TkInv.done {s : ByteArray} {acc : List Tok} (h : TkInv s s.size acc) : toks 0 s.data.toList = (acc, none) := by
  have h1 := h.1
  rw [List.drop_eq_nil_of_le (by rw [size_list]; exact Nat.le_refl _), toks_nil, List.append_nil] at h1
  exact h1
set_option maxHeartbeats 1000000 in
theorem text_scan (s : ByteArray) (hs : s.size ≤ 4000) (w : World) :
    Cal2 Tryd.prog 12 [.string s] w
      (fun v w' => (∃ A c, v = .slice A (toks 0 s.data.toList).1.length c ∧ OwnR Tok.cells w.heap.size 53 3 w' A c (toks 0 s.data.toList).1) ∧ (toks 0 s.data.toList).2 = none ∧ Below w.heap.size w w')
      (fun ch w' => ∃ c a, (toks 0 s.data.toList).2 = some (c, a) ∧ ch = [{ v := badV c a, recovered := false }] ∧ Below w.heap.size w w') := by
  refine cal2_text_scan (by simp) 100000 fun Q Qp hQ hP => ?_
  simp (disch := first | with_reducible assumption | omega) only [push_cast, x_blk, x_cd, ↓reduceIte, Nat.reduceEqDiff, List.map_cons, List.map_nil, Int.reduceEq, Int.lt_irrefl, F_text_scan]
  refine loop_rule (fun f w' => ∃ (i : Nat) (acc : List Tok) (A : Option Addr) (c : Nat), i ≤ s.size ∧ (f 0 = .string s ∧ f 3 = .slice A acc.length c ∧ f 4 = .int .i64 i) ∧ TkInv s i acc ∧ OwnR Tok.cells w.heap.size 53 3 w' A c acc ∧ Below w.heap.size w w')
    (fun f _ => s.size - (intOf (f 4)).toNat) ⟨0, [], none, 0, Nat.zero_le _, ⟨rfl, rfl, rfl⟩, TkInv.zero s, Own.nil _ _ _ _, Below.refl _ _⟩ ?_
  rintro f w1 ⟨i, acc, A, c, hi, fr, hT, o1, b1⟩ J hJ
  have hmu : (intOf (f 4)).toNat = i := by rw [fr.2.2]; simp [intOf]
  have hal := hT.2
  by_cases hlt : i < s.size
  case neg =>
    obtain rfl : i = s.size := by omega
    have hd := hT.done
    simp (disch := first | with_reducible assumption | omega) only [push_cast, x_blk, x_cd, ↓reduceIte, Nat.reduceEqDiff, List.map_cons, List.map_nil, Int.reduceEq, Int.lt_irrefl, L_text_scan_1, fr, Nat.lt_irrefl]
    refine fin_1 (hQ _ _ ⟨⟨A, c, by rw [hd]; simp only [push_cast, ↓reduceIte, Nat.reduceEqDiff], by rw [hd]; exact o1⟩, by rw [hd], b1⟩)
  have hT1 := fun hb => hT.blank hlt hb
  have hT2 := fun hb hg => hT.sign hlt hb hg
  have hT3 := fun hb hg hl => hT.bad hlt hb hg hl
  have hT4 := fun t hb hg hl h0 hn h16 => TkInv.long (t := t) hT hlt hb hg hl h0 hn h16
  have hT5 := fun t hb hg hl h0 hn h16 => TkInv.word (t := t) hT hlt hb hg hl h0 hn h16
  have hcx : ∃ x : Int, x = byt s i := ⟨_, rfl⟩
  obtain ⟨x, hx⟩ := hcx
  have sx := fun {K : Fr → World → Prop} {u : World} {f : Fr} {d : Option Nat} {w : World} => ix_str' (K := K) (u := u) (f := f) (d := d) (w := w) s .i64 i hlt
  rw [← hx] at hT1 hT2 hT3 hT4 hT5
  simp only [← hx] at sx
  have hsl := fun {K : Fr → World → Prop} {u : World} {f : Fr} {d : Option Nat} {w : World} => slice_str1 (K := K) (u := u) (f := f) (d := d) (w := w) t_str s i hlt
  have hmuJ : ∀ {f' : Fr} {j : Nat}, i < j → f' 4 = .int .i64 j → s.size - (intOf (f' 4)).toNat < s.size - (intOf (f 4)).toNat := fun hj he => by rw [hmu, he]; simp only [intOf]; omega
  by_cases c1 : x = 32
  · have e1 := eq_true c1
    simp (disch := first | with_reducible assumption | omega) only [push_cast, x_blk, x_cd, ↓reduceIte, Nat.reduceEqDiff, List.map_cons, List.map_nil, Int.reduceEq, Int.lt_irrefl, L_text_scan_1, fr, hlt, sx, e1]
    exact hJ _ _ ⟨i + 1, acc, A, c, hlt, (by simp only [push_cast, ↓reduceIte, Nat.reduceEqDiff, true_and, and_true, and_self, eq_self, fr]), hT1 (.inl c1), o1, b1⟩ (hmuJ (j := i + 1) (by omega) (by simp only [push_cast, ↓reduceIte, Nat.reduceEqDiff]))
  by_cases c2 : x = 10
  · have e2 := eq_true c2
    simp (disch := first | with_reducible assumption | omega) only [push_cast, x_blk, x_cd, ↓reduceIte, Nat.reduceEqDiff, List.map_cons, List.map_nil, Int.reduceEq, Int.lt_irrefl, L_text_scan_1, fr, hlt, sx, c1, e2]
    exact hJ _ _ ⟨i + 1, acc, A, c, hlt, (by simp only [push_cast, ↓reduceIte, Nat.reduceEqDiff, true_and, and_true, and_self, eq_self, fr]), hT1 (.inr c2), o1, b1⟩ (hmuJ (j := i + 1) (by omega) (by simp only [push_cast, ↓reduceIte, Nat.reduceEqDiff]))
  have nb : ¬ isBlank x := by unfold isBlank; omega
  by_cases c3 : x = 59
  · have e3 := eq_true c3
    simp (disch := first | with_reducible assumption | omega) only [push_cast, x_blk, x_cd, ↓reduceIte, Nat.reduceEqDiff, List.map_cons, List.map_nil, Int.reduceEq, Int.lt_irrefl, L_text_scan_1, fr, hlt, sx, c1, c2, e3, hsl, bl_tok, bs_rec tokEnc slT_45 ⟨3, s.extract i (i + 1), i⟩ (by decide)]
    refine app_rec tokEnc slT_45 o1 ⟨3, s.extract i (i + 1), i⟩ (by omega) (by omega) b1.size ?_
    intro A' c' w2 o2 g2 _ _ z2
    simp (disch := first | with_reducible assumption | omega) only [push_cast, x_blk, x_cd, ↓reduceIte, Nat.reduceEqDiff, List.map_cons, List.map_nil, Int.reduceEq, Int.lt_irrefl, fr]
    exact hJ _ _ ⟨i + 1, _, A', c', hlt, (by simp only [push_cast, ↓reduceIte, Nat.reduceEqDiff, true_and, and_true, and_self, eq_self, fr, List.length_append, List.length_singleton]), hT2 nb (.inl c3), o2, g2.below b1 b1.size o1.geB⟩ (hmuJ (j := i + 1) (by omega) (by simp only [push_cast, ↓reduceIte, Nat.reduceEqDiff]))
  by_cases c4 : x = 44
  · have e4 := eq_true c4
    simp (disch := first | with_reducible assumption | omega) only [push_cast, x_blk, x_cd, ↓reduceIte, Nat.reduceEqDiff, List.map_cons, List.map_nil, Int.reduceEq, Int.lt_irrefl, L_text_scan_1, fr, hlt, sx, c1, c2, c3, e4, hsl, bl_tok, bs_rec tokEnc slT_45 ⟨3, s.extract i (i + 1), i⟩ (by decide)]
    refine app_rec tokEnc slT_45 o1 ⟨3, s.extract i (i + 1), i⟩ (by omega) (by omega) b1.size ?_
    intro A' c' w2 o2 g2 _ _ z2
    simp (disch := first | with_reducible assumption | omega) only [push_cast, x_blk, x_cd, ↓reduceIte, Nat.reduceEqDiff, List.map_cons, List.map_nil, Int.reduceEq, Int.lt_irrefl, fr]
    exact hJ _ _ ⟨i + 1, _, A', c', hlt, (by simp only [push_cast, ↓reduceIte, Nat.reduceEqDiff, true_and, and_true, and_self, eq_self, fr, List.length_append, List.length_singleton]), hT2 nb (.inr c4), o2, g2.below b1 b1.size o1.geB⟩ (hmuJ (j := i + 1) (by omega) (by simp only [push_cast, ↓reduceIte, Nat.reduceEqDiff]))
  have ng : ¬ isSign x := by unfold isSign; omega
  simp (disch := first | with_reducible assumption | omega) only [push_cast, x_blk, x_cd, ↓reduceIte, Nat.reduceEqDiff, List.map_cons, List.map_nil, Int.reduceEq, Int.lt_irrefl, L_text_scan_1, fr, hlt, sx, c1, c2, c3, c4]
  refine call_of (text_letter x w1) ?_
  rintro v w2 ⟨rfl, s2⟩
  simp (disch := first | with_reducible assumption | omega) only [push_cast, x_blk, x_cd, ↓reduceIte, Nat.reduceEqDiff, List.map_cons, List.map_nil, Int.reduceEq, Int.lt_irrefl, fr]
  refine call2_of (text_must (decide (IsLet x)) 2 i w2) ?_ ?_
  · rintro ch w3 ⟨hch, hl, s3⟩
    exact hP _ _ ⟨2, i, hT3 nb ng (of_decide_eq_false hl), hch, b1.trans ((s2.trans s3).below _)⟩
  rintro v w3 ⟨rfl, hl, s3⟩
  replace hl := of_decide_eq_true hl
  have s13 := s2.trans s3
  simp (disch := first | with_reducible assumption | omega) only [push_cast, x_cd, ↓reduceIte, Nat.reduceEqDiff, fr]
  refine cut (fun f' w' => ∃ t : Nat, (i + 1 ≤ t ∧ t ≤ s.size) ∧ (f' 0 = .string s ∧ f' 3 = .slice A acc.length c ∧ f' 4 = .int .i64 i ∧ f' 6 = .int .i64 t) ∧ wordN (s.data.toList.drop (i + 1)) = t - (i + 1) ∧ Same w1 w') 40000 40000 (by decide) ?_ ?_
  · intro E hE
    simp (disch := first | with_reducible assumption | omega) only [push_cast, x_blk, x_cd, ↓reduceIte, Nat.reduceEqDiff, List.map_cons, List.map_nil, Int.reduceEq, Int.lt_irrefl]
    refine loop_rule (fun f' w' => ∃ t : Nat, (i + 1 ≤ t ∧ t ≤ s.size) ∧ (f' 0 = .string s ∧ f' 3 = .slice A acc.length c ∧ f' 4 = .int .i64 i ∧ f' 6 = .int .i64 t) ∧ (∀ j, i + 1 ≤ j → j < t → IsIn (byt s j)) ∧ Same w1 w')
      (fun f' _ => s.size - (intOf (f' 6)).toNat) ⟨i + 1, ⟨Nat.le_refl _, by omega⟩, (by simp only [push_cast, ↓reduceIte, Nat.reduceEqDiff, true_and, and_true, and_self, eq_self, fr, fr]), fun j h1 h2 => absurd h1 (by omega), s13⟩ ?_
    clear fr hmu hmuJ
    rintro f w4 ⟨t, ⟨ht, hts⟩, fr, hin, s4⟩ J2 hJ2
    have hmu : (intOf (f 6)).toNat = t := by rw [fr.2.2.2]; simp [intOf]
    by_cases htl : t < s.size
    case neg =>
      obtain rfl : t = s.size := by omega
      simp (disch := first | with_reducible assumption | omega) only [push_cast, x_blk, x_cd, ↓reduceIte, Nat.reduceEqDiff, List.map_cons, List.map_nil, Int.reduceEq, Int.lt_irrefl, L_text_scan_0, fr, Nat.lt_irrefl]
      exact hE _ _ ⟨s.size, ⟨ht, hts⟩, (by simp only [push_cast, ↓reduceIte, Nat.reduceEqDiff, true_and, and_true, and_self, eq_self, fr]), word_at ht hts hin (fun h => absurd h (Nat.lt_irrefl _)), s4⟩
    simp (disch := first | with_reducible assumption | omega) only [push_cast, x_blk, x_cd, ↓reduceIte, Nat.reduceEqDiff, List.map_cons, List.map_nil, Int.reduceEq, Int.lt_irrefl, L_text_scan_0, fr, htl, ix_str' s .i64 t htl]
    refine call_of (text_part (byt s t) w4) ?_
    rintro v w5 ⟨rfl, s5⟩
    by_cases q : IsIn (byt s t)
    · simp (disch := first | with_reducible assumption | omega) only [push_cast, x_blk, x_cd, ↓reduceIte, Nat.reduceEqDiff, List.map_cons, List.map_nil, Int.reduceEq, Int.lt_irrefl, fr, decide_eq_true q]
      exact hJ2 _ _ ⟨t + 1, ⟨by omega, htl⟩, (by simp only [push_cast, ↓reduceIte, Nat.reduceEqDiff, true_and, and_true, and_self, eq_self, fr]), fun j h1 h2 => by
        by_cases e : j = t
        · subst e; exact q
        · exact hin j h1 (by omega), s4.trans s5⟩ (by rw [hmu]; simp only [push_cast, ↓reduceIte, Nat.reduceEqDiff, intOf, fr]; omega)
    · simp (disch := first | with_reducible assumption | omega) only [push_cast, x_blk, x_cd, ↓reduceIte, Nat.reduceEqDiff, List.map_cons, List.map_nil, Int.reduceEq, Int.lt_irrefl, fr, decide_eq_false q]
      exact hE _ _ ⟨t, ⟨ht, hts⟩, (by simp only [push_cast, ↓reduceIte, Nat.reduceEqDiff, true_and, and_true, and_self, eq_self, fr]), word_at ht hts hin (fun _ => q), s4.trans s5⟩
  · clear fr hmu
    rintro f w4 ⟨t, ⟨ht, hts⟩, fr, hw, s4⟩
    have hc16 : ((t : Int) - (i : Int) ≤ 16) = ¬ (i + 16 < t) := propext (by omega)
    have hst := fun {K : Fr → World → Prop} {u : World} {f : Fr} {d : Option Nat} {w : World} => slice_str (K := K) (u := u) (f := f) (d := d) (w := w) t_str s i t (by omega) hts
    simp (disch := first | with_reducible assumption | omega) only [push_cast, x_blk, x_cd, ↓reduceIte, Nat.reduceEqDiff, List.map_cons, List.map_nil, Int.reduceEq, Int.lt_irrefl, fr, hc16]
    refine call2_of (text_must (decide (¬ i + 16 < t)) 1 i w4) ?_ ?_
    · rintro ch w5 ⟨hch, h16, s5⟩
      exact hP _ _ ⟨1, i, hT4 t nb ng hl ht hw (Classical.not_not.1 (of_decide_eq_false h16)), hch, b1.trans ((s4.trans s5).below _)⟩
    rintro v w5 ⟨rfl, h16, s5⟩
    replace h16 := of_decide_eq_true h16
    have o5 := o1.same (s4.trans s5)
    have b5 := b1.trans ((s4.trans s5).below w.heap.size)
    simp (disch := first | with_reducible assumption | omega) only [push_cast, x_blk, x_cd, ↓reduceIte, Nat.reduceEqDiff, List.map_cons, List.map_nil, Int.reduceEq, Int.lt_irrefl, fr, hst, bl_tok, bs_rec tokEnc slT_45 ⟨1, s.extract i t, i⟩ (by decide)]
    refine app_rec tokEnc slT_45 o5 ⟨1, s.extract i t, i⟩ (by omega) (by omega) b5.size ?_
    intro A' c' w6 o6 g6 _ _ z6
    simp (disch := first | with_reducible assumption | omega) only [push_cast, x_blk, x_cd, ↓reduceIte, Nat.reduceEqDiff, List.map_cons, List.map_nil, Int.reduceEq, Int.lt_irrefl, fr]
    exact hJ _ _ ⟨t, _, A', c', hts, (by simp only [push_cast, ↓reduceIte, Nat.reduceEqDiff, true_and, and_true, and_self, eq_self, fr, List.length_append, List.length_singleton]), hT5 t nb ng hl ht hw h16, o6, g6.below b5 b5.size o5.geB⟩ (hmuJ (j := t) (by omega) (by simp only [push_cast, ↓reduceIte, Nat.reduceEqDiff, fr]))
theorem ix_strA {K : Fr → World → Prop} {u : World} {f : Fr} {d : Option Nat} {w : World} (s : ByteArray) (i n : Nat) (h : i + n < s.size) : Val1 Tryd.prog K (Instr.index 9 (.string s) (.int .i64 ((i : Int) + (n : Int)))) u f d w = K (updO f d (.int .u8 (byt s (i + n)))) w := ix_str' s .i64 (i + n) h
theorem slice_strA {P : Program} {K : Fr → World → Prop} {u : World} {f : Fr} {d : Option Nat} {w : World} {t : TypeId} (ht : P.underlying t = some .string) (s : ByteArray) (a n : Nat) (hb : a + n ≤ s.size) :
    Val1 P K (Instr.sliceAt t (.string s) (some (.int .i64 a)) (some (.int .i64 ((a : Int) + (n : Int)))) none) u f d w = K (updO f d (.string (s.extract a (a + n)))) w :=
  slice_str ht s a (a + n) (by omega) hb
/-- What the reference tells of the tokens. -/
structure TkRes (B : Nat) (s : ByteArray) (v : Value) (w' : World) : Prop where
  ok : (toks 0 s.data.toList).2 = none → ∃ A c, v = .tuple #[.slice A (toks 0 s.data.toList).1.length c, .agg #[.int .i64 0, .int .i64 0]] ∧ OwnR Tok.cells B 53 3 w' A c (toks 0 s.data.toList).1
  bad : ∀ c a, (toks 0 s.data.toList).2 = some (c, a) → v = .tuple #[.slice none 0 0, .agg #[.int .i64 c, .int .i64 a]]
set_option maxHeartbeats 1000000 in
theorem ref16_Tokens (s : ByteArray) (hs : s.size ≤ 4000) (w : World) :
    Cal Tryd.prog 18 [.string s] w fun v w' => TkRes w.heap.size s v w' ∧ Below w.heap.size w w' := by
  refine cal_ref16_Tokens (by simp) 100000 fun Q hQ => ?_
  simp (disch := first | with_reducible assumption | omega) only [push_cast, x_blk, x_cd, ↓reduceIte, Nat.reduceEqDiff, List.map_cons, List.map_nil, Int.reduceEq, Int.lt_irrefl, F_ref16_Tokens]
  refine blk_of (cs := [.int .i64 0, .int .i64 0]) al_31 ?_
  intro w0 k0 b0 z0
  simp (disch := first | with_reducible assumption | omega) only [push_cast, x_blk, x_cd, ↓reduceIte, Nat.reduceEqDiff, List.map_cons, List.map_nil, Int.reduceEq, Int.lt_irrefl]
  refine loop_rule (fun f w' => ∃ (i : Nat) (acc : List Tok) (A : Option Addr) (c : Nat), i ≤ s.size ∧ (f 0 = .string s ∧ f 3 = .pointer (some ⟨w.heap.size, 0, none⟩) ∧ f 4 = .slice A acc.length c ∧ f 5 = .int .i64 i) ∧ TkInv s i acc ∧ OwnR Tok.cells w.heap.size 53 3 w' A c acc ∧ Blk w' w.heap.size 31 [.int .i64 0, .int .i64 0] ∧ Below w.heap.size w w')
    (fun f _ => s.size - (intOf (f 5)).toNat) ⟨0, [], none, 0, Nat.zero_le _, ⟨rfl, rfl, rfl, rfl⟩, TkInv.zero s, Own.nil _ _ _ _, k0, b0⟩ ?_
  rintro f w1 ⟨i, acc, A, c, hi, fr, hT, o1, k1, b1⟩ J hJ
  have hmu : (intOf (f 5)).toNat = i := by rw [fr.2.2.2]; simp [intOf]
  have hal := hT.2
  by_cases hlt : i < s.size
  case neg =>
    obtain rfl : i = s.size := by omega
    have hd := hT.done
    simp (disch := first | with_reducible assumption | omega) only [push_cast, x_blk, x_cd, ↓reduceIte, Nat.reduceEqDiff, List.map_cons, List.map_nil, Int.reduceEq, Int.lt_irrefl, L_ref16_Tokens_1, fr, Nat.lt_irrefl, bl_flt0]
    refine sto_blk k1 (cs := [.int .i64 0, .int .i64 0]) ty_sz_31 rfl rfl ?_
    intro wA kA gA zA
    simp (disch := first | with_reducible assumption | omega) only [push_cast, x_blk, x_cd, ↓reduceIte, Nat.reduceEqDiff, List.map_cons, List.map_nil, Int.reduceEq, Int.lt_irrefl, fr]
    have oA := o1.grew gA (.inr (o1.ne_blk k1 (by decide)))
    refine fin_tc kA ty_ag_31 ty_sz_31 (by simp only [push_cast, ↓reduceIte, Nat.reduceEqDiff, Int.reduceEq, fr]) (hQ _ _ ⟨⟨fun _ => ⟨A, c, by rw [hd]; simp only [push_cast, ↓reduceIte, Nat.reduceEqDiff], by rw [hd]; exact oA⟩, fun c a h => by rw [hd] at h; cases h⟩, gA.below b1 b1.size (by intro a ha; injection ha with ha; subst ha; exact Nat.le_refl _)⟩)
  have hT1 := fun hb => hT.blank hlt hb
  have hT2 := fun hb hg => hT.sign hlt hb hg
  have hT3 := fun hb hg hl => hT.bad hlt hb hg hl
  have hT4 := fun t hb hg hl h0 hn h16 => TkInv.long (t := t) hT hlt hb hg hl h0 hn h16
  have hT5 := fun t hb hg hl h0 hn h16 => TkInv.word (t := t) hT hlt hb hg hl h0 hn h16
  have hcx : ∃ x : Int, x = byt s i := ⟨_, rfl⟩
  obtain ⟨x, hx⟩ := hcx
  have sx := fun {K : Fr → World → Prop} {u : World} {f : Fr} {d : Option Nat} {w : World} => ix_str' (K := K) (u := u) (f := f) (d := d) (w := w) s .i64 i hlt
  rw [← hx] at hT1 hT2 hT3 hT4 hT5
  simp only [← hx] at sx
  have hsl := fun {K : Fr → World → Prop} {u : World} {f : Fr} {d : Option Nat} {w : World} => slice_str1 (K := K) (u := u) (f := f) (d := d) (w := w) t_str s i hlt
  have hmuJ : ∀ {f' : Fr} {j : Nat}, i < j → f' 5 = .int .i64 j → s.size - (intOf (f' 5)).toNat < s.size - (intOf (f 5)).toNat := fun hj he => by rw [hmu, he]; simp only [intOf]; omega
  by_cases c1 : x = 32
  · have e1 := eq_true c1
    simp (disch := first | with_reducible assumption | omega) only [push_cast, x_blk, x_cd, ↓reduceIte, Nat.reduceEqDiff, List.map_cons, List.map_nil, Int.reduceEq, Int.lt_irrefl, L_ref16_Tokens_1, fr, hlt, sx, e1]
    exact hJ _ _ ⟨i + 1, acc, A, c, hlt, (by simp only [push_cast, ↓reduceIte, Nat.reduceEqDiff, true_and, and_true, and_self, eq_self, fr]), hT1 (.inl c1), o1, k1, b1⟩ (hmuJ (j := i + 1) (by omega) (by simp only [push_cast, ↓reduceIte, Nat.reduceEqDiff]))
  by_cases c2 : x = 10
  · have e2 := eq_true c2
    simp (disch := first | with_reducible assumption | omega) only [push_cast, x_blk, x_cd, ↓reduceIte, Nat.reduceEqDiff, List.map_cons, List.map_nil, Int.reduceEq, Int.lt_irrefl, L_ref16_Tokens_1, fr, hlt, sx, c1, e2]
    exact hJ _ _ ⟨i + 1, acc, A, c, hlt, (by simp only [push_cast, ↓reduceIte, Nat.reduceEqDiff, true_and, and_true, and_self, eq_self, fr]), hT1 (.inr c2), o1, k1, b1⟩ (hmuJ (j := i + 1) (by omega) (by simp only [push_cast, ↓reduceIte, Nat.reduceEqDiff]))
  have nb : ¬ isBlank x := by unfold isBlank; omega
  by_cases c3 : x = 59
  · have e3 := eq_true c3
    simp (disch := first | with_reducible assumption | omega) only [push_cast, x_blk, x_cd, ↓reduceIte, Nat.reduceEqDiff, List.map_cons, List.map_nil, Int.reduceEq, Int.lt_irrefl, L_ref16_Tokens_1, fr, hlt, sx, c1, c2, e3, hsl, bl_tok, bs_rec tokEnc slT_45 ⟨3, s.extract i (i + 1), i⟩ (by decide)]
    refine app_rec tokEnc slT_45 o1 ⟨3, s.extract i (i + 1), i⟩ (by omega) (by omega) b1.size ?_
    intro A' c' w2 o2 g2 _ _ z2
    have k2 := k1.grown g2.by_ (o1.ne_blk k1 (by decide)).symm
    simp (disch := first | with_reducible assumption | omega) only [push_cast, x_blk, x_cd, ↓reduceIte, Nat.reduceEqDiff, List.map_cons, List.map_nil, Int.reduceEq, Int.lt_irrefl, fr]
    exact hJ _ _ ⟨i + 1, _, A', c', hlt, (by simp only [push_cast, ↓reduceIte, Nat.reduceEqDiff, true_and, and_true, and_self, eq_self, fr, List.length_append, List.length_singleton]), hT2 nb (.inl c3), o2, k2, g2.below b1 b1.size o1.geB⟩ (hmuJ (j := i + 1) (by omega) (by simp only [push_cast, ↓reduceIte, Nat.reduceEqDiff, fr]))
  by_cases c4 : x = 44
  · have e4 := eq_true c4
    simp (disch := first | with_reducible assumption | omega) only [push_cast, x_blk, x_cd, ↓reduceIte, Nat.reduceEqDiff, List.map_cons, List.map_nil, Int.reduceEq, Int.lt_irrefl, L_ref16_Tokens_1, fr, hlt, sx, c1, c2, c3, e4, hsl, bl_tok, bs_rec tokEnc slT_45 ⟨3, s.extract i (i + 1), i⟩ (by decide)]
    refine app_rec tokEnc slT_45 o1 ⟨3, s.extract i (i + 1), i⟩ (by omega) (by omega) b1.size ?_
    intro A' c' w2 o2 g2 _ _ z2
    have k2 := k1.grown g2.by_ (o1.ne_blk k1 (by decide)).symm
    simp (disch := first | with_reducible assumption | omega) only [push_cast, x_blk, x_cd, ↓reduceIte, Nat.reduceEqDiff, List.map_cons, List.map_nil, Int.reduceEq, Int.lt_irrefl, fr]
    exact hJ _ _ ⟨i + 1, _, A', c', hlt, (by simp only [push_cast, ↓reduceIte, Nat.reduceEqDiff, true_and, and_true, and_self, eq_self, fr, List.length_append, List.length_singleton]), hT2 nb (.inr c4), o2, k2, g2.below b1 b1.size o1.geB⟩ (hmuJ (j := i + 1) (by omega) (by simp only [push_cast, ↓reduceIte, Nat.reduceEqDiff, fr]))
  have ng : ¬ isSign x := by unfold isSign; omega
  simp (disch := first | with_reducible assumption | omega) only [push_cast, x_blk, x_cd, ↓reduceIte, Nat.reduceEqDiff, List.map_cons, List.map_nil, Int.reduceEq, Int.lt_irrefl, L_ref16_Tokens_1, fr, hlt, sx, c1, c2, c3, c4]
  refine call_of (ref16_letter x w1) ?_
  rintro v w2 ⟨rfl, s2⟩
  have hbad : ∀ {w3 w4 : World} {a c : Int}, Below w.heap.size w w3 → Grew w3 w4 (some ⟨w.heap.size, 0, none⟩) → (toks 0 s.data.toList).2 = some (c, a) → ∀ {v}, v = .tuple #[.slice none 0 0, .agg #[.int .i64 c, .int .i64 a]] → TkRes w.heap.size s v w4 ∧ Below w.heap.size w w4 := by
    intro w3 w4 a c b3 g3 ht v hv
    exact ⟨⟨fun h => (by rw [h] at ht; cases ht), fun c' a' h => (by rw [ht] at h; injection h with h; injection h with h1 h2; subst h1 h2; exact hv)⟩, g3.below b3 b3.size (by intro a ha; injection ha with ha; subst ha; exact Nat.le_refl _)⟩
  by_cases hl : IsLet x
  case neg =>
    have k2 := k1.same s2
    simp (disch := first | with_reducible assumption | omega) only [push_cast, x_blk, x_cd, ↓reduceIte, Nat.reduceEqDiff, List.map_cons, List.map_nil, Int.reduceEq, Int.lt_irrefl, fr, decide_eq_false hl, bl_flt]
    refine sto_blk k2 (cs := [.int .i64 2, .int .i64 i]) ty_sz_31 rfl rfl ?_
    intro wA kA gA zA
    simp (disch := first | with_reducible assumption | omega) only [push_cast, x_blk, x_cd, ↓reduceIte, Nat.reduceEqDiff, List.map_cons, List.map_nil, Int.reduceEq, Int.lt_irrefl, fr]
    exact fin_tc kA ty_ag_31 ty_sz_31 (by simp only [push_cast, ↓reduceIte, Nat.reduceEqDiff, Int.reduceEq, fr]) (hQ _ _ (hbad (b1.trans (s2.below _)) gA (hT3 nb ng hl) (by simp only [push_cast, ↓reduceIte, Nat.reduceEqDiff])))
  simp (disch := first | with_reducible assumption | omega) only [push_cast, x_cd, ↓reduceIte, Nat.reduceEqDiff, fr, decide_eq_true hl]
  refine cut (fun f' w' => ∃ n : Nat, (1 ≤ n ∧ i + n ≤ s.size) ∧ (f' 0 = .string s ∧ f' 3 = .pointer (some ⟨w.heap.size, 0, none⟩) ∧ f' 4 = .slice A acc.length c ∧ f' 5 = .int .i64 i ∧ f' 7 = .int .i64 n) ∧ wordN (s.data.toList.drop (i + 1)) = i + n - (i + 1) ∧ Same w1 w') 40000 40000 (by decide) ?_ ?_
  · intro E hE
    simp (disch := first | with_reducible assumption | omega) only [push_cast, x_blk, x_cd, ↓reduceIte, Nat.reduceEqDiff, List.map_cons, List.map_nil, Int.reduceEq, Int.lt_irrefl]
    refine loop_rule (fun f' w' => ∃ n : Nat, (1 ≤ n ∧ i + n ≤ s.size) ∧ (f' 0 = .string s ∧ f' 3 = .pointer (some ⟨w.heap.size, 0, none⟩) ∧ f' 4 = .slice A acc.length c ∧ f' 5 = .int .i64 i ∧ f' 7 = .int .i64 n) ∧ (∀ j, i + 1 ≤ j → j < i + n → IsIn (byt s j)) ∧ Same w1 w')
      (fun f' _ => s.size - (intOf (f' 7)).toNat) ⟨1, ⟨Nat.le_refl _, by omega⟩, (by simp only [push_cast, ↓reduceIte, Nat.reduceEqDiff, true_and, and_true, and_self, eq_self, fr, fr, Int.zero_add]), fun j h1 h2 => absurd h1 (by omega), s2⟩ ?_
    clear fr hmu hmuJ
    rintro f w4 ⟨n, ⟨ht, hts⟩, fr, hin, s4⟩ J2 hJ2
    have hmu : (intOf (f 7)).toNat = n := by rw [fr.2.2.2.2]; simp [intOf]
    have hcmp : ((i : Int) + (n : Int) < (s.size : Int)) = (i + n < s.size) := propext (by omega)
    by_cases htl : i + n < s.size
    case neg =>
      simp (disch := first | with_reducible assumption | omega) only [push_cast, x_blk, x_cd, ↓reduceIte, Nat.reduceEqDiff, List.map_cons, List.map_nil, Int.reduceEq, Int.lt_irrefl, L_ref16_Tokens_0, fr, hcmp, htl]
      exact hE _ _ ⟨n, ⟨ht, hts⟩, (by simp only [push_cast, ↓reduceIte, Nat.reduceEqDiff, true_and, and_true, and_self, eq_self, fr]), word_at (by omega) hts hin (fun h => absurd h htl), s4⟩
    simp (disch := first | with_reducible assumption | omega) only [push_cast, x_blk, x_cd, ↓reduceIte, Nat.reduceEqDiff, List.map_cons, List.map_nil, Int.reduceEq, Int.lt_irrefl, L_ref16_Tokens_0, fr, hcmp, htl, ix_strA s i n htl]
    refine call_of (ref16_inside (byt s (i + n)) w4) ?_
    rintro v w5 ⟨rfl, s5⟩
    by_cases q : IsIn (byt s (i + n))
    · simp (disch := first | with_reducible assumption | omega) only [push_cast, x_blk, x_cd, ↓reduceIte, Nat.reduceEqDiff, List.map_cons, List.map_nil, Int.reduceEq, Int.lt_irrefl, fr, decide_eq_true q]
      exact hJ2 _ _ ⟨n + 1, ⟨by omega, by omega⟩, (by simp only [push_cast, ↓reduceIte, Nat.reduceEqDiff, true_and, and_true, and_self, eq_self, fr]), fun j h1 h2 => by
        by_cases e : j = i + n
        · subst e; exact q
        · exact hin j h1 (by omega), s4.trans s5⟩ (by rw [hmu]; simp only [push_cast, ↓reduceIte, Nat.reduceEqDiff, intOf, fr]; omega)
    · simp (disch := first | with_reducible assumption | omega) only [push_cast, x_blk, x_cd, ↓reduceIte, Nat.reduceEqDiff, List.map_cons, List.map_nil, Int.reduceEq, Int.lt_irrefl, fr, decide_eq_false q]
      exact hE _ _ ⟨n, ⟨ht, hts⟩, (by simp only [push_cast, ↓reduceIte, Nat.reduceEqDiff, true_and, and_true, and_self, eq_self, fr]), word_at (by omega) hts hin (fun _ => q), s4.trans s5⟩
  · clear fr hmu
    rintro f w4 ⟨n, ⟨ht, hts⟩, fr, hw, s4⟩
    have k4 := k1.same s4
    have o4 := o1.same s4
    have b4 := b1.trans (s4.below w.heap.size)
    by_cases h16 : (16 : Int) < (n : Int)
    · simp (disch := first | with_reducible assumption | omega) only [push_cast, x_blk, x_cd, ↓reduceIte, Nat.reduceEqDiff, List.map_cons, List.map_nil, Int.reduceEq, Int.lt_irrefl, fr, h16, bl_flt]
      refine sto_blk k4 (cs := [.int .i64 1, .int .i64 i]) ty_sz_31 rfl rfl ?_
      intro wA kA gA zA
      simp (disch := first | with_reducible assumption | omega) only [push_cast, x_blk, x_cd, ↓reduceIte, Nat.reduceEqDiff, List.map_cons, List.map_nil, Int.reduceEq, Int.lt_irrefl, fr]
      exact fin_tc kA ty_ag_31 ty_sz_31 (by simp only [push_cast, ↓reduceIte, Nat.reduceEqDiff, Int.reduceEq, fr]) (hQ _ _ (hbad b4 gA (hT4 (i + n) nb ng hl (by omega) hw (by omega)) (by simp only [push_cast, ↓reduceIte, Nat.reduceEqDiff])))
    simp (disch := first | with_reducible assumption | omega) only [push_cast, x_blk, x_cd, ↓reduceIte, Nat.reduceEqDiff, List.map_cons, List.map_nil, Int.reduceEq, Int.lt_irrefl, fr, h16, slice_strA t_str s i n hts, bl_tok, bs_rec tokEnc slT_45 ⟨1, s.extract i (i + n), i⟩ (by decide)]
    refine app_rec tokEnc slT_45 o4 ⟨1, s.extract i (i + n), i⟩ (by omega) (by omega) b4.size ?_
    intro A' c' w6 o6 g6 _ _ z6
    have k6 := k4.grown g6.by_ (o4.ne_blk k4 (by decide)).symm
    simp (disch := first | with_reducible assumption | omega) only [push_cast, x_blk, x_cd, ↓reduceIte, Nat.reduceEqDiff, List.map_cons, List.map_nil, Int.reduceEq, Int.lt_irrefl, fr]
    exact hJ _ _ ⟨i + n, _, A', c', hts, ⟨by simp only [push_cast, ↓reduceIte, Nat.reduceEqDiff, fr], by simp only [push_cast, ↓reduceIte, Nat.reduceEqDiff, fr], by simp only [push_cast, ↓reduceIte, Nat.reduceEqDiff, fr, List.length_append, List.length_singleton], by simp only [push_cast, ↓reduceIte, Nat.reduceEqDiff, fr, Int.sub_add_cancel]⟩, hT5 (i + n) nb ng hl (by omega) hw (by omega), o6, k6, g6.below b4 b4.size o4.geB⟩ (hmuJ (j := i + n) (by omega) (by simp only [push_cast, ↓reduceIte, Nat.reduceEqDiff, fr, Int.sub_add_cancel]))
end Go.Proofs.YtpinjiikiaakaaaDoor

/-
  The parser: peek, need, name, sign: by their contracts.
-/
namespace Go.Proofs.YtpinjiikiaakaaaDoor
set_option linter.unusedSimpArgs false
set_option linter.unusedVariables false
set_option linter.unusedSectionVars false
open Go.RowKit

/-- All blocks below B but one are kept. -/
structure But (B g : Nat) (w w' : World) : Prop where
  os : w'.os = w.os
  tape : w'.tape = w.tape
  output : w'.output = w.output
  size : w.heap.size ≤ w'.heap.size
  block : ∀ k, k < B → k ≠ g → w'.heap[k]? = w.heap[k]?
theorem But.refl (B g : Nat) (w : World) : But B g w w := ⟨rfl, rfl, rfl, Nat.le_refl _, fun _ _ _ => rfl⟩
theorem But.trans {B g : Nat} {w1 w2 w3 : World} (h : But B g w1 w2) (h' : But B g w2 w3) : But B g w1 w3 := ⟨h'.os.trans h.os, h'.tape.trans h.tape, h'.output.trans h.output, Nat.le_trans h.size h'.size, fun k hk hg => (h'.block k hk hg).trans (h.block k hk hg)⟩
theorem But.of {B B' g : Nat} {w w' : World} (h : Below B' w w') (hB : B ≤ B') : But B g w w' := ⟨h.os, h.tape, h.output, h.size, fun k hk _ => h.block k (by omega)⟩
theorem But.mono {B B' g : Nat} {w w' : World} (h : But B' g w w') (hB : B ≤ B') : But B g w w' := ⟨h.os, h.tape, h.output, h.size, fun k hk hg => h.block k (by omega) hg⟩
theorem But.cell {B g : Nat} {w w' : World} (h : Grew w w' (some ⟨g, 0, none⟩)) (hB : B ≤ w.heap.size) : But B g w w' := ⟨h.by_.os, h.by_.tape, h.by_.output, h.by_.size, fun k hk hg => h.by_.block k (by omega) (by simpa using hg)⟩
theorem But.below {B g : Nat} {w w' : World} (h : But B g w w') (hg : B ≤ g) : Below B w w' := ⟨h.os, h.tape, h.output, h.size, fun k hk => h.block k hk (by omega)⟩
theorem But.grew {B g : Nat} {w w' : World} {A : Option Addr} (h : Grew w w' A) (hA : ∀ a, A = some a → B ≤ a.block) (hB : B ≤ w.heap.size) : But B g w w' :=
  ⟨h.by_.os, h.by_.tape, h.by_.output, h.by_.size, fun k hk _ => h.by_.block k (by omega) (by
    cases A with
    | none => simp
    | some a => have := hA a rfl; simp; omega)⟩
theorem Blk.but {B g b t : Nat} {cs : List Value} {w w' : World} (h : Blk w b t cs) (hb : But B g w w') (h1 : b < B) (h2 : b ≠ g) : Blk w' b t cs := (hb.block b h1 h2).trans h
/-- A parser's cells: tokens, place, end, the names of the parts. -/
abbrev pcells (At : Option Addr) (n ct : Nat) (i en : Int) (nv : List Value) : List Value := .slice At n ct :: .int .i64 i :: .int .i64 en :: (nv ++ [.int .i64 0])
/-- Where a parser stands. -/
structure Psr (g : Nat) (w : World) (ts : List Tok) (i : Nat) (en : Int) (At : Option Addr) (ct : Nat) (nv : List Value) : Prop where
  k : Blk w g 49 (pcells At ts.length ct i en nv)
  t : Recs Tok.cells 3 (· < g) w At ts
  le : ts.length ≤ 4000
theorem Psr.below {g : Nat} {w w' : World} {ts : List Tok} {i : Nat} {en : Int} {At : Option Addr} {ct : Nat} {nv : List Value} (h : Psr g w ts i en At ct nv) (b : Below w.heap.size w w') : Psr g w' ts i en At ct nv :=
  ⟨h.k.below b h.k.lt, h.t.keep fun b' hb => b.block _ (Nat.lt_trans hb h.k.lt), h.le⟩
section
variable {K : Fr → World → Prop} {u w : World} {f : Fr} {d : Option Nat} {g t : Nat} {At : Option Addr} {n ct : Nat} {i en : Int} {nv : List Value}
theorem Blk.pT (h : Blk u g t (pcells At n ct i en nv)) : Val1 Tryd.prog K (Instr.loadAt 45 (.pointer (some ⟨g, 0, none⟩))) u f d w = K (updO f d (.slice At n ct)) w := h.ld ty_ag_45 0 (by simp)
theorem Blk.pA (h : Blk u g t (pcells At n ct i en nv)) : Val1 Tryd.prog K (Instr.loadAt 3 (.pointer (some ⟨g, 1, none⟩))) u f d w = K (updO f d (.int .i64 i)) w := h.ld ty_ag_3 1 (by simp)
theorem Blk.pE (h : Blk u g t (pcells At n ct i en nv)) : Val1 Tryd.prog K (Instr.loadAt 3 (.pointer (some ⟨g, 2, none⟩))) u f d w = K (updO f d (.int .i64 en)) w := h.ld ty_ag_3 2 (by simp)
end
section
variable {K : Fr → World → Prop} {u w : World} {f : Fr} {d : Option Nat} {g t : Nat} {T : Tok}
theorem Blk.t0 (h : Blk u g t T.cells) : Val1 Tryd.prog K (Instr.loadAt 3 (.pointer (some ⟨g, 0, none⟩))) u f d w = K (updO f d (.int .i64 T.k)) w := h.ld ty_ag_3 0 (by simp [Tok.cells])
theorem Blk.t1 (h : Blk u g t T.cells) : Val1 Tryd.prog K (Instr.loadAt 9 (.pointer (some ⟨g, 1, none⟩))) u f d w = K (updO f d (.string T.s)) w := h.ld ty_ag_9 1 (by simp [Tok.cells])
theorem Blk.t2 (h : Blk u g t T.cells) : Val1 Tryd.prog K (Instr.loadAt 3 (.pointer (some ⟨g, 2, none⟩))) u f d w = K (updO f d (.int .i64 T.at_)) w := h.ld ty_ag_3 2 (by simp [Tok.cells])
theorem Blk.tA (h : Blk u g t T.cells) : Val1 Tryd.prog K (Instr.loadAt 53 (.pointer (some ⟨g, 0, none⟩))) u f d w = K (updO f d (.agg T.cells.toArray)) w := h.ldAll ty_ag_53 ty_sz_53
end
def tok0 : List Value := [.int .i64 0, .string ⟨#[]⟩, .int .i64 0]
theorem bl_tokE {K : Fr → World → Prop} {u : World} {f : Fr} {d : Option Nat} {w : World} (a : Int) : Val1 Tryd.prog K (Instr.build 53 #[(2, .int .i64 a)]) u f d w = K (updO f d (.agg (Tok.cells (endTok a)).toArray)) w := bld_of (by kernel_rfl)
theorem tok_one (t : Tok) : t.cells.all (·.oneCell') = true := by simp [Tok.cells, Value.oneCell']
theorem Toks.ldA {K : Fr → World → Prop} {u w : World} {f : Fr} {d : Option Nat} {ok : Nat → Prop} {A : Option Addr} {ts : List Tok} (h : Recs Tok.cells 3 ok u A ts) {i : Nat} {t : Tok} (hi : ts[i]? = some t) :
    Val1 Tryd.prog K (Instr.loadAt 53 (.pointer (some (eA A (i * 3))))) u f d w = K (updO f d (.agg t.cells.toArray)) w :=
  h.ldAll tokEnc ty_ag_53 hi ty_sz_53
def peekT (ts : List Tok) (en : Int) (i : Nat) : Tok := ts.getD i (endTok en)
theorem text_peek {g : Nat} {w : World} {ts : List Tok} {i : Nat} {en : Int} {At : Option Addr} {ct : Nat} {nv : List Value} (h : Psr g w ts i en At ct nv) :
    Cal Tryd.prog 14 [.pointer (some ⟨g, 0, none⟩)] w fun v w' => v = .agg (peekT ts en i).cells.toArray ∧ Below w.heap.size w w' := by
  refine cal_text_parser_peek (by simp) 1000 fun Q hQ => ?_
  simp (disch := first | with_reducible assumption | omega) only [push_cast, x_blk, x_cd, ↓reduceIte, Nat.reduceEqDiff, List.map_cons, List.map_nil, Int.reduceEq, Int.lt_irrefl, F_text_parser_peek]
  refine blk_of (cs := tok0) al_53 ?_
  intro w1 k1 b1 z1
  have sd : Same w1 w1.drew := (Same.refl w1).drew
  have h1 := (h.below b1)
  have hu := h1.below (sd.below _)
  have ku := k1.same sd
  have bu := b1.trans (sd.below _)
  generalize hu1 : w1.drew = u1 at *
  by_cases hlt : i < ts.length
  · have hti : ts[i]? = some (peekT ts en i) := by unfold peekT; rw [List.getD_eq_getElem?_getD, List.getElem?_eq_getElem hlt]; rfl
    have sd2 : Same u1 u1.drew := (Same.refl u1).drew
    have hv := hu.below (sd2.below _)
    have kv := ku.same sd2
    have bv := bu.trans (sd2.below _)
    generalize hu2 : u1.drew = u2 at *
    have sA := h.t.isSome (by omega)
    simp (disch := first | with_reducible assumption | omega) only [push_cast, x_blk, x_cd, ↓reduceIte, Nat.reduceEqDiff, List.map_cons, List.map_nil, Int.reduceEq, Int.lt_irrefl, hu1, hu.k.pT, hu.k.pA, hlt, hu2, hv.k.pT, hv.k.pA, sA, Toks.ldA hv.t hti]
    refine sto_blk kv (cs := (peekT ts en i).cells) ty_sz_53 rfl (tok_one _) ?_
    intro w3 k3 g3 z3
    simp (disch := first | with_reducible assumption | omega) only [push_cast, x_blk, x_cd, ↓reduceIte, Nat.reduceEqDiff, List.map_cons, List.map_nil, Int.reduceEq, Int.lt_irrefl]
    exact fin_cell k3 ty_ag_53 ty_sz_53 (by simp only [push_cast, ↓reduceIte, Nat.reduceEqDiff, Int.reduceEq]) (hQ _ _ ⟨rfl, g3.below bv bv.size (by intro a ha; injection ha with ha; subst ha; exact Nat.le_refl _)⟩)
  · have hti : peekT ts en i = endTok en := by unfold peekT; rw [List.getD_eq_getElem?_getD, List.getElem?_eq_none (by omega)]; rfl
    simp (disch := first | with_reducible assumption | omega) only [push_cast, x_blk, x_cd, ↓reduceIte, Nat.reduceEqDiff, List.map_cons, List.map_nil, Int.reduceEq, Int.lt_irrefl, hu1, hu.k.pT, hu.k.pA, hlt, hu.k.pE, bl_tokE]
    refine sto_blk ku (cs := (endTok en).cells) ty_sz_53 rfl (tok_one _) ?_
    intro w3 k3 g3 z3
    simp (disch := first | with_reducible assumption | omega) only [push_cast, x_blk, x_cd, ↓reduceIte, Nat.reduceEqDiff, List.map_cons, List.map_nil, Int.reduceEq, Int.lt_irrefl]
    exact fin_cell k3 ty_ag_53 ty_sz_53 (by simp only [push_cast, ↓reduceIte, Nat.reduceEqDiff, Int.reduceEq]) (hQ _ _ ⟨by rw [hti], g3.below bu bu.size (by intro a ha; injection ha with ha; subst ha; exact Nat.le_refl _)⟩)
theorem But.lt {B g b : Nat} {w w' : World} (h : But B g w w') (hb : b < w.heap.size) : b < w'.heap.size := Nat.lt_of_lt_of_le hb h.size
set_option maxHeartbeats 1000000 in
theorem text_need {g : Nat} {w : World} {ts : List Tok} {i : Nat} {en : Int} {At : Option Addr} {ct : Nat} {nv : List Value} (h : Psr g w ts i en At ct nv) (hile : i ≤ 100000) (hc : FuncId) (cap : List Value) (p : Tok → Bool)
    (hcl : ∀ w', Below w.heap.size w w' → Cal Tryd.prog hc ([.agg (peekT ts en i).cells.toArray] ++ cap) w' fun v w'' => v = .bool (p (peekT ts en i)) ∧ Below w'.heap.size w' w'') :
    Cal2 Tryd.prog 33 [.pointer (some ⟨g, 0, none⟩), .func (.func hc) #[] cap.toArray] w
      (fun v w' => v = .agg (peekT ts en i).cells.toArray ∧ p (peekT ts en i) = true ∧ Psr g w' ts (i + 1) en At ct nv ∧ But w.heap.size g w w')
      (fun ch w' => ch = [{ v := badV 2 (peekT ts en i).at_, recovered := false }] ∧ p (peekT ts en i) = false ∧ But w.heap.size g w w') := by
  refine cal2_text_parser_need (by simp) 10000 fun Q Qp hQ hP => ?_
  simp (disch := first | with_reducible assumption | omega) only [push_cast, x_blk, x_cd, ↓reduceIte, Nat.reduceEqDiff, List.map_cons, List.map_nil, Int.reduceEq, Int.lt_irrefl, F_text_parser_need]
  refine blk_of (cs := tok0) al_53 ?_
  intro w1 k1 b1 z1
  have hg := h.k.lt
  have h1 := h.below b1
  simp (disch := first | with_reducible assumption | omega) only [push_cast, x_blk, x_cd, ↓reduceIte, Nat.reduceEqDiff, List.map_cons, List.map_nil, Int.reduceEq, Int.lt_irrefl]
  refine call_of (text_peek h1) ?_
  rintro v w2 ⟨rfl, b2⟩
  have h2 := h1.below b2
  have k2 := k1.below b2 k1.lt
  have bb2 := b1.trans (b2.mono b1.size)
  simp (disch := first | with_reducible assumption | omega) only [push_cast, x_blk, x_cd, ↓reduceIte, Nat.reduceEqDiff, List.map_cons, List.map_nil, Int.reduceEq, Int.lt_irrefl]
  refine blk_of (cs := tok0) al_53 ?_
  intro w3 k3 b3 z3
  have k2' := k2.below b3 k2.lt
  generalize hT : peekT ts en i = T at *
  simp (disch := first | with_reducible assumption | omega) only [push_cast, x_blk, x_cd, ↓reduceIte, Nat.reduceEqDiff, List.map_cons, List.map_nil, Int.reduceEq, Int.lt_irrefl]
  refine sto_blk k3 (cs := T.cells) ty_sz_53 rfl (tok_one _) ?_
  intro w4 k4 g4 z4
  have b34 := g4.below b3 b3.size (by intro a ha; injection ha with ha; subst ha; exact Nat.le_refl _)
  have h4 := h2.below b34
  have k14 := k2.below b34 k2.lt
  have bb4 := bb2.trans (b34.mono bb2.size)
  have sd := (Same.refl w4).drew
  have h5 := h4.below (sd.below _)
  have k5 := k4.same sd
  have k15 := k14.same sd
  have bb5 := bb4.trans (sd.below _)
  generalize hu : w4.drew = u at *
  simp (disch := first | with_reducible assumption | omega) only [push_cast, x_blk, x_cd, ↓reduceIte, Nat.reduceEqDiff, List.map_cons, List.map_nil, Int.reduceEq, Int.lt_irrefl, hu, k5.tA, k5.t2]
  refine call_of (hcl u bb5) ?_
  rintro v w6 ⟨rfl, b6⟩
  refine ⟨b6, ?_⟩
  have h6 := h5.below b6
  have k6 := k5.below b6 k5.lt
  have k16 := k15.below b6 k15.lt
  have bb6 := bb5.trans (b6.mono bb5.size)
  simp (disch := first | with_reducible assumption | omega) only [push_cast, x_blk, x_cd, ↓reduceIte, Nat.reduceEqDiff, List.map_cons, List.map_nil, Int.reduceEq, Int.lt_irrefl]
  refine call2_of (text_must (p T) 2 T.at_ w6) ?_ ?_
  · rintro ch w7 ⟨hch, hp, s7⟩
    exact hP _ _ ⟨hch, hp, But.of (bb6.trans (s7.below _)) (Nat.le_refl _)⟩
  rintro v w7 ⟨rfl, hp, s7⟩
  have h7 := h6.below (s7.below _)
  have k7 := k6.same s7
  have k17 := k16.same s7
  have bb7 := bb6.trans (s7.below _)
  have hne1 : w.heap.size ≠ g := by omega
  have hg7 := h7.k.lt
  simp (disch := first | with_reducible assumption | omega) only [push_cast, x_blk, x_cd, ↓reduceIte, Nat.reduceEqDiff, List.map_cons, List.map_nil, Int.reduceEq, Int.lt_irrefl, h7.k.pA]
  refine sto_cell h7.k ty_sz_int 1 (by simp) .i64 _ ?_
  intro w8 k8 g8 z8
  have t8 := h7.t.keep (w := w8) fun b hb => g8.by_.block b (by omega) (by simp; omega)
  have k78 : Blk w8 _ _ _ := k7.grown g8.by_ (by
    have : w2.heap.size ≠ g := by have := h2.k.lt; omega
    simpa using this)
  have k178 := k17.grown g8.by_ (by simpa using hne1)
  have bu8 := (But.of bb7 (Nat.le_refl _)).trans (But.cell g8 bb7.size)
  simp (disch := first | with_reducible assumption | omega) only [push_cast, x_blk, x_cd, ↓reduceIte, Nat.reduceEqDiff, List.map_cons, List.map_nil, Int.reduceEq, Int.lt_irrefl, k78.tA]
  refine sto_blk k178 (cs := T.cells) ty_sz_53 rfl (tok_one _) ?_
  intro w9 k9 g9 z9
  simp (disch := first | with_reducible assumption | omega) only [push_cast, x_blk, x_cd, ↓reduceIte, Nat.reduceEqDiff, List.map_cons, List.map_nil, Int.reduceEq, Int.lt_irrefl]
  have k89 : Blk w9 g _ _ := Blk.grown k8 g9.by_ (by
    have : g ≠ w.heap.size := by omega
    simpa using this)
  have b9 : Below w.heap.size w8 w9 := g9.below (Below.refl _ _) (by have := bu8.size; omega) (by intro a ha; injection ha with ha; subst ha; exact Nat.le_refl _)
  refine fin_cell k9 ty_ag_53 ty_sz_53 (by simp only [push_cast, ↓reduceIte, Nat.reduceEqDiff, Int.reduceEq]) (hQ _ _ ⟨rfl, hp, ⟨k89, t8.keep fun b hb => b9.block b (by omega), h.le⟩, bu8.trans (But.of b9 (Nat.le_refl _))⟩)
def isName (t : Tok) : Bool := decide (t.k = 1)
def isSgn (s : ByteArray) (t : Tok) : Bool := decide (t.k = 3 ∧ t.s = s)
def isPart (k : Nat) (t : Tok) : Bool := decide (t.k = 1 ∧ t.s = partWs.getD k ⟨#[]⟩)
theorem name_1 (t : Tok) (w : World) : Cal Tryd.prog 55 [.agg t.cells.toArray] w fun v w' => v = .bool (isName t) ∧ Below w.heap.size w w' := by
  refine cal_text_parser_name_1 (by simp) 1000 fun Q hQ => ?_
  simp (disch := first | with_reducible assumption | omega) only [push_cast, x_blk, x_cd, ↓reduceIte, Nat.reduceEqDiff, List.map_cons, List.map_nil, Int.reduceEq, Int.lt_irrefl, F_text_parser_name_1]
  refine blk_of (box_agg _ t.cells) ?_
  intro w1 k1 b1 z1
  simp (disch := first | with_reducible assumption | omega) only [push_cast, x_blk, x_cd, ↓reduceIte, Nat.reduceEqDiff, List.map_cons, List.map_nil, Int.reduceEq, Int.lt_irrefl, k1.t0]
  exact fin_1 (hQ _ _ ⟨by simp only [push_cast, ↓reduceIte, Nat.reduceEqDiff, isName], b1⟩)
theorem Blk.str1 {K : Fr → World → Prop} {u w : World} {f : Fr} {d : Option Nat} {g t : Nat} {s : ByteArray} (h : Blk u g t [.string s]) : Val1 Tryd.prog K (Instr.loadAt 9 (.pointer (some ⟨g, 0, none⟩))) u f d w = K (updO f d (.string s)) w := h.ld ty_ag_9 0 (by simp)
theorem Blk.int1 {K : Fr → World → Prop} {u w : World} {f : Fr} {d : Option Nat} {g t : Nat} {x : Int} (h : Blk u g t [.int .i64 x]) : Val1 Tryd.prog K (Instr.loadAt 3 (.pointer (some ⟨g, 0, none⟩))) u f d w = K (updO f d (.int .i64 x)) w := h.ld ty_ag_3 0 (by simp)
theorem sign_1 (t : Tok) {w : World} {b : Nat} {s : ByteArray} (hb : Blk w b 9 [.string s]) : Cal Tryd.prog 56 [.agg t.cells.toArray, .pointer (some ⟨b, 0, none⟩)] w fun v w' => v = .bool (isSgn s t) ∧ Below w.heap.size w w' := by
  refine cal_text_parser_sign_1 (by simp) 1000 fun Q hQ => ?_
  simp (disch := first | with_reducible assumption | omega) only [push_cast, x_blk, x_cd, ↓reduceIte, Nat.reduceEqDiff, List.map_cons, List.map_nil, Int.reduceEq, Int.lt_irrefl, F_text_parser_sign_1]
  refine blk_of (box_agg _ t.cells) ?_
  intro w1 k1 b1 z1
  have hb1 := hb.below b1 hb.lt
  by_cases c : t.k = 3
  · have ec := eq_true c
    simp (disch := first | with_reducible assumption | omega) only [push_cast, x_blk, x_cd, ↓reduceIte, Nat.reduceEqDiff, List.map_cons, List.map_nil, Int.reduceEq, Int.lt_irrefl, k1.t0, ec, k1.t1, hb1.str1]
    exact fin_1 (hQ _ _ ⟨by simp only [push_cast, ↓reduceIte, Nat.reduceEqDiff, isSgn, c, true_and], b1⟩)
  · simp (disch := first | with_reducible assumption | omega) only [push_cast, x_blk, x_cd, ↓reduceIte, Nat.reduceEqDiff, List.map_cons, List.map_nil, Int.reduceEq, Int.lt_irrefl, k1.t0, c]
    exact fin_1 (hQ _ _ ⟨by simp only [push_cast, ↓reduceIte, Nat.reduceEqDiff, isSgn, c, false_and], b1⟩)
/-- The words of the parts, as the program's variable holds them. -/
structure PTab (w : World) : Prop where
  cell : ∀ i, i < 9 → w.cell? ⟨0, i, none⟩ = some (.string (partWs.getD i ⟨#[]⟩))
theorem PTab.lt {w : World} (h : PTab w) : 0 < w.heap.size := World.block_lt_of_cell? w _ (h.cell 0 (by decide))
theorem PTab.below {B : Nat} {w w' : World} (h : PTab w) (hb : Below B w w') (hB : 0 < B) : PTab w' := ⟨fun i hi => (hb.cell (p := ⟨0, i, none⟩) hB).trans (h.cell i hi)⟩
theorem PTab.on {w w' : World} (h : PTab w) (hb : Below w.heap.size w w') : PTab w' := h.below hb h.lt
theorem PTab.same {w w' : World} (h : PTab w) (hs : Same w w') : PTab w' := h.on (hs.below _)
theorem PTab.but {B g : Nat} {w w' : World} (h : PTab w) (hb : But B g w w') (hB : 0 < B) (hg : 0 ≠ g) : PTab w' :=
  ⟨fun i hi => (World.cell?_of_block (a := ⟨0, i, none⟩) (hb.block _ hB hg)).trans (h.cell i hi)⟩
theorem PTab.ld {K : Fr → World → Prop} {u w : World} {f : Fr} {d : Option Nat} (h : PTab u) {i : Nat} (hi : i < 9) : Val1 Tryd.prog K (Instr.loadAt 9 (.pointer (some ⟨0, i, none⟩))) u f d w = K (updO f d (.string (partWs.getD i ⟨#[]⟩))) w :=
  load_one_of u f d w ty_ag_9 (h.cell i hi)
theorem part_1 (t : Tok) {w : World} {b : Nat} {k : Nat} (hk : k < 9) (hP : PTab w) (hb : Blk w b 3 [.int .i64 k]) : Cal Tryd.prog 34 [.agg t.cells.toArray, .pointer (some ⟨b, 0, none⟩)] w fun v w' => v = .bool (isPart k t) ∧ Below w.heap.size w w' := by
  refine cal_text_parser_part_1 (by simp) 1000 fun Q hQ => ?_
  simp (disch := first | with_reducible assumption | omega) only [push_cast, x_blk, x_cd, ↓reduceIte, Nat.reduceEqDiff, List.map_cons, List.map_nil, Int.reduceEq, Int.lt_irrefl, F_text_parser_part_1]
  refine blk_of (box_agg _ t.cells) ?_
  intro w1 k1 b1 z1
  have hb1 := hb.below b1 hb.lt
  have hP1 := hP.on b1
  have sd := (Same.refl w1).drew
  replace k1 := k1.same sd
  replace hb1 := hb1.same sd
  replace hP1 := hP1.same sd
  replace b1 := b1.trans (sd.below _)
  generalize hu : w1.drew = u at *
  by_cases c : t.k = 1
  · have ec := eq_true c
    simp (disch := first | with_reducible assumption | omega) only [push_cast, x_blk, x_cd, ↓reduceIte, Nat.reduceEqDiff, List.map_cons, List.map_nil, Int.reduceEq, Int.lt_irrefl, hu, k1.t0, ec, k1.t1, hb1.int1, hP1.ld hk, hk]
    exact fin_1 (hQ _ _ ⟨by simp only [push_cast, ↓reduceIte, Nat.reduceEqDiff, isPart, c, true_and], b1⟩)
  · simp (disch := first | with_reducible assumption | omega) only [push_cast, x_blk, x_cd, ↓reduceIte, Nat.reduceEqDiff, List.map_cons, List.map_nil, Int.reduceEq, Int.lt_irrefl, hu, k1.t0, c]
    exact fin_1 (hQ _ _ ⟨by simp only [push_cast, ↓reduceIte, Nat.reduceEqDiff, isPart, c, false_and], b1⟩)
section
variable {g : Nat} {w : World} {ts : List Tok} {i : Nat} {en : Int} {At : Option Addr} {ct : Nat} {nv : List Value}
theorem text_name (h : Psr g w ts i en At ct nv) (hile : i ≤ 100000) :
    Cal2 Tryd.prog 35 [.pointer (some ⟨g, 0, none⟩)] w
      (fun v w' => v = .agg (peekT ts en i).cells.toArray ∧ isName (peekT ts en i) = true ∧ Psr g w' ts (i + 1) en At ct nv ∧ But w.heap.size g w w')
      (fun ch w' => ch = [{ v := badV 2 (peekT ts en i).at_, recovered := false }] ∧ isName (peekT ts en i) = false ∧ But w.heap.size g w w') := by
  refine cal2_text_parser_name (by simp) 10000 fun Q Qp hQ hP => ?_
  simp (disch := first | with_reducible assumption | omega) only [push_cast, x_blk, x_cd, ↓reduceIte, Nat.reduceEqDiff, List.map_cons, List.map_nil, Int.reduceEq, Int.lt_irrefl, F_text_parser_name]
  refine blk_of (cs := tok0) al_53 ?_
  intro w1 k1 b1 z1
  have hg := h.k.lt
  have h1 := h.below b1
  simp (disch := first | with_reducible assumption | omega) only [push_cast, x_blk, x_cd, ↓reduceIte, Nat.reduceEqDiff, List.map_cons, List.map_nil, Int.reduceEq, Int.lt_irrefl]
  refine call2_of (text_need h1 hile 55 [] isName fun w' _ => name_1 _ w') ?_ ?_
  · rintro ch w2 ⟨hch, hp, b2⟩
    exact hP _ _ ⟨hch, hp, (But.of b1 (Nat.le_refl _)).trans (b2.mono b1.size)⟩
  rintro v w2 ⟨rfl, hp, h2, b2⟩
  have k2 := k1.but b2 k1.lt (by omega)
  have bb2 := (But.of b1 (Nat.le_refl _)).trans (b2.mono b1.size)
  simp (disch := first | with_reducible assumption | omega) only [push_cast, x_blk, x_cd, ↓reduceIte, Nat.reduceEqDiff, List.map_cons, List.map_nil, Int.reduceEq, Int.lt_irrefl]
  refine sto_blk k2 (cs := (peekT ts en i).cells) ty_sz_53 rfl (tok_one _) ?_
  intro w3 k3 g3 z3
  simp (disch := first | with_reducible assumption | omega) only [push_cast, x_blk, x_cd, ↓reduceIte, Nat.reduceEqDiff, List.map_cons, List.map_nil, Int.reduceEq, Int.lt_irrefl]
  have b3 : Below w.heap.size w2 w3 := g3.below (Below.refl _ _) (by have := k2.lt; omega) (by intro a ha; injection ha with ha; subst ha; exact Nat.le_refl _)
  have b3g : Below (g + 1) w2 w3 := g3.below (Below.refl _ _) (by have := h2.k.lt; omega) (by intro a ha; injection ha with ha; subst ha; show g + 1 ≤ w.heap.size; omega)
  exact fin_cell k3 ty_ag_53 ty_sz_53 (by simp only [push_cast, ↓reduceIte, Nat.reduceEqDiff, Int.reduceEq]) (hQ _ _ ⟨rfl, hp, ⟨h2.k.below b3g (Nat.lt_succ_self _), h2.t.keep fun b hb => b3g.block b (by omega), h.le⟩, bb2.trans (But.of b3 (Nat.le_refl _))⟩)
theorem text_sign (h : Psr g w ts i en At ct nv) (hile : i ≤ 100000) (s : ByteArray) :
    Cal2 Tryd.prog 36 [.pointer (some ⟨g, 0, none⟩), .string s] w
      (fun v w' => v = .tuple #[] ∧ isSgn s (peekT ts en i) = true ∧ Psr g w' ts (i + 1) en At ct nv ∧ But w.heap.size g w w')
      (fun ch w' => ch = [{ v := badV 2 (peekT ts en i).at_, recovered := false }] ∧ isSgn s (peekT ts en i) = false ∧ But w.heap.size g w w') := by
  refine cal2_text_parser_sign (by simp) 10000 fun Q Qp hQ hP => ?_
  simp (disch := first | with_reducible assumption | omega) only [push_cast, x_blk, x_cd, ↓reduceIte, Nat.reduceEqDiff, List.map_cons, List.map_nil, Int.reduceEq, Int.lt_irrefl, F_text_parser_sign]
  refine blk_of (cs := [.string s]) (box_eq _ (.string s)) ?_
  intro w1 k1 b1 z1
  have hg := h.k.lt
  have h1 := h.below b1
  simp (disch := first | with_reducible assumption | omega) only [push_cast, x_blk, x_cd, ↓reduceIte, Nat.reduceEqDiff, List.map_cons, List.map_nil, Int.reduceEq, Int.lt_irrefl]
  refine call2_of (text_need h1 hile 56 [.pointer (some ⟨w.heap.size, 0, none⟩)] (isSgn s) fun w' b' => sign_1 _ (k1.below b' k1.lt)) ?_ ?_
  · rintro ch w2 ⟨hch, hp, b2⟩
    exact hP _ _ ⟨hch, hp, (But.of b1 (Nat.le_refl _)).trans (b2.mono b1.size)⟩
  rintro v w2 ⟨rfl, hp, h2, b2⟩
  simp (disch := first | with_reducible assumption | omega) only [push_cast, x_blk, x_cd, ↓reduceIte, Nat.reduceEqDiff, List.map_cons, List.map_nil, Int.reduceEq, Int.lt_irrefl]
  exact fin_0 (hQ _ _ ⟨rfl, hp, h2, (But.of b1 (Nat.le_refl _)).trans (b2.mono b1.size)⟩)
end
end Go.Proofs.YtpinjiikiaakaaaDoor

/-
  The parser's part: by its contract.
-/
namespace Go.Proofs.YtpinjiikiaakaaaDoor
set_option linter.unusedSimpArgs false
set_option linter.unusedVariables false
set_option linter.unusedSectionVars false
open Go.RowKit

/-- Where a field of one cell lies. -/
def tyFldV (P : Program) (s : TypeId) (k : Nat) : Option Nat := match P.underlying s with
  | some (.struct fs) => match (fs[k]? : Option Field) with
    | some f => if tyAgg P f.type = some false then some f.offset else none
    | none => none
  | _ => none
/-- Signs are signs. -/
def TkOk (ts : List Tok) : Prop := ∀ t ∈ ts, t.s = semi ∨ t.s = comma → t.k = 3
theorem toks_ok : ∀ (n : Nat) (l : List UInt8), l.length ≤ n → ∀ a, TkOk (toks a l).1
  | _, [], _, a => by rw [toks_nil]; exact fun t ht => by cases ht
  | 0, c :: r, h, _ => by simp at h
  | n + 1, c :: r, h, a => by
    have hr : r.length ≤ n := by simpa using h
    rw [toks_cons]
    split
    · exact toks_ok n r hr (a + 1)
    · split
      · intro t ht hs
        rcases List.mem_cons.1 ht with rfl | ht
        · rfl
        · exact toks_ok n r hr (a + 1) t ht hs
      · split
        · intro t ht; cases ht
        · rename_i hb hg hl
          split
          · intro t ht; cases ht
          · intro t ht hs
            rcases List.mem_cons.1 ht with rfl | ht
            · exfalso
              have hl' : IsLet (c.toNat : Int) := Classical.not_not.1 hl
              have hc : ∀ x : UInt8, (⟨(c :: r.take (wordN r)).toArray⟩ : ByteArray) = ⟨#[x]⟩ → c = x := fun x he => by
                have := congrArg (fun b : ByteArray => b.data.toList) he
                simp at this
                exact this.1
              rcases hs with hs | hs
              · rw [hc _ hs] at hl'; revert hl'; decide
              · rw [hc _ hs] at hl'; revert hl'; decide
            · exact toks_ok n _ (by rw [List.length_drop]; omega) _ t ht hs
theorem peek_ok {ts : List Tok} (h : TkOk ts) (en : Int) (i : Nat) : (peekT ts en i).s = semi ∨ (peekT ts en i).s = comma → (peekT ts en i).k = 3 := by
  unfold peekT
  rw [List.getD_eq_getElem?_getD]
  cases he : ts[i]? with
  | none => intro hs; rcases hs with hs | hs <;> (simp [endTok, semi, comma] at hs)
  | some t => exact h t (List.mem_of_getElem? he)
/-- The form is not kept: where. -/
structure FBad (ts : List Tok) (en a : Int) : Prop where
  no : ¬ ((fform fs0 ts).1.length = ts.length ∧ (fform fs0 ts).2.part = 9)
  at_ : a = (ts.getD (fform fs0 ts).1.length (endTok en)).at_
theorem FReach.fbad {ts : List Tok} {i : Nat} {st : FSt} {of : List Int} {en : Int} (h : FReach ts i st of) (hs : fstep st (peekT ts en i) = none) (hp : st.part ≠ 9) : FBad ts en (peekT ts en i).at_ := by
  have h1 := h.stuck hs
  refine ⟨by rw [h1]; exact fun c => hp c.2, by rw [h1, h.len]; rfl⟩
theorem fstep_name {st : FSt} {T : Tok} (hn : st.next = .n ∨ st.next = .m) (hT : T.k = 1) : fstep st T = some (⟨st.part, st.names + 1, if st.part = 8 then (if 0 < (st.names + 1) % 3 then .n else .z) else .m⟩, (st.part : Int)) := by
  unfold fstep afterName
  rcases hn with hn | hn <;> simp only [hn, hT, if_true]
theorem fstep_n {st : FSt} {T : Tok} (hn : st.next = .n) (hT : T.k ≠ 1) : fstep st T = none := by
  unfold fstep
  simp only [hn, hT, if_false]
theorem fstep_p {st : FSt} {T : Tok} {k : Nat} (hk : st.part = k) (h9 : k < 9) (hn : st.next = .p) : fstep st T = if isPart k T = true then some (⟨k, 0, if k = 0 then .n else .m⟩, -1) else none := by
  unfold fstep isPart
  subst hk
  simp only [hn, h9, true_and, decide_eq_true_eq]
theorem fstep_semi {st : FSt} {T : Tok} (hT : T.s = semi ∨ T.s = comma → T.k = 3) (hn : (st.next = .m ∧ T.k ≠ 1) ∨ (st.next = .z ∧ T.s ≠ comma)) : fstep st T = if isSgn semi T = true then some (⟨st.part + 1, st.names, .p⟩, -1) else none := by
  unfold fstep isSgn
  by_cases hs : T.s = semi
  · have h3 := hT (.inl hs)
    rcases hn with ⟨hn, h1⟩ | ⟨hn, h1⟩ <;> simp [hn, hs, h3]
  · rcases hn with ⟨hn, h1⟩ | ⟨hn, h1⟩ <;> simp [hn, hs, h1]
theorem fstep_comma {st : FSt} {T : Tok} (hT : T.s = semi ∨ T.s = comma → T.k = 3) (hn : st.next = .z) (hc : T.s = comma) : isSgn comma T = true ∧ fstep st T = some (⟨st.part, st.names, .n⟩, -1) := by
  have h3 := hT (.inr hc)
  refine ⟨by unfold isSgn; simp [hc, h3], ?_⟩
  unfold fstep
  simp only [hn, hc, if_true]
  rw [if_neg (by decide)]
theorem fld_one {P : Program} {K : Fr → World → Prop} {u : World} {f : Fr} {d : Option Nat} {w : World} {t k off : Nat} (hk : tyFldV P t k = some off) (cs : List Value) {v : Value} (hv : cs[off]? = some v) :
    Val1 P K (Instr.field t (.agg cs.toArray) k) u f d w = K (updO f d v) w :=
  val1_of u f d w fun w' _ => by
    unfold tyFldV at hk
    cases hu : P.underlying t with
    | none => simp [hu] at hk
    | some de =>
      rw [hu] at hk
      cases de <;> first | (simp at hk; done) | skip
      rename_i fs
      simp only at hk
      cases hf : (fs[k]? : Option Field) with
      | none => simp [hf] at hk
      | some fl =>
        simp only [hf] at hk
        cases hu2 : P.underlying fl.type with
        | none => simp [tyAgg, hu2] at hk
        | some de2 =>
          cases de2 <;> simp [tyAgg, hu2] at hk <;> (subst hk; simp [Instr.field, run_underlying hu, hf, part, isAgg, asAgg, run_underlying hu2, hv])
section
variable {K : Fr → World → Prop} {u : World} {f : Fr} {d : Option Nat} {w : World} (T : Tok)
theorem tk_f0 : Val1 Tryd.prog K (Instr.field 53 (.agg T.cells.toArray) 0) u f d w = K (updO f d (.int .i64 T.k)) w := fld_one (off := 0) (by kernel_rfl) T.cells rfl
theorem tk_f1 : Val1 Tryd.prog K (Instr.field 53 (.agg T.cells.toArray) 1) u f d w = K (updO f d (.string T.s)) w := fld_one (off := 1) (by kernel_rfl) T.cells rfl
theorem tk_f2 : Val1 Tryd.prog K (Instr.field 53 (.agg T.cells.toArray) 2) u f d w = K (updO f d (.int .i64 T.at_)) w := fld_one (off := 2) (by kernel_rfl) T.cells rfl
end
theorem bin_strne {P : Program} {K : Fr → World → Prop} {u : World} {f : Fr} {d : Option Nat} {w : World} (t : TypeId) (xo yo : Operand) (a b : ByteArray) : Val1 P K (binS .neq t xo yo (.string a) (.string b)) u f d w = K (updO f d (.bool (decide (a ≠ b)))) w :=
  val1_of u f d w fun w' _ => by
    by_cases h : a = b
    · subst h; simp [binS, eqGuard, binOp, Op.stringOp, str_eq]
    · simp [binS, eqGuard, binOp, Op.stringOp, str_eq, h]
theorem pc_name {At : Option Addr} {n ct : Nat} {i en : Int} {nv : List Value} {k : Nat} (hk : k < nv.length) : (pcells At n ct i en nv)[3 + k]? = nv[k]? := by
  rw [show 3 + k = k + 1 + 1 + 1 by omega]
  simp only [pcells, List.getElem?_cons_succ]
  rw [List.getElem?_append_left hk]
theorem pc_set {At : Option Addr} {n ct : Nat} {i en : Int} {nv : List Value} {k : Nat} (hk : k < nv.length) (v : Value) : (pcells At n ct i en nv).set (3 + k) v = pcells At n ct i en (nv.set k v) := by
  rw [show 3 + k = k + 1 + 1 + 1 by omega]
  simp only [pcells, List.set_cons_succ]
  rw [List.set_append_left _ _ hk]
/-- What stands while a part is read. -/
structure PM (g B k : Nat) (ts : List Tok) (en : Int) (At : Option Addr) (ct : Nat) (nv : List Value) (of0 : List Int) (w0 w : World) (i : Nat) (st : FSt) (of : List Int) (A : Option Addr) (c : Nat) : Prop where
  r : FReach ts i st of
  h : Psr g w ts i en At ct (nv.set k (.slice A (fsel ts of k).length c))
  o : OwnR Tok.cells (B + 1) 53 3 w A c (fsel ts of k)
  kb : Blk w B 3 [.int .i64 k]
  b : But B g w0 w
  oth : ∀ j, j ≠ k → fsel ts of j = fsel ts of0 j
  p : st.part = k
theorem fsel_neg (ts : List Tok) (of : List Int) (j : Nat) (h : of.length < ts.length) : fsel ts (of ++ [-1]) j = fsel ts of j := by
  rw [sel_next ts of (-1) j 0 h, if_neg (by omega), List.append_nil]
section
variable {g B k : Nat} {ts : List Tok} {en : Int} {At : Option Addr} {ct : Nat} {nv : List Value} {of0 : List Int} {w0 w : World} {i : Nat} {st : FSt} {of : List Int} {A : Option Addr} {c : Nat}
theorem PM.sign {w' : World} {st' : FSt} (h : PM g B k ts en At ct nv of0 w0 w i st of A c) (hg : g < B) (hs : fstep st (peekT ts en i) = some (st', -1)) (hp : st'.part = k) (h' : Psr g w' ts (i + 1) en At ct (nv.set k (.slice A (fsel ts of k).length c))) (b : But w.heap.size g w w') :
    PM g B k ts en At ct nv of0 w0 w' (i + 1) st' (of ++ [-1]) A c := by
  obtain ⟨hi, hr⟩ := h.r.next hs
  have e : ∀ j, fsel ts (of ++ [-1]) j = fsel ts of j := fun j => fsel_neg ts of j (by rw [h.r.len]; exact hi)
  have hB := h.kb.lt
  refine ⟨hr, by rw [e]; exact h', ?_, h.kb.but b hB (by omega), h.b.trans (b.mono (by omega)), fun j hj => by rw [e]; exact h.oth j hj, hp⟩
  rw [e]
  refine h.o.keep fun b' hb' => ?_
  have hf := h.o.form
  rcases hf with ⟨h0, _⟩ | ⟨q, h0, hq1, hq2⟩
  · rw [h0] at hb'; cases hb'
  · rw [h0] at hb'
    injection hb' with hb'
    simp only at hb'
    subst hb'
    exact b.block _ hq2 (by omega)
theorem PM.same {w' : World} (h : PM g B k ts en At ct nv of0 w0 w i st of A c) (s : Same w w') : PM g B k ts en At ct nv of0 w0 w' i st of A c :=
  ⟨h.r, h.h.below (s.below _), h.o.same s, h.kb.same s, h.b.trans (But.of (s.below B) (Nat.le_refl _)), h.oth, h.p⟩
theorem PM.below {w' : World} (h : PM g B k ts en At ct nv of0 w0 w i st of A c) (b : Below w.heap.size w w') : PM g B k ts en At ct nv of0 w0 w' i st of A c :=
  ⟨h.r, h.h.below b, h.o.below b (Nat.le_refl _), h.kb.below b h.kb.lt, h.b.trans (But.of b (Nat.le_of_lt h.kb.lt)), h.oth, h.p⟩
theorem PM.ile (h : PM g B k ts en At ct nv of0 w0 w i st of A c) : i ≤ 4000 := Nat.le_trans h.r.le h.h.le
theorem fsel_le (ts : List Tok) (of : List Int) (j : Nat) : (fsel ts of j).length ≤ ts.length := by
  unfold fsel
  rw [List.length_map]
  refine Nat.le_trans (List.length_filter_le _ _) ?_
  rw [List.length_zip]; omega
theorem Blk.pN {K : Fr → World → Prop} {u w : World} {f : Fr} {d : Option Nat} {g t n k : Nat} {i : Int} {v : Value} (h : Blk u g t (pcells At n ct i en (nv.set k v))) (hk : k < nv.length) : Val1 Tryd.prog K (Instr.loadAt 45 (.pointer (some ⟨g, 3 + k, none⟩))) u f d w = K (updO f d v) w :=
  load_one_of u f d w ty_ag_45 (by rw [h.cell, pc_name (by rw [List.length_set]; exact hk), List.getElem?_set, if_pos rfl, if_pos hk])
theorem PM.own {w' : World} (h : PM g B k ts en At ct nv of0 w0 w i st of A c) (hg : g < B) (b : But w.heap.size g w w') : OwnR Tok.cells (B + 1) 53 3 w' A c (fsel ts of k) := by
  refine h.o.keep fun b' hb' => ?_
  have hf := h.o.form
  rcases hf with ⟨h0, _⟩ | ⟨q, h0, hq1, hq2⟩
  · rw [h0] at hb'; cases hb'
  · rw [h0] at hb'
    injection hb' with hb'
    simp only at hb'
    subst hb'
    exact b.block _ hq2 (by omega)
/-- What the form says of one more name, and of two. -/
theorem one_name {st' : FSt} (hr : FReach ts i st of) (hs : fstep st (peekT ts en i) = some (st', (k : Int))) : FReach ts (i + 1) st' (of ++ [(k : Int)]) ∧ ∀ j, fsel ts (of ++ [(k : Int)]) j = fsel ts of j ++ (if j = k then [peekT ts en i] else []) := by
  obtain ⟨hi, hr'⟩ := hr.next hs
  refine ⟨hr', fun j => ?_⟩
  rw [sel_next ts of k j en (by rw [hr.len]; exact hi), hr.len]
  by_cases e : j = k
  · rw [if_pos e, if_pos (by omega)]; rfl
  · rw [if_neg e, if_neg (by omega)]
theorem two_names {st' st'' : FSt} (hr : FReach ts i st of) (hs : fstep st (peekT ts en i) = some (st', (k : Int))) (hs2 : fstep st' (peekT ts en (i + 1)) = some (st'', (k : Int))) : FReach ts (i + 2) st'' (of ++ [(k : Int)] ++ [(k : Int)]) ∧ ∀ j, fsel ts (of ++ [(k : Int)] ++ [(k : Int)]) j = fsel ts of j ++ (if j = k then [peekT ts en i, peekT ts en (i + 1)] else []) := by
  obtain ⟨h1, e1⟩ := one_name hr hs
  obtain ⟨h2, e2⟩ := one_name h1 hs2
  refine ⟨h2, fun j => ?_⟩
  rw [e2, e1]
  by_cases e : j = k
  · simp only [if_pos e, List.append_assoc, List.singleton_append]
  · simp only [if_neg e, List.append_nil]
/-- More names: passed over, appended and stored. -/
theorem PM.names {w1 w3 w4 : World} {st' : FSt} {A' : Option Addr} {c' i' : Nat} {of' : List Int} {X : List Tok} (h : PM g B k ts en At ct nv of0 w0 w i st of A c) (hg : g < B) (hnv : k < nv.length) (hr : FReach ts i' st' of') (e : ∀ j, fsel ts of' j = fsel ts of j ++ (if j = k then X else [])) (hp : st'.part = k)
    (h1 : Psr g w1 ts i' en At ct (nv.set k (.slice A (fsel ts of k).length c))) (b1 : But w.heap.size g w w1)
    (o3 : OwnR Tok.cells (B + 1) 53 3 w3 A' c' (fsel ts of k ++ X)) (g3 : Grew w1 w3 A)
    (k4 : Blk w4 g 49 ((pcells At ts.length ct i' en (nv.set k (.slice A (fsel ts of k).length c))).set (3 + k) (.slice A' ((fsel ts of k).length + X.length) c'))) (g4 : Grew w3 w4 (some ⟨g, 0, none⟩)) :
    PM g B k ts en At ct nv of0 w0 w4 i' st' of' A' c' := by
  have ek : fsel ts of' k = fsel ts of k ++ X := by rw [e, if_pos rfl]
  have hB := h.kb.lt
  have hz1 := b1.size
  have hz3 := g3.by_.size
  have hA : ∀ a, A = some a → B + 1 ≤ a.block := h.o.geB
  have g3g : ∀ b, b < w1.heap.size → b ≤ B → w3.heap[b]? = w1.heap[b]? := fun b hb hbB => g3.by_.block b hb (by
    cases A with
    | none => simp
    | some a => have := hA a rfl; simp; omega)
  have hset : (pcells At ts.length ct (i' : Int) en (nv.set k (.slice A (fsel ts of k).length c))).set (3 + k) (.slice A' ((fsel ts of k).length + X.length) c') = pcells At ts.length ct (i' : Int) en (nv.set k (.slice A' (fsel ts of' k).length c')) := by
    rw [pc_set (by rw [List.length_set]; exact hnv), List.set_set, ek, List.length_append]
  rw [hset] at k4
  refine ⟨hr, ⟨k4, ?_, h.h.le⟩, ?_, ?_, ?_, fun j hj => ?_, hp⟩
  · refine h1.t.keep fun b hb => ?_
    have hb1 := h1.k.lt
    rw [g4.by_.block b (by omega) (by simp; omega), g3g b (by omega) (by omega)]
  · rw [ek]
    refine o3.keep fun b' hb' => ?_
    have hf := o3.form
    rcases hf with ⟨h0, _⟩ | ⟨q, h0, hq1, hq2⟩
    · rw [h0] at hb'; cases hb'
    · rw [h0] at hb'
      injection hb' with hb'
      simp only at hb'
      subst hb'
      exact g4.by_.block _ hq2 (by simp; omega)
  · have k1 := h.kb.but b1 hB (by omega)
    have : w4.heap[B]? = w1.heap[B]? := by rw [g4.by_.block B (by omega) (by simp; omega), g3g B (by omega) (Nat.le_refl _)]
    exact this.trans k1
  · have q1 := b1.mono (B := B) (by omega)
    have q3 : But B g w1 w3 := But.grew g3 (fun a ha => by have := hA a ha; omega) (by omega)
    have q4 : But B g w3 w4 := But.cell g4 (by omega)
    exact h.b.trans (q1.trans (q3.trans q4))
  · rw [e, if_neg hj, List.append_nil]; exact h.oth j hj
end
/-- What stands when a part has been read. -/
structure PD (g B k : Nat) (ts : List Tok) (en : Int) (At : Option Addr) (ct : Nat) (nv : List Value) (of0 : List Int) (w0 w : World) (i : Nat) (st : FSt) (of : List Int) (A : Option Addr) (c : Nat) : Prop where
  r : FReach ts i st of
  h : Psr g w ts i en At ct (nv.set k (.slice A (fsel ts of k).length c))
  o : OwnR Tok.cells (B + 1) 53 3 w A c (fsel ts of k)
  b : But B g w0 w
  oth : ∀ j, j ≠ k → fsel ts of j = fsel ts of0 j
  p : st.part = k + 1
  n : st.next = .p
theorem set_same {nv : List Value} {k : Nat} {v : Value} (h : nv.getD k undef = v) (hk : k < nv.length) : nv.set k v = nv := by
  apply List.ext_getElem?
  intro j
  rw [List.getElem?_set]
  by_cases e : k = j
  · subst e
    rw [if_pos rfl, if_pos hk, List.getElem?_eq_getElem hk]
    rw [List.getD_eq_getElem?_getD, List.getElem?_eq_getElem hk] at h
    rw [← h]; rfl
  · rw [if_neg e]
theorem sz_tks : tySize Tryd.prog 45 = some 1 := by kernel_rfl
theorem fill_6 (x0 x1 x2 x3 x4 x5 : Value) (a b : Tok) : Instr.fill (fun i => some (i * 3, 3)) #[x0, x1, x2, x3, x4, x5] [(0, .agg a.cells.toArray), (1, .agg b.cells.toArray)] = some (a.cells ++ b.cells).toArray := by
  simp [Instr.fill, Value.cells, Tok.cells]
theorem bsl2_tok {P : Program} {K : Fr → World → Prop} {f : Fr} {d : Option Nat} {w : World} {t e bytes : Nat} (hT : SlT P t e 3 bytes) (a b : Tok) :
    Eff1 P K (Instr.buildSlice t 2 #[(0, .agg a.cells.toArray), (1, .agg b.cells.toArray)]) f d w = K (updO f d (.slice (some ⟨w.heap.size, 0, none⟩) 2 2)) (w.alloc (.cells (a.cells ++ b.cells).toArray e)) := by
  obtain ⟨i, z, hi, hz, hs, hb, hc⟩ := hT.get
  refine eff1_of ?_
  have hz6 : (Array.range 6).map (z.cells[· % z.cells.size]!) = #[z.cells[0 % z.cells.size]!, z.cells[1 % z.cells.size]!, z.cells[2 % z.cells.size]!, z.cells[3 % z.cells.size]!, z.cells[4 % z.cells.size]!, z.cells[5 % z.cells.size]!] := by
    apply Array.ext'; simp [List.range_succ]
  have hf := fill_6 (z.cells[0 % z.cells.size]!) (z.cells[1 % z.cells.size]!) (z.cells[2 % z.cells.size]!) (z.cells[3 % z.cells.size]!) (z.cells[4 % z.cells.size]!) (z.cells[5 % z.cells.size]!) a b
  rw [← hz6] at hf
  simp only [Instr.buildSlice, run_underlying hT.under, sizeOf, typeInfo, Sem.run_bind, Result.andThen_ok]
  simp [hi, hs, zeroValue, typeInfo, hz, newRow, hf]
theorem app_2tok {P : Program} {K : Fr → World → Prop} {f : Fr} {d : Option Nat} {w : World} {B t e bytes ty : Nat} {A : Option Addr} {c : Nat} {l : List Tok} (hT : SlT P t e 3 bytes) (hown : OwnR Tok.cells B e 3 w A c l) (x y : Tok) (hl : (l.length + 2) * bytes ≤ 140737488355328) (h63 : l.length + 2 ≤ 9223372036854775807) (hB : B ≤ w.heap.size)
    (hk : ∀ A' c' w', OwnR Tok.cells B e 3 w' A' c' (l ++ [x, y]) → Grew w w' A → w.heap.size ≤ w'.heap.size → K (updO f d (.slice A' (l.length + 2) c')) w') :
    Eff1 P K (Builtin.append_ #[t, t] ty #[.slice A l.length c, .slice (some ⟨w.heap.size, 0, none⟩) 2 2]) f d (w.alloc (.cells (x.cells ++ y.cells).toArray e)) := by
  refine append_own hT ty (hown.alloc _) (rd_new w (x.cells ++ y.cells) e) (by simp [Tok.cells]) (by simp [Tok.cells, Value.oneCell']) hl h63 (by simp; omega) ?_
  intro A' c' w' ho hg hA hs hz
  have hz' : w.heap.size ≤ w'.heap.size := by have : (w.alloc (.cells (x.cells ++ y.cells).toArray e)).heap.size = w.heap.size + 1 := by simp
                                              omega
  refine hk A' c' w' ?_ ⟨⟨hg.by_.os, hg.by_.tape, hg.by_.output, hz', fun k hk hne => ?_⟩⟩ hz'
  · unfold OwnR
    rw [List.flatMap_append, List.length_append]
    simpa using ho
  · rw [hg.by_.block k (by simp; omega) hne, Below.heap_alloc w _ k hk]
set_option maxHeartbeats 4000000 in
theorem parser_part {g k i ct : Nat} {w : World} {ts : List Tok} {en : Int} {At : Option Addr} {nv : List Value} {st : FSt} {of0 : List Int} (h : Psr g w ts i en At ct nv) (hr : FReach ts i st of0) (hp : st.part = k) (hn : st.next = .p) (hk : k < 9)
    (hnv : nv.length = 9) (hnk : nv.getD k undef = .slice none 0 0) (hsel : fsel ts of0 k = []) (hP : PTab w) (hPg : 0 ≠ g) (hTk : TkOk ts) :
    Cal2 Tryd.prog 13 [.pointer (some ⟨g, 0, none⟩), .int .i64 k] w
      (fun v w' => v = .tuple #[] ∧ ∃ (i' : Nat) (st' : FSt) (of' : List Int) (A : Option Addr) (c : Nat), PD g w.heap.size k ts en At ct nv of0 w w' i' st' of' A c)
      (fun ch w' => ∃ a, FBad ts en a ∧ ch = [{ v := badV 2 a, recovered := false }] ∧ But w.heap.size g w w') := by
  have hg := h.k.lt
  have hkn : k < nv.length := by omega
  refine cal2_text_parser_part (by simp) 1000000 fun Q Qp hQ hPn => ?_
  simp (disch := first | with_reducible assumption | omega) only [push_cast, x_blk, x_cd, ↓reduceIte, Nat.reduceEqDiff, List.map_cons, List.map_nil, Int.reduceEq, Int.lt_irrefl, F_text_parser_part]
  refine blk_of (cs := [.int .i64 k]) (box_eq _ (.int .i64 k)) ?_
  intro w1 k1 b1 z1
  have h1 := h.below b1
  have hP1 := hP.on b1
  simp (disch := first | with_reducible assumption | omega) only [push_cast, x_blk, x_cd, ↓reduceIte, Nat.reduceEqDiff, List.map_cons, List.map_nil, Int.reduceEq, Int.lt_irrefl]
  have hile : i ≤ 4000 := Nat.le_trans hr.le h.le
  refine call2_of (text_need h1 (by omega) 34 [.pointer (some ⟨w.heap.size, 0, none⟩)] (isPart k) fun w' b' => part_1 _ hk (hP1.on b') (k1.below b' k1.lt)) ?_ ?_
  · rintro ch w2 ⟨hch, hq, b2⟩
    refine hPn _ _ ⟨_, hr.fbad (by rw [fstep_p hp hk hn, hq]; rfl) (by omega), hch, (But.of b1 (Nat.le_refl _)).trans (b2.mono b1.size)⟩
  rintro v w2 ⟨rfl, hq, h2, b2⟩
  have k2 := k1.but b2 k1.lt (by omega)
  have bb2 := (But.of b1 (Nat.le_refl _)).trans (b2.mono b1.size)
  have hst := fstep_p hp hk hn (T := peekT ts en i)
  rw [hq, if_pos rfl] at hst
  have hM : PM g w.heap.size k ts en At ct nv of0 w w2 (i + 1) ⟨k, 0, if k = 0 then .n else .m⟩ (of0 ++ [-1]) none 0 := by
    obtain ⟨hi, hr1⟩ := hr.next hst
    have e : ∀ j, fsel ts (of0 ++ [-1]) j = fsel ts of0 j := fun j => fsel_neg ts of0 j (by rw [hr.len]; exact hi)
    refine ⟨hr1, ?_, ?_, k2, bb2, fun j _ => e j, rfl⟩
    · rw [e, hsel, List.length_nil, set_same hnk hkn]; exact h2
    · rw [e, hsel]; exact Own.nil _ _ _ _
  rw [x_sq]
  refine cut (fun f w' => ∃ (i : Nat) (st : FSt) (of : List Int) (A : Option Addr) (c : Nat), (f 0 = .pointer (some ⟨g, 0, none⟩) ∧ f 3 = .pointer (some ⟨w.heap.size, 0, none⟩)) ∧ PM g w.heap.size k ts en At ct nv of0 w w' i st of A c ∧ st.next = .m ∧ (k = 8 → st.names % 3 = 0)) 400000 400000 (by decide) ?_ ?_
  · intro E hE
    by_cases hk0 : (k : Int) = 0
    case neg =>
      simp (disch := first | with_reducible assumption | omega) only [push_cast, x_blk, x_cd, ↓reduceIte, Nat.reduceEqDiff, List.map_cons, List.map_nil, Int.reduceEq, Int.lt_irrefl, hM.kb.int1, hk0]
      exact hE _ _ ⟨_, _, _, _, _, by simp only [push_cast, ↓reduceIte, Nat.reduceEqDiff, true_and, and_true, and_self, eq_self], hM, by simp only; rw [if_neg (by omega)], fun _ => rfl⟩
    have ek := eq_true hk0
    obtain ⟨wX, hwX⟩ : ∃ wX, wX = w2 := ⟨_, rfl⟩
    rw [← hwX] at hM ⊢
    clear hwX
    obtain ⟨i1, st1, of1, A1, c1, hM1, hn1, hm1⟩ : ∃ i1 st1 of1 A1 c1, PM g w.heap.size k ts en At ct nv of0 w wX i1 st1 of1 A1 c1 ∧ st1.next = .n ∧ st1.names = 0 := ⟨_, _, _, _, _, hM, by simp only; rw [if_pos (by omega)], rfl⟩
    clear hM
    have hM := hM1
    clear hM1
    simp (disch := first | with_reducible assumption | omega) only [push_cast, x_blk, x_cd, ↓reduceIte, Nat.reduceEqDiff, List.map_cons, List.map_nil, Int.reduceEq, Int.lt_irrefl, hM.kb.int1, ek]
    have hMu := hM.same (Same.refl wX).drew
    have hBu := hMu.kb.lt
    have hle0 := fsel_le ts of1 k
    have htl := hMu.h.le
    have hile := hMu.ile
    generalize hu : wX.drew = u at *
    obtain ⟨S0, hS0⟩ : ∃ S0 : World → Prop, ∀ w', S0 w' ↔ (Blk w' w.heap.size 3 [.int .i64 k] ∧ ∃ j : Int, Blk w' g 49 (pcells At ts.length ct j en (nv.set k (.slice A1 (fsel ts of1 k).length c1)))) := ⟨_, fun _ => Iff.rfl⟩
    have hSu := (hS0 u).2 ⟨hMu.kb, _, hMu.h.k⟩
    refine ⟨S0, hSu, ?_⟩
    have q1 := fun {K : Fr → World → Prop} {f : Fr} {d : Option Nat} => valS_of (P := Tryd.prog) (S := S0) (K := K) (f := f) (d := d) (w := u) (s := Instr.loadAt 3 (.pointer (some ⟨w.heap.size, 0, none⟩))) (v := .int .i64 k) (fun w' hw => by rw [((hS0 w').1 hw).1.int1]; rfl) hSu
    have q2 := fun {K : Fr → World → Prop} {f : Fr} {d : Option Nat} => valS_of (P := Tryd.prog) (S := S0) (K := K) (f := f) (d := d) (w := u) (s := Instr.loadAt 45 (.pointer (some ⟨g, 3 + k, none⟩))) (v := .slice A1 (fsel ts of1 k).length c1) (fun w' hw => by obtain ⟨_, j, hj⟩ := (hS0 w').1 hw; rw [hj.pN hkn]; rfl) hSu
    simp (disch := first | with_reducible assumption | omega) only [push_cast, x_blk, x_cd, ↓reduceIte, Nat.reduceEqDiff, List.map_cons, List.map_nil, Int.reduceEq, Int.lt_irrefl, q1, q2, hk]
    refine call2_of (text_name hMu.h (by omega)) ?_ ?_
    · rintro ch wP ⟨hch, hqP, bP⟩
      refine hPn _ _ ⟨_, hM.r.fbad (fstep_n (by exact hn1) (by unfold isName at hqP; exact of_decide_eq_false hqP)) (by rw [hM.p]; omega), hch, hMu.b.trans (bP.mono (by omega))⟩
    rintro v wN ⟨rfl, hqN, hN, bN⟩
    have SN := (hS0 wN).2 ⟨hMu.kb.but bN hBu (by omega), _, hN.k⟩
    simp (disch := first | with_reducible assumption | omega) only [push_cast, x_blk, x_cd, ↓reduceIte, Nat.reduceEqDiff, List.map_cons, List.map_nil, Int.reduceEq, Int.lt_irrefl, bs_rec tokEnc slT_45 (peekT ts en i1) (by decide), hk]
    have oN := hMu.own hg (by exact bN)
    have kbN := hMu.kb.but bN hBu (by omega)
    have bA : Below wN.heap.size wN (wN.alloc (.cells (peekT ts en i1).cells.toArray 53)) := (Below.refl _ _).alloc (Nat.le_refl _) _
    have hzN := bN.size
    refine ⟨SN, (hS0 _).2 ⟨kbN.below bA kbN.lt, _, hN.k.below bA hN.k.lt⟩, ?_⟩
    refine app_rec tokEnc slT_45 oN (peekT ts en i1) (by omega) (by omega) (by omega) ?_
    intro A2 c2 w3 o3 g3 _ _ z3
    simp (disch := first | with_reducible assumption | omega) only [push_cast, x_blk, x_cd, ↓reduceIte, Nat.reduceEqDiff, List.map_cons, List.map_nil, Int.reduceEq, Int.lt_irrefl, hk]
    have hgA : ∀ b, b ≤ w.heap.size → some b ≠ A1.map (·.block) := fun b hb => by
      cases hA : A1 with
      | none => simp
      | some a => have := hMu.o.geB a hA; simp; omega
    have k3 := hN.k.grown g3.by_ (hgA g (by omega))
    have kb3 := kbN.grown g3.by_ (hgA _ (Nat.le_refl _))
    refine ⟨(hS0 w3).2 ⟨kb3, _, k3⟩, ?_⟩
    refine sto_slice k3 sz_tks (3 + k) (by simp; omega) A2 ((fsel ts of1 k).length + 1) c2 ?_
    intro w4 k4 g4 z4
    refine ⟨fun _ => True, trivial, ?_⟩
    have hT1 : (peekT ts en i1).k = 1 := by unfold isName at hqN; exact of_decide_eq_true hqN
    obtain ⟨hrN, eN⟩ := one_name (k := k) hMu.r (by rw [fstep_name (.inl hn1) hT1, hMu.p])
    have hM4 := hMu.names (X := [peekT ts en i1]) hg hkn hrN eN rfl hN bN o3 g3 k4 g4
    simp (disch := first | with_reducible assumption | omega) only [push_cast, x_blk, x_cd, ↓reduceIte, Nat.reduceEqDiff, List.map_cons, List.map_nil, Int.reduceEq, Int.lt_irrefl]
    exact hE _ _ ⟨_, _, _, _, _, by simp only [push_cast, ↓reduceIte, Nat.reduceEqDiff, true_and, and_true, and_self, eq_self], hM4, by simp only; rw [if_neg (by omega)], fun e => by omega⟩
  clear h1 h2 k2 bb2 b2 hst hq hP1 k1 b1 z1 hr hile hsel hnk hp hn hM
  rintro f w3 ⟨i1, st1, of1, A1, c1, fr, hM, hn1, hm1⟩
  rw [x_sq]
  refine cut (fun f w' => ∃ (i : Nat) (st : FSt) (of : List Int) (A : Option Addr) (c : Nat), f 0 = .pointer (some ⟨g, 0, none⟩) ∧ PM g w.heap.size k ts en At ct nv of0 w w' i st of A c ∧ ((st.next = .m ∧ (peekT ts en i).k ≠ 1) ∨ (st.next = .z ∧ (peekT ts en i).s ≠ comma))) 190000 190000 (by decide) ?_ ?_
  · intro E hE
    simp (disch := first | with_reducible assumption | omega) only [push_cast, x_blk, x_cd, ↓reduceIte, Nat.reduceEqDiff, List.map_cons, List.map_nil, Int.reduceEq, Int.lt_irrefl]
    refine loop_ix (fun n f w' => ∃ (i : Nat) (st : FSt) (of : List Int) (A : Option Addr) (c : Nat), n + i = 5000 ∧ (f 0 = .pointer (some ⟨g, 0, none⟩) ∧ f 3 = .pointer (some ⟨w.heap.size, 0, none⟩)) ∧ PM g w.heap.size k ts en At ct nv of0 w w' i st of A c ∧ ((st.next = .m ∧ (k = 8 → st.names % 3 = 0)) ∨ (st.next = .n ∧ k = 8 ∧ st.names % 3 = 0 ∧ (peekT ts en i).k = 1)))
      (n0 := 5000 - i1) ⟨i1, st1, of1, A1, c1, by have := hM.ile; omega, fr, hM, .inl ⟨hn1, hm1⟩⟩ ?_
    clear fr hM hn1 hm1
    rintro n f w3 ⟨i1, st1, of1, A1, c1, hni, fr, hM, hst⟩ J hJ
    have hile0 := hM.ile
    simp (disch := first | with_reducible assumption | omega) only [push_cast, x_blk, x_cd, ↓reduceIte, Nat.reduceEqDiff, List.map_cons, List.map_nil, Int.reduceEq, Int.lt_irrefl, L_text_parser_part_0, fr]
    refine call_of (text_peek hM.h) ?_
    rintro v w4 ⟨rfl, b4⟩
    have hM3 := hM.below b4
    clear hM
    by_cases hk1 : (peekT ts en i1).k = 1
    case neg =>
      simp (disch := first | with_reducible assumption | omega) only [push_cast, x_blk, x_cd, ↓reduceIte, Nat.reduceEqDiff, List.map_cons, List.map_nil, Int.reduceEq, Int.lt_irrefl, fr, tk_f0, hk1]
      refine hE _ _ ⟨i1, st1, of1, A1, c1, (by simp only [push_cast, ↓reduceIte, Nat.reduceEqDiff, true_and, and_true, and_self, eq_self, fr]), hM3, .inl ⟨?_, hk1⟩⟩
      rcases hst with h | h
      · exact h.1
      · exact absurd h.2.2.2 hk1
    have ek1 := eq_true hk1
    have hnm : st1.next = .n ∨ st1.next = .m := by
      rcases hst with h | h
      · exact .inr h.1
      · exact .inl h.1
    obtain ⟨wX, hwX⟩ : ∃ wX, wX = w4 := ⟨_, rfl⟩
    rw [← hwX] at hM3 ⊢
    have hM := hM3
    clear hM3 hwX
    simp (disch := first | with_reducible assumption | omega) only [push_cast, x_blk, x_cd, ↓reduceIte, Nat.reduceEqDiff, List.map_cons, List.map_nil, Int.reduceEq, Int.lt_irrefl, fr, tk_f0, ek1]
    have hMu := hM.same (Same.refl wX).drew
    have hBu := hMu.kb.lt
    have hle0 := fsel_le ts of1 k
    have htl := hMu.h.le
    have hile := hMu.ile
    generalize hu : wX.drew = u at *
    obtain ⟨S0, hS0⟩ : ∃ S0 : World → Prop, ∀ w', S0 w' ↔ (Blk w' w.heap.size 3 [.int .i64 k] ∧ ∃ j : Int, Blk w' g 49 (pcells At ts.length ct j en (nv.set k (.slice A1 (fsel ts of1 k).length c1)))) := ⟨_, fun _ => Iff.rfl⟩
    have hSu := (hS0 u).2 ⟨hMu.kb, _, hMu.h.k⟩
    refine ⟨S0, hSu, ?_⟩
    have q1 := fun {K : Fr → World → Prop} {f : Fr} {d : Option Nat} => valS_of (P := Tryd.prog) (S := S0) (K := K) (f := f) (d := d) (w := u) (s := Instr.loadAt 3 (.pointer (some ⟨w.heap.size, 0, none⟩))) (v := .int .i64 k) (fun w' hw => by rw [((hS0 w').1 hw).1.int1]; rfl) hSu
    have q2 := fun {K : Fr → World → Prop} {f : Fr} {d : Option Nat} => valS_of (P := Tryd.prog) (S := S0) (K := K) (f := f) (d := d) (w := u) (s := Instr.loadAt 45 (.pointer (some ⟨g, 3 + k, none⟩))) (v := .slice A1 (fsel ts of1 k).length c1) (fun w' hw => by obtain ⟨_, j, hj⟩ := (hS0 w').1 hw; rw [hj.pN hkn]; rfl) hSu
    simp (disch := first | with_reducible assumption | omega) only [push_cast, x_blk, x_cd, ↓reduceIte, Nat.reduceEqDiff, List.map_cons, List.map_nil, Int.reduceEq, Int.lt_irrefl, fr, q1, q2, hk]
    refine call2_of (text_name hMu.h (by omega)) ?_ ?_
    · rintro ch wP ⟨_, hqP, _⟩
      unfold isName at hqP
      exact absurd hk1 (of_decide_eq_false hqP)
    rintro v wN ⟨rfl, hqN, hN, bN⟩
    have SN := (hS0 wN).2 ⟨hMu.kb.but bN hBu (by omega), _, hN.k⟩
    simp (disch := first | with_reducible assumption | omega) only [push_cast, x_blk, x_cd, ↓reduceIte, Nat.reduceEqDiff, List.map_cons, List.map_nil, Int.reduceEq, Int.lt_irrefl, fr, bs_rec tokEnc slT_45 (peekT ts en i1) (by decide), hk]
    have oN := hMu.own hg (by exact bN)
    have kbN := hMu.kb.but bN hBu (by omega)
    have bA : Below wN.heap.size wN (wN.alloc (.cells (peekT ts en i1).cells.toArray 53)) := (Below.refl _ _).alloc (Nat.le_refl _) _
    have hzN := bN.size
    refine ⟨SN, (hS0 _).2 ⟨kbN.below bA kbN.lt, _, hN.k.below bA hN.k.lt⟩, ?_⟩
    refine app_rec tokEnc slT_45 oN (peekT ts en i1) (by omega) (by omega) (by omega) ?_
    intro A2 c2 w3 o3 g3 _ _ z3
    simp (disch := first | with_reducible assumption | omega) only [push_cast, x_blk, x_cd, ↓reduceIte, Nat.reduceEqDiff, List.map_cons, List.map_nil, Int.reduceEq, Int.lt_irrefl, hk]
    have hgA : ∀ b, b ≤ w.heap.size → some b ≠ A1.map (·.block) := fun b hb => by
      cases hA : A1 with
      | none => simp
      | some a => have := hMu.o.geB a hA; simp; omega
    have k3 := hN.k.grown g3.by_ (hgA g (by omega))
    have kb3 := kbN.grown g3.by_ (hgA _ (Nat.le_refl _))
    refine ⟨(hS0 w3).2 ⟨kb3, _, k3⟩, ?_⟩
    refine sto_slice k3 sz_tks (3 + k) (by simp; omega) A2 ((fsel ts of1 k).length + 1) c2 ?_
    intro w4 k4 g4 z4
    refine ⟨fun _ => True, trivial, ?_⟩
    have hT1 : (peekT ts en i1).k = 1 := by unfold isName at hqN; exact of_decide_eq_true hqN
    obtain ⟨hrN, eN⟩ := one_name (k := k) hMu.r (by rw [fstep_name hnm hT1, hMu.p])
    have hM4 := hMu.names (X := [peekT ts en i1]) hg hkn hrN eN rfl hN bN o3 g3 k4 g4
    have hp1 := hM.p
    by_cases hk8 : (k : Int) < 8
    · simp (disch := first | with_reducible assumption | omega) only [push_cast, x_blk, x_cd, ↓reduceIte, Nat.reduceEqDiff, List.map_cons, List.map_nil, Int.reduceEq, Int.lt_irrefl, fr, hM4.kb.int1, hk8]
      refine hJ (n - 1) _ _ ⟨i1 + 1, _, _, _, _, by omega, (by simp only [push_cast, ↓reduceIte, Nat.reduceEqDiff, true_and, and_true, and_self, eq_self, fr]), hM4, .inl ⟨?_, fun e => by omega⟩⟩ (by omega)
      simp only
      rw [if_neg (by omega)]
    have hk8' : k = 8 := by omega
    have hm3 : st1.names % 3 = 0 := by
      rcases hst with h | h
      · exact h.2 hk8'
      · exact h.2.2.1
    simp (disch := first | with_reducible assumption | omega) only [push_cast, x_blk, x_cd, ↓reduceIte, Nat.reduceEqDiff, List.map_cons, List.map_nil, Int.reduceEq, Int.lt_irrefl, fr, hM4.kb.int1, hk8]
    obtain ⟨st2, of2, hst2⟩ : ∃ st2 of2, PM g w.heap.size k ts en At ct nv of0 w w4 (i1 + 1) st2 of2 A2 c2 ∧ st2.next = .n ∧ st2.names = st1.names + 1 := ⟨_, _, hM4, by
      simp only; rw [if_pos hk8', if_pos (by omega)], rfl⟩
    clear hM4 hM hMu q1 q2 hSu hS0 SN hN bN oN kbN bA o3 g3 k3 kb3 k4 g4 hrN eN hgA hT1 hqN hBu hu hnm hst
    obtain ⟨hM, hn2, hnm2⟩ := hst2
    have hm2 : st2.names % 3 = 1 := by omega
    clear hnm2 hm3
    obtain ⟨wX, hwX⟩ : ∃ wX, wX = w4 := ⟨_, rfl⟩
    rw [← hwX] at hM ⊢
    clear hwX hp1
    obtain ⟨of1, ho1⟩ : ∃ of1, of1 = of2 := ⟨_, rfl⟩
    obtain ⟨A1, hA1⟩ : ∃ A1, A1 = A2 := ⟨_, rfl⟩
    obtain ⟨c1, hc1⟩ : ∃ c1, c1 = c2 := ⟨_, rfl⟩
    rw [← ho1, ← hA1, ← hc1] at hM
    clear ho1 hA1 hc1
    have hMu := hM.same (Same.refl wX).drew
    have hBu := hMu.kb.lt
    have hle0 := fsel_le ts of1 k
    have htl := hMu.h.le
    have hile := hMu.ile
    generalize hu : wX.drew = u at *
    obtain ⟨S0, hS0⟩ : ∃ S0 : World → Prop, ∀ w', S0 w' ↔ (Blk w' w.heap.size 3 [.int .i64 k] ∧ ∃ j : Int, Blk w' g 49 (pcells At ts.length ct j en (nv.set k (.slice A1 (fsel ts of1 k).length c1)))) := ⟨_, fun _ => Iff.rfl⟩
    have hSu := (hS0 u).2 ⟨hMu.kb, _, hMu.h.k⟩
    refine ⟨S0, hSu, ?_⟩
    have q1 := fun {K : Fr → World → Prop} {f : Fr} {d : Option Nat} => valS_of (P := Tryd.prog) (S := S0) (K := K) (f := f) (d := d) (w := u) (s := Instr.loadAt 3 (.pointer (some ⟨w.heap.size, 0, none⟩))) (v := .int .i64 k) (fun w' hw => by rw [((hS0 w').1 hw).1.int1]; rfl) hSu
    have q2 := fun {K : Fr → World → Prop} {f : Fr} {d : Option Nat} => valS_of (P := Tryd.prog) (S := S0) (K := K) (f := f) (d := d) (w := u) (s := Instr.loadAt 45 (.pointer (some ⟨g, 3 + k, none⟩))) (v := .slice A1 (fsel ts of1 k).length c1) (fun w' hw => by obtain ⟨_, j, hj⟩ := (hS0 w').1 hw; rw [hj.pN hkn]; rfl) hSu
    simp (disch := first | with_reducible assumption | omega) only [push_cast, x_blk, x_cd, ↓reduceIte, Nat.reduceEqDiff, List.map_cons, List.map_nil, Int.reduceEq, Int.lt_irrefl, fr, q1, q2, hk]
    refine call2_of (text_name hMu.h (by omega)) ?_ ?_
    · rintro ch wP ⟨hch, hqP, bP⟩
      refine hPn _ _ ⟨_, hM.r.fbad (fstep_n (by exact hn2) (by unfold isName at hqP; exact of_decide_eq_false hqP)) (by rw [hM.p]; omega), hch, hMu.b.trans (bP.mono (by omega))⟩
    rintro v wN ⟨rfl, hqN, hN, bN⟩
    have SN := (hS0 wN).2 ⟨hMu.kb.but bN hBu (by omega), _, hN.k⟩
    simp (disch := first | with_reducible assumption | omega) only [push_cast, x_blk, x_cd, ↓reduceIte, Nat.reduceEqDiff, List.map_cons, List.map_nil, Int.reduceEq, Int.lt_irrefl, fr]
    refine ⟨SN, ?_⟩
    have hT1 : (peekT ts en (i1 + 1)).k = 1 := by unfold isName at hqN; exact of_decide_eq_true hqN
    have hs1 : fstep st2 (peekT ts en (i1 + 1)) = some (⟨k, st2.names + 1, .n⟩, (k : Int)) := by
      rw [fstep_name (.inl hn2) hT1, hM.p, if_pos hk8', if_pos (by omega)]
    obtain ⟨hr1, e1⟩ := one_name (k := k) hMu.r hs1
    refine call2_of (text_name hN (by omega)) ?_ ?_
    · rintro ch wP ⟨hch, hqP, bP⟩
      exact hPn _ _ ⟨_, hr1.fbad (fstep_n rfl (by unfold isName at hqP; exact of_decide_eq_false hqP)) (by simp only; omega), hch, hMu.b.trans ((bN.mono (by omega)).trans (bP.mono (by have := bN.size; omega)))⟩
    rintro v wM ⟨rfl, hqM, hNM, bM⟩
    have bNM : But u.heap.size g u wM := bN.trans (bM.mono bN.size)
    have SM := (hS0 wM).2 ⟨hMu.kb.but bNM hBu (by omega), _, hNM.k⟩
    have hT2 : (peekT ts en (i1 + 1 + 1)).k = 1 := by unfold isName at hqM; exact of_decide_eq_true hqM
    have hs2 : fstep ⟨k, st2.names + 1, .n⟩ (peekT ts en (i1 + 1 + 1)) = some (⟨k, st2.names + 2, .z⟩, (k : Int)) := by
      rw [fstep_name (.inl rfl) hT2]
      simp only
      rw [if_pos hk8', if_neg (by omega)]
    obtain ⟨hr2, e2⟩ := two_names (k := k) hMu.r hs1 hs2
    simp (disch := first | with_reducible assumption | omega) only [push_cast, x_blk, x_cd, ↓reduceIte, Nat.reduceEqDiff, List.map_cons, List.map_nil, Int.reduceEq, Int.lt_irrefl, fr, bsl2_tok slT_45 (peekT ts en (i1 + 1)) (peekT ts en (i1 + 1 + 1)), hk]
    have oM := hMu.own hg bNM
    have kbM := hMu.kb.but bNM hBu (by omega)
    have bA : Below wM.heap.size wM (wM.alloc (.cells ((peekT ts en (i1 + 1)).cells ++ (peekT ts en (i1 + 1 + 1)).cells).toArray 53)) := (Below.refl _ _).alloc (Nat.le_refl _) _
    have hzM := bNM.size
    refine ⟨SM, (hS0 _).2 ⟨kbM.below bA kbM.lt, _, hNM.k.below bA hNM.k.lt⟩, ?_⟩
    refine app_2tok slT_45 oM (peekT ts en (i1 + 1)) (peekT ts en (i1 + 1 + 1)) (by omega) (by omega) (by omega) ?_
    intro A2 c2 w3 o3 g3 z3
    simp (disch := first | with_reducible assumption | omega) only [push_cast, x_blk, x_cd, ↓reduceIte, Nat.reduceEqDiff, List.map_cons, List.map_nil, Int.reduceEq, Int.lt_irrefl, hk]
    have hgA : ∀ b, b ≤ w.heap.size → some b ≠ A1.map (·.block) := fun b hb => by
      cases hA : A1 with
      | none => simp
      | some a => have := hMu.o.geB a hA; simp; omega
    have k3 := hNM.k.grown g3.by_ (hgA g (by omega))
    have kb3 := kbM.grown g3.by_ (hgA _ (Nat.le_refl _))
    refine ⟨(hS0 w3).2 ⟨kb3, _, k3⟩, ?_⟩
    refine sto_slice k3 sz_tks (3 + k) (by simp; omega) A2 ((fsel ts of1 k).length + 2) c2 ?_
    intro w4 k4 g4 z4
    refine ⟨fun _ => True, trivial, ?_⟩
    have hM4 := hMu.names (X := [peekT ts en (i1 + 1), peekT ts en (i1 + 1 + 1)]) hg hkn hr2 e2 rfl hNM bNM o3 g3 k4 g4
    clear q1 q2 hSu hS0 SN hN bN kbM bA o3 g3 k3 kb3 k4 g4 hgA hqN hqM hBu hu hM hMu
    have hi3 : i1 + 1 + 2 = i1 + 3 := rfl
    rw [hi3] at hM4
    have hile3 := hM4.ile
    simp (disch := first | with_reducible assumption | omega) only [push_cast, x_blk, x_cd, ↓reduceIte, Nat.reduceEqDiff, List.map_cons, List.map_nil, Int.reduceEq, Int.lt_irrefl, fr]
    refine call_of (text_peek hM4.h) ?_
    rintro v w5 ⟨rfl, b5⟩
    have hM5 := hM4.below b5
    by_cases hcm : (peekT ts en (i1 + 3)).s = comma
    case neg =>
      have hcm' : ((peekT ts en (i1 + 3)).s ≠ ⟨#[44]⟩) = True := eq_true hcm
      simp (disch := first | with_reducible assumption | omega) only [push_cast, x_blk, x_cd, ↓reduceIte, Nat.reduceEqDiff, List.map_cons, List.map_nil, Int.reduceEq, Int.lt_irrefl, fr, tk_f1, bin_strne, hcm']
      exact hE _ _ ⟨_, _, _, _, _, (by simp only [push_cast, ↓reduceIte, Nat.reduceEqDiff, true_and, and_true, and_self, eq_self, fr]), hM5, .inr ⟨rfl, hcm⟩⟩
    have hcm' : ((peekT ts en (i1 + 3)).s ≠ ⟨#[44]⟩) = False := eq_false (fun h => h hcm)
    obtain ⟨hsg, hs3⟩ := fstep_comma (st := ⟨k, st2.names + 2, .z⟩) (peek_ok hTk en (i1 + 3)) rfl hcm
    simp (disch := first | with_reducible assumption | omega) only [push_cast, x_blk, x_cd, ↓reduceIte, Nat.reduceEqDiff, List.map_cons, List.map_nil, Int.reduceEq, Int.lt_irrefl, fr, tk_f1, bin_strne, hcm']
    refine call2_of (text_sign hM5.h (by omega) comma) ?_ ?_
    · rintro ch wP ⟨_, hqP, _⟩
      rw [hsg] at hqP; cases hqP
    rintro v w6 ⟨rfl, _, h6, b6⟩
    have hM6 := hM5.sign hg hs3 rfl h6 b6
    have hile4 := hM6.ile
    simp (disch := first | with_reducible assumption | omega) only [push_cast, x_blk, x_cd, ↓reduceIte, Nat.reduceEqDiff, List.map_cons, List.map_nil, Int.reduceEq, Int.lt_irrefl, fr]
    refine call_of (text_peek hM6.h) ?_
    rintro v w7 ⟨rfl, b7⟩
    have hM7 := hM6.below b7
    simp (disch := first | with_reducible assumption | omega) only [push_cast, x_blk, x_cd, ↓reduceIte, Nat.reduceEqDiff, List.map_cons, List.map_nil, Int.reduceEq, Int.lt_irrefl, fr, tk_f0]
    refine call_of (text_peek hM7.h) ?_
    rintro v w8 ⟨rfl, b8⟩
    have hM8 := hM7.below b8
    simp (disch := first | with_reducible assumption | omega) only [push_cast, x_blk, x_cd, ↓reduceIte, Nat.reduceEqDiff, List.map_cons, List.map_nil, Int.reduceEq, Int.lt_irrefl, fr, tk_f2]
    refine call2_of (text_must (decide ((peekT ts en (i1 + 3 + 1)).k = 1)) 2 (peekT ts en (i1 + 3 + 1)).at_ w8) ?_ ?_
    · rintro ch wP ⟨hch, hqP, sP⟩
      exact hPn _ _ ⟨_, hM8.r.fbad (fstep_n rfl (of_decide_eq_false hqP)) (by simp only; omega), hch, (hM8.same sP).b⟩
    rintro v w9 ⟨rfl, hq9, s9⟩
    have hM9 := hM8.same s9
    simp (disch := first | with_reducible assumption | omega) only [push_cast, x_blk, x_cd, ↓reduceIte, Nat.reduceEqDiff, List.map_cons, List.map_nil, Int.reduceEq, Int.lt_irrefl, fr]
    exact hJ (n - 4) _ _ ⟨i1 + 3 + 1, _, _, _, _, by omega, (by simp only [push_cast, ↓reduceIte, Nat.reduceEqDiff, true_and, and_true, and_self, eq_self, fr]), hM9, .inr ⟨rfl, hk8', by simp only; omega, of_decide_eq_true hq9⟩⟩ (by omega)
  · rintro f w3 ⟨i1, st1, of1, A1, c1, fr, hM, hst⟩
    have hile := hM.ile
    simp (disch := first | with_reducible assumption | omega) only [push_cast, x_blk, x_cd, ↓reduceIte, Nat.reduceEqDiff, List.map_cons, List.map_nil, Int.reduceEq, Int.lt_irrefl, fr]
    have hst' := fstep_semi (peek_ok hTk en i1) hst
    refine call2_of (text_sign hM.h (by omega) semi) ?_ ?_
    · rintro ch wP ⟨hch, hqP, bP⟩
      rw [hqP] at hst'
      exact hPn _ _ ⟨_, hM.r.fbad hst' (by rw [hM.p]; omega), hch, hM.b.trans (bP.mono (Nat.le_of_lt hM.kb.lt))⟩
    rintro v w4 ⟨rfl, hq, h4, b4⟩
    rw [hq, if_pos rfl] at hst'
    obtain ⟨hi, hr4⟩ := hM.r.next hst'
    have e : ∀ j, fsel ts (of1 ++ [-1]) j = fsel ts of1 j := fun j => fsel_neg ts of1 j (by rw [hM.r.len]; exact hi)
    simp (disch := first | with_reducible assumption | omega) only [push_cast, x_blk, x_cd, ↓reduceIte, Nat.reduceEqDiff, List.map_cons, List.map_nil, Int.reduceEq, Int.lt_irrefl, fr]
    exact fin_0 (hQ _ _ ⟨rfl, _, _, _, A1, c1, ⟨hr4, by rw [e]; exact h4, by rw [e]; exact hM.own hg b4, hM.b.trans (b4.mono (Nat.le_of_lt hM.kb.lt)), fun j hj => by rw [e]; exact hM.oth j hj, by simp only; rw [hM.p], rfl⟩⟩)
end Go.Proofs.YtpinjiikiaakaaaDoor
