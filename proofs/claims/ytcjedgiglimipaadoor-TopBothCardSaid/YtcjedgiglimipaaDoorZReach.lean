/-
  Chapter 3: what can be come to: the program's spread, back, Reach, Live: by their contracts.
  Chapter 3: the program's Only, Reach, Live, Trim: by their contracts.
  Chapter 3: the reference's place, places, Reach, Live; chapter 2: its Sort: by their contracts.
-/
import Derived.Test.YtcjedgiglimipaaDoorZTrim
import Derived.Test.YtcjedgiglimipaaDoorZDet
import Derived.Test.YtcjedgiglimipaaDoorZSame
namespace Go.Proofs.YtcjedgiglimipaaDoor
set_option linter.unusedSimpArgs false
set_option linter.unusedVariables false
set_option linter.unusedSectionVars false
section
open Go.RowKit

/-- Arrows between states. -/
def ArSmall (ar : List Arr) : Prop := ∀ a ∈ ar, (0 ≤ a.frm ∧ a.frm < 256) ∧ (0 ≤ a.to_ ∧ a.to_ < 256)
theorem ArSmall.eds {ar : List Arr} (h : ArSmall ar) (p : Arr → Bool) (rev : Bool) : ∀ e ∈ eds p rev ar, 0 ≤ e.2 ∧ e.2 < 256 := fun e he => by
  obtain ⟨a, ha, _, rfl⟩ := mem_eds.1 he
  cases rev
  · exact (h a ha).2
  · exact (h a ha).1
/-- An arrow the other way round. -/
def Arr.back (a : Arr) : Arr := ⟨a.to_, a.evt, a.frm⟩
end

section
open Go.RowKit

structure Mid (lo hi : Nat) (w w' : World) : Prop where
  size : hi ≤ w'.heap.size
  block : ∀ b, lo < b → b < hi → w'.heap[b]? = w.heap[b]?
theorem Mid.start {lo : Nat} {w : World} : Mid lo w.heap.size w w := ⟨Nat.le_refl _, fun _ _ _ => rfl⟩
theorem Mid.below {lo hi : Nat} {w w' w'' : World} (h : Mid lo hi w w') (hb : Below w'.heap.size w' w'') : Mid lo hi w w'' :=
  ⟨Nat.le_trans h.size hb.size, fun b h1 h2 => (hb.block b (Nat.lt_of_lt_of_le h2 h.size)).trans (h.block b h1 h2)⟩
theorem Mid.same {lo hi : Nat} {w w' w'' : World} (h : Mid lo hi w w') (hs : Same w' w'') : Mid lo hi w w'' := h.below (hs.below _)
theorem Mid.grew {lo hi : Nat} {w w' w'' : World} {A : Option Addr} (h : Mid lo hi w w') (hg : Grew w' w'' A) (hA : ∀ a, A = some a → a.block ≤ lo ∨ hi ≤ a.block) : Mid lo hi w w'' :=
  ⟨Nat.le_trans h.size hg.by_.size, fun b h1 h2 => (hg.by_.block b (Nat.lt_of_lt_of_le h2 h.size) (fun e => by
    cases A with
    | none => cases e
    | some a => have e : b = a.block := by simpa using e
                rcases hA a rfl with h3 | h3 <;> omega)).trans (h.block b h1 h2)⟩
theorem Ints.mid {lo hi : Nat} {w w' : World} {A : Option Addr} {l : List Int} (h : Ints (fun b => lo < b ∧ b < hi) w A l) (hm : Mid lo hi w w') : Ints (fun b => lo < b ∧ b < hi) w' A l := h.keep fun b hb => hm.block b hb.1 hb.2
/-- What one owns, newer than a mark. -/
theorem OwnI.between {B e c : Nat} {w : World} {A : Option Addr} {l : List Int} (h : OwnI B e w A c l) {lo : Nat} (hlo : lo < B) : Ints (fun b => lo < b ∧ b < w.heap.size) w A l :=
  ((OwnI.ints h).both (OwnI.ints h).lt).mono fun b hb => ⟨Nat.lt_of_lt_of_le hlo hb.1.1, hb.2⟩

section
variable {P : Program} {K : Fr → World → Prop} {f : Fr} {d : Option Nat} {w : World} {t e bytes : Nat}
theorem fill_2i (x y : Value) (a b : Int) : Instr.fill (fun i => some (i * 1, 1)) #[x, y] [(0, .int .i64 a), (1, .int .i64 b)] = some #[.int .i64 a, .int .i64 b] := by
  simp [Instr.fill, Value.cells]
theorem bsl2_eq (hT : SlT P t e 1 bytes) (a b : Int) :
    Eff1 P K (Instr.buildSlice t 2 #[(0, .int .i64 a), (1, .int .i64 b)]) f d w = K (updO f d (.slice (some ⟨w.heap.size, 0, none⟩) 2 2)) (w.alloc (.cells [.int .i64 a, .int .i64 b].toArray e)) := by
  obtain ⟨i, z, hi, hz, hs, hb, hc⟩ := hT.get
  refine eff1_of ?_
  have hz3 : (Array.range 2).map (z.cells[· % z.cells.size]!) = #[z.cells[0 % z.cells.size]!, z.cells[1 % z.cells.size]!] := by
    apply Array.ext'; simp [List.range_succ]
  have hf := fill_2i (z.cells[0 % z.cells.size]!) (z.cells[1 % z.cells.size]!) a b
  rw [← hz3] at hf
  simp only [Instr.buildSlice, run_underlying hT.under, sizeOf, typeInfo, Sem.run_bind, Result.andThen_ok]
  simp only [Nat.mul_one] at hf
  simp [hi, hs, zeroValue, typeInfo, hz, newRow, hf]
theorem ints_new2 (w : World) (a b : Int) (e : Nat) : Ints (· < (w.alloc (.cells [.int .i64 a, .int .i64 b].toArray e)).heap.size) (w.alloc (.cells [.int .i64 a, .int .i64 b].toArray e)) (some ⟨w.heap.size, 0, none⟩) [a, b] :=
  (Ints.of_rd (ok := fun _ => True) (rd_new w [.int .i64 a, .int .i64 b] e) fun _ => trivial).lt
end
theorem max_one (n : Nat) : max (n : Int) 1 = ((max n 1 : Nat) : Int) := by omega

end

section
open Go.RowKit

def atA (x : Arr) : List Arr → Nat
  | [] => 0
  | y :: o => if y.lt x then atA x o + 1 else 0
def insA (x : Arr) (o : List Arr) : List Arr := if atA x o < o.length ∧ o.getD (atA x o) default = x then o else o.take (atA x o) ++ x :: o.drop (atA x o)
def sortA (l : List Arr) : List Arr := l.foldl (fun o x => insA x o) []
theorem sortA_snoc (l : List Arr) (k : Nat) (h : k < l.length) : sortA (l.take (k + 1)) = insA (l.getD k default) (sortA (l.take k)) := by
  unfold sortA
  rw [take_snoc _ default k h, List.foldl_append]; rfl
theorem insA_len (x : Arr) (o : List Arr) : (insA x o).length ≤ o.length + 1 := by
  unfold insA
  split
  · omega
  · simp; omega
theorem sortA_len (l : List Arr) : ∀ k, (sortA (l.take k)).length ≤ k
  | 0 => by simp [sortA]
  | k + 1 => by
    rcases Nat.lt_or_ge k l.length with h | h
    · rw [sortA_snoc l k h]; have := insA_len (l.getD k default) (sortA (l.take k)); have := sortA_len l k; omega
    · rw [List.take_of_length_le (by omega), ← List.take_of_length_le (l := l) (i := k) h]; have := sortA_len l k; omega
section
variable {P : Program} {K : Fr → World → Prop} {u w : World} {f : Fr} {d : Option Nat} {A : Option Addr} {n c B e bytes t : Nat} {xs : List Value}
theorem Own.take {sz : Nat} (h : Own B e sz w A c n xs) {k : Nat} (hk : k ≤ n) (h0 : n = 0 → k = 0) : Own B e sz w A c k (xs.take (k * sz)) := by
  obtain ⟨hl, hh⟩ := h.own
  have hkn : k * sz ≤ n * sz := Nat.mul_le_mul_right _ hk
  refine ⟨⟨by rw [List.length_take]; omega, ?_⟩⟩
  rcases hh with ⟨h1, h2⟩ | ⟨g, cap, cur, hv, hB, hg, hnc, h3, h4, h5⟩
  · injection h1 with h1 h6 h7
    subst h1 h6 h7
    obtain rfl := h0 rfl
    exact .inl ⟨rfl, rfl⟩
  · injection hv with e1 e2 e3
    subst e1 e3
    refine .inr ⟨g, c, cur, rfl, hB, hg, by omega, h3, h4, ?_⟩
    rw [← h5, List.take_take, Nat.min_eq_left hkn]
end
theorem Arrs.lt {ok : Nat → Prop} {w : World} {A : Option Addr} {l : List Arr} (h : Arrs ok w A l) : Arrs (· < w.heap.size) w A l :=
  ⟨h.isSome, fun hl => by
    have := World.block_lt_of_cell? w _ (h.cell 0 hl 0 (by decide))
    rwa [eA_block] at this, h.cell⟩
theorem Rd.below {w w' : World} {A : Option Addr} {xs : List Value} (h : Rd w A xs) (hb : Below w.heap.size w w') : Rd w' A xs := ⟨h.isSome, fun j v hv => below_cell hb (h.cell j v hv)⟩
theorem Rd.tail {w : World} {A : Option Addr} {xs : List Value} {n c k sz : Nat} (h : Rd w A xs) (hs : xs.length = n * sz) (hk : k ≤ n) (hc : n ≤ c) : Rd w (if c = k then A else A.map (·.add (k * sz))) (xs.drop (k * sz)) := by
  have hlt : ∀ j, j < (xs.drop (k * sz)).length → c ≠ k := fun j hj e => by
    rw [List.length_drop, hs] at hj
    have : n = k := by omega
    rw [this] at hj; omega
  refine ⟨fun hl => ?_, fun j v hv => ?_⟩
  · rw [if_neg (hlt 0 hl)]
    have := h.isSome (by rw [List.length_drop] at hl; omega)
    cases A <;> simp_all
  · have hj : j < (xs.drop (k * sz)).length := (List.getElem?_eq_some_iff.1 hv).1
    rw [if_neg (hlt j hj)]
    rw [List.getElem?_drop] at hv
    have hA := h.isSome (by rw [List.length_drop] at hj; omega)
    have := h.cell _ v hv
    cases A with
    | none => cases hA
    | some a => rw [eA_some] at this; rw [Option.map_some, eA_some, add_add, this]
theorem app_rec' {α : Type} {enc : α → List Value} {sz : Nat} {P : Program} {K : Fr → World → Prop} {w : World} {f : Fr} {d : Option Nat} {A : Option Addr} {l : List α} {B e bytes t ty c n : Nat} (E : Enc enc sz) (hT : SlT P t e sz bytes) (hn : l.length = n) (hown : OwnR enc B e sz w A c l) (x : α) (hl : (n + 1) * bytes ≤ 140737488355328) (h63 : n + 1 ≤ 9223372036854775807) (hB : B ≤ w.heap.size)
    (hk : ∀ A' c' w', OwnR enc B e sz w' A' c' (l ++ [x]) → Grew w w' A → (A'.map (·.block) = A.map (·.block) ∨ ∃ g, A'.map (·.block) = some g ∧ w.heap.size ≤ g) → A'.isSome = true → w.heap.size ≤ w'.heap.size → K (updO f d (.slice A' (n + 1) c')) w') :
    Eff1 P K (Builtin.append_ #[t, t] ty #[.slice A n c, .slice (some ⟨w.heap.size, 0, none⟩) 1 1]) f d (w.alloc (.cells (enc x).toArray e)) := by
  subst hn
  exact app_rec E hT hown x hl h63 hB hk

end
end Go.Proofs.YtcjedgiglimipaaDoor
