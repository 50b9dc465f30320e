/-
  Chapter 3: what can be come to: the program's spread, back, Reach, Live: by their contracts.
  Chapter 3: the program's Only, Reach, Live, Trim: by their contracts.
  Chapter 3: the reference's place, places, Reach, Live; chapter 2: its Sort: by their contracts.
-/
import Derived.Test.YtcjinmgieiebbaaDoorZTrim
import Derived.Test.YtcjinmgieiebbaaDoorZDet
import Derived.Test.YtcjinmgieiebbaaDoorZSame
namespace Go.Proofs.YtcjinmgieiebbaaDoor
set_option linter.unusedSimpArgs false
set_option linter.unusedVariables false
set_option linter.unusedSectionVars false
section
open Go.RowKit

theorem e4_set (l : List Int) : tySize Tryd.prog 64 = some (setCells (wordsOf l)).length := by rw [setCells_4]; exact ty_sz_64
theorem bl_set0 {K : Fr → World → Prop} {u : World} {f : Fr} {d : Option Nat} {w : World} : Val1 Tryd.prog K (Instr.build 64 #[]) u f d w = K (updO f d (setV [])) w := bld_of (by kernel_rfl)
/-- Arrows between states. -/
def ArSmall (ar : List Arr) : Prop := ∀ a ∈ ar, (0 ≤ a.frm ∧ a.frm < 256) ∧ (0 ≤ a.to_ ∧ a.to_ < 256)
theorem ArSmall.eds {ar : List Arr} (h : ArSmall ar) (p : Arr → Bool) (rev : Bool) : ∀ e ∈ eds p rev ar, 0 ≤ e.2 ∧ e.2 < 256 := fun e he => by
  obtain ⟨a, ha, _, rfl⟩ := mem_eds.1 he
  cases rev
  · exact (h a ha).2
  · exact (h a ha).1
theorem May.arSmall {m : Mach} (hm : m.May) : ArSmall m.arrows := fun a ha => by
  have h := May.arr hm ha
  have : m.states ≤ 256 := hm.2.1
  have h1 := h.1
  have h2 := h.2.1
  exact ⟨⟨h1.1, by omega⟩, h2.1, by omega⟩
/-- An arrow the other way round. -/
def Arr.back (a : Arr) : Arr := ⟨a.to_, a.evt, a.frm⟩
end

section
open Go.RowKit

structure Mid (lo hi : Nat) (w w' : World) : Prop where
  size : hi ≤ w'.heap.size
  block : ∀ b, lo < b → b < hi → w'.heap[b]? = w.heap[b]?
theorem Mid.start {lo : Nat} {w : World} : Mid lo w.heap.size w w := ⟨Nat.le_refl _, fun _ _ _ => rfl⟩
theorem Mid.below {lo hi : Nat} {w w' w'' : World} (h : Mid lo hi w w') (hb : Below w'.heap.size w' w'') : Mid lo hi w w'' :=
  ⟨Nat.le_trans h.size hb.size, fun b h1 h2 => (hb.block b (Nat.lt_of_lt_of_le h2 h.size)).trans (h.block b h1 h2)⟩
theorem Mid.same {lo hi : Nat} {w w' w'' : World} (h : Mid lo hi w w') (hs : Same w' w'') : Mid lo hi w w'' := h.below (hs.below _)
theorem Mid.grew {lo hi : Nat} {w w' w'' : World} {A : Option Addr} (h : Mid lo hi w w') (hg : Grew w' w'' A) (hA : ∀ a, A = some a → a.block ≤ lo ∨ hi ≤ a.block) : Mid lo hi w w'' :=
  ⟨Nat.le_trans h.size hg.by_.size, fun b h1 h2 => (hg.by_.block b (Nat.lt_of_lt_of_le h2 h.size) (fun e => by
    cases A with
    | none => cases e
    | some a => have e : b = a.block := by simpa using e
                rcases hA a rfl with h3 | h3 <;> omega)).trans (h.block b h1 h2)⟩
theorem Ints.mid {lo hi : Nat} {w w' : World} {A : Option Addr} {l : List Int} (h : Ints (fun b => lo < b ∧ b < hi) w A l) (hm : Mid lo hi w w') : Ints (fun b => lo < b ∧ b < hi) w' A l := h.keep fun b hb => hm.block b hb.1 hb.2
/-- What one owns, newer than a mark. -/
theorem OwnI.between {B e c : Nat} {w : World} {A : Option Addr} {l : List Int} (h : OwnI B e w A c l) {lo : Nat} (hlo : lo < B) : Ints (fun b => lo < b ∧ b < w.heap.size) w A l :=
  ((OwnI.ints h).both (OwnI.ints h).lt).mono fun b hb => ⟨Nat.lt_of_lt_of_le hlo hb.1.1, hb.2⟩

section
variable {P : Program} {K : Fr → World → Prop} {f : Fr} {d : Option Nat} {w : World} {t e bytes : Nat}
end
end

section
open Go.RowKit

section
variable {P : Program} {K : Fr → World → Prop} {u w : World} {f : Fr} {d : Option Nat} {A : Option Addr} {n c B e bytes t : Nat} {xs : List Value}
theorem Own.take {sz : Nat} (h : Own B e sz w A c n xs) {k : Nat} (hk : k ≤ n) (h0 : n = 0 → k = 0) : Own B e sz w A c k (xs.take (k * sz)) := by
  obtain ⟨hl, hh⟩ := h.own
  have hkn : k * sz ≤ n * sz := Nat.mul_le_mul_right _ hk
  refine ⟨⟨by rw [List.length_take]; omega, ?_⟩⟩
  rcases hh with ⟨h1, h2⟩ | ⟨g, cap, cur, hv, hB, hg, hnc, h3, h4, h5⟩
  · injection h1 with h1 h6 h7
    subst h1 h6 h7
    obtain rfl := h0 rfl
    exact .inl ⟨rfl, rfl⟩
  · injection hv with e1 e2 e3
    subst e1 e3
    refine .inr ⟨g, c, cur, rfl, hB, hg, by omega, h3, h4, ?_⟩
    rw [← h5, List.take_take, Nat.min_eq_left hkn]
end
theorem Arrs.lt {ok : Nat → Prop} {w : World} {A : Option Addr} {l : List Arr} (h : Arrs ok w A l) : Arrs (· < w.heap.size) w A l :=
  ⟨h.isSome, fun hl => by
    have := World.block_lt_of_cell? w _ (h.cell 0 hl 0 (by decide))
    rwa [eA_block] at this, h.cell⟩
theorem Rd.below {w w' : World} {A : Option Addr} {xs : List Value} (h : Rd w A xs) (hb : Below w.heap.size w w') : Rd w' A xs := ⟨h.isSome, fun j v hv => below_cell hb (h.cell j v hv)⟩
end
end Go.Proofs.YtcjinmgieiebbaaDoor
