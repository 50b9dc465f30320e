/-
  Rows of integers of one's own; lists; slices of slices' tails. No program in sight.
  Ways that meet again: a statement may be gone through up to a relation, and what follows once from there. No program in sight.
  A loop whose rounds are told by a number that falls; least numbers. No program in sight.
  New blocks, and variables of several cells. No program in sight.
  Arithmetic of bits: the operators on unsigned words. No program in sight.
  Rows of records (elements of several cells): read, appended to; variables of several cells read in part; built values. No program in sight.
-/
import Derived.Test.YtpinjiikiaakaaaDoorZLaws
import Derived.Laws.Tables
import Derived.Test.YtpinjiikiaakaaaDoorZIr
import Derived.Test.YtpinjiikiaakaaaDoorZTy
import Derived.ProofKit
import Derived.OpenShut
import Derived.Deep.Slices
import Derived.Deep.Fields
import Derived.ChangeSame
import Derived.ChangeOld
import Derived.Lib.SmallJoins
import Derived.SizedLaws
import Derived.KernelRfl
import Derived.RangeFuncNested
import Derived.RangeFuncBox
import Derived.RangeFuncBound
import Derived.RangeFuncCalls
import Derived.RangeFuncLeaves
import Derived.Shelf.Abstract
import Derived.WalkKit
import Derived.OwnWalkIn
import Derived.TacticsInMore
import Derived.LoopNIn
import Derived.LoopIn
import Derived.ChangeKeysEq
namespace Go.Proofs.YtpinjiikiaakaaaDoor
set_option linter.unusedSimpArgs false
set_option linter.unusedVariables false
set_option linter.unusedSectionVars false
section
open Go.RowKit

theorem take_snoc {α : Type} (l : List α) (d : α) (k : Nat) (h : k < l.length) : l.take (k + 1) = l.take k ++ [l.getD k d] := by
  rw [List.take_succ_eq_append_getElem h]
  simp [List.getD_eq_getElem?_getD, h]
theorem getD_map {α β : Type} (g : α → β) (l : List α) (d : α) (e : β) (k : Nat) (h : k < l.length) : (l.map g).getD k e = g (l.getD k d) := by
  simp [List.getD_eq_getElem?_getD, h]
theorem getD_mem {α : Type} (l : List α) (d : α) (k : Nat) (h : k < l.length) : l.getD k d ∈ l := by
  simp [List.getD_eq_getElem?_getD, h]
theorem mem_iff_getD {α : Type} (l : List α) (d x : α) : x ∈ l ↔ ∃ k, k < l.length ∧ l.getD k d = x := by
  constructor
  · intro h
    obtain ⟨k, hk, rfl⟩ := List.getElem_of_mem h
    exact ⟨k, hk, by simp [List.getD_eq_getElem?_getD, hk]⟩
  · rintro ⟨k, hk, rfl⟩; exact getD_mem l d k hk
theorem ext_getD {α : Type} (d : α) {l m : List α} (h : l.length = m.length) (hh : ∀ k, k < l.length → l.getD k d = m.getD k d) : l = m := by
  apply List.ext_getElem h
  intro k h1 h2
  have := hh k h1
  simpa [List.getD_eq_getElem?_getD, h1, h2] using this
theorem getD_set {α : Type} (l : List α) (d x : α) (i k : Nat) (h : i < l.length) : (l.set i x).getD k d = if k = i then x else l.getD k d := by
  simp only [List.getD_eq_getElem?_getD, List.getElem?_set]
  by_cases e : k = i
  · subst e; simp [h]
  · rw [if_neg (fun h => e h.symm), if_neg e]

abbrev iv (l : List Int) : List Value := l.map (Value.int .i64)
abbrev OwnI (B e : Nat) (w : World) (A : Option Addr) (c : Nat) (l : List Int) : Prop := Own B e 1 w A c l.length (iv l)
section
variable {P : Program} {K : Fr → World → Prop} {f : Fr} {d : Option Nat} {u w w' : World} {B e bytes t ty : Nat} {A A2 : Option Addr} {c c2 n : Nat} {l m : List Int} {ok : Nat → Prop}
theorem Ints.rd (h : Ints ok w A l) : Rd w A (iv l) :=
  ⟨fun hl => h.isSome (by simpa using hl), fun j v hv => by
    have hj : j < l.length := by
      rcases Nat.lt_or_ge j l.length with h | h
      · exact h
      · rw [List.getElem?_eq_none (by simpa using h)] at hv; cases hv
    rw [h.cell j hj]
    simp only [List.getElem?_map, List.getElem?_eq_getElem hj, Option.map_some, Option.some.injEq] at hv
    rw [← hv]; simp [List.getD_eq_getElem?_getD, hj]⟩
theorem Ints.of_rd (h : Rd w A (iv l)) (hb : 0 < l.length → ok (A.getD default).block) : Ints ok w A l :=
  ⟨fun hl => h.isSome (by simpa using hl), hb, fun i hi => h.cell i _ (by simp [List.getD_eq_getElem?_getD, hi])⟩
theorem OwnI.ints (h : OwnI B e w A c l) : Ints (fun b => B ≤ b ∧ A.map (·.block) = some b) w A l :=
  Ints.of_rd (h.rd (by decide)) fun hl => by
    have hs := h.isSome hl
    refine ⟨(h.block hs).1, ?_⟩
    cases A with
    | none => cases hs
    | some a => rfl
/-- append(x, v) -/
theorem app_int (hT : SlT P t e 1 8) (hown : OwnI B e w A c l) (x : Int) (hl : l.length + 1 ≤ 17592186044416) (hB : B ≤ w.heap.size)
    (hk : ∀ A' c' w', OwnI B e w' A' c' (l ++ [x]) → Grew w w' A → (A'.map (·.block) = A.map (·.block) ∨ ∃ g, A'.map (·.block) = some g ∧ w.heap.size ≤ g) → A'.isSome = true → w.heap.size ≤ w'.heap.size → K (updO f d (.slice A' (l.length + 1) c')) w') :
    Eff1 P K (Builtin.append_ #[t, t] ty #[.slice A l.length c, .slice (some ⟨w.heap.size, 0, none⟩) 1 1]) f d (w.alloc (.cells [.int .i64 x].toArray e)) := by
  refine append_own hT ty (hown.alloc _) (rd_new w [.int .i64 x] e) rfl (by intro u hu; simp at hu; subst hu; rfl) (by omega) (by omega) (by simp; omega) ?_
  intro A' c' w' ho hg hA hs hz
  have hz' : w.heap.size ≤ w'.heap.size := by have : (w.alloc (.cells [.int .i64 x].toArray e)).heap.size = w.heap.size + 1 := by simp
                                              omega
  refine hk A' c' w' ?_ ⟨⟨hg.by_.os, hg.by_.tape, hg.by_.output, hz', fun k hk hne => ?_⟩⟩ ?_ (hs (by decide)) hz'
  · unfold OwnI; simpa using ho
  · rw [hg.by_.block k (by simp; omega) hne, Below.heap_alloc w _ k hk]
  · rcases hA with h | h
    · exact .inl h
    · exact .inr ⟨_, h, by simp⟩
/-- x[j] = v -/
theorem sto_int (_h1 : tyAgg P ty = some false) (h2 : tySize P ty = some 1) (hown : OwnI B e w A c l) (j : Nat) (hj : j < l.length) (x : Int)
    (hk : ∀ w', OwnI B e w' A c (l.set j x) → Grew w w' A → w'.heap.size = w.heap.size → K (updO f d undef) w') :
    Eff1 P K (do Instr.storeAt ty (.pointer (some (eA A j))) (.int .i64 x); pure undef) f d w := by
  rcases hown.form with ⟨_, h0, _⟩ | ⟨g, rfl, _, hg⟩
  · omega
  · have hs := hown.own.stored j (.int .i64 x)
    have hc := hown.ints.cell j hj
    rw [eA_zero] at hc ⊢
    have hf := hown.own.frozenAt (g := g) j
    refine ⟨undef, w.setCell ⟨g, j, none⟩ (.int .i64 x), ?_, hk _ ?_ ⟨hs.2⟩ (by simp)⟩
    · unfold tySize at h2
      cases hi : P.info? ty with
      | none => simp [hi] at h2
      | some ie =>
        simp only [hi, Option.map_some, Option.some.injEq] at h2
        simp [Instr.storeAt, Instr.sureAddr, storeVar, sizeOf, typeInfo, hi, h2, Value.cells, storeCells, addr_add, run_store_int, stored, hc, hf]
    · refine ⟨?_⟩
      have := hs.1
      rw [List.length_set]
      unfold iv
      rw [List.map_set]
      exact this

theorem v_slice (o : Operand) (lo hi mx : Option Operand) : ValX P K (.slice t o lo hi mx) ty u f d w = Val1 P K (Instr.sliceAt t (ev f o) (lo.map (ev f)) (hi.map (ev f)) (mx.map (ev f))) u f d w := propext Iff.rfl
theorem ext_2_0 (a b : Value) : Val1 P K (Instr.extract (.tuple #[a, b]) 0) u f d w = K (updO f d a) w := ext_tuple u f d w _ 0 (by simp)
theorem ext_2_1 (a b : Value) : Val1 P K (Instr.extract (.tuple #[a, b]) 1) u f d w = K (updO f d b) w := ext_tuple u f d w _ 1 (by simp)
theorem ext_3_0 (a b c : Value) : Val1 P K (Instr.extract (.tuple #[a, b, c]) 0) u f d w = K (updO f d a) w := ext_tuple u f d w _ 0 (by simp)
theorem ext_3_1 (a b c : Value) : Val1 P K (Instr.extract (.tuple #[a, b, c]) 1) u f d w = K (updO f d b) w := ext_tuple u f d w _ 1 (by simp)
theorem ext_3_2 (a b c : Value) : Val1 P K (Instr.extract (.tuple #[a, b, c]) 2) u f d w = K (updO f d c) w := ext_tuple u f d w _ 2 (by simp)
theorem ext_4_0 (x0 x1 x2 x3 : Value) : Val1 P K (Instr.extract (.tuple #[x0, x1, x2, x3]) 0) u f d w = K (updO f d x0) w := ext_tuple u f d w _ 0 (by simp)
theorem ext_4_1 (x0 x1 x2 x3 : Value) : Val1 P K (Instr.extract (.tuple #[x0, x1, x2, x3]) 1) u f d w = K (updO f d x1) w := ext_tuple u f d w _ 1 (by simp)
theorem ext_4_2 (x0 x1 x2 x3 : Value) : Val1 P K (Instr.extract (.tuple #[x0, x1, x2, x3]) 2) u f d w = K (updO f d x2) w := ext_tuple u f d w _ 2 (by simp)
theorem ext_4_3 (x0 x1 x2 x3 : Value) : Val1 P K (Instr.extract (.tuple #[x0, x1, x2, x3]) 3) u f d w = K (updO f d x3) w := ext_tuple u f d w _ 3 (by simp)
end
attribute [push_cast] ext_2_0 ext_2_1 ext_3_0 ext_3_1 ext_3_2 ext_4_0 ext_4_1 ext_4_2 ext_4_3 v_slice Option.map_some Option.map_none
end

section
open Go.RowKit
section
variable {P : Program} {R : Rx} {pn : List PanicEntry → World → Prop}
theorem x_base (n : Nat) (k : List It) (b b' : World) (f : Fr) (w : World) (h : x P R n [] k b f w) : x P R n [] k b' f w := by
  cases n with
  | zero => exact h
  | succ n => cases k with
    | nil => exact h
    | cons i k => cases i <;> exact h
theorem stepI_mono {K K' : Fr → World → Prop} (hK : ∀ f w, K f w → K' f w) : ∀ (i : I) (u : World) (f : Fr) (w : World), stepI P pn K i u f w → stepI P pn K' i u f w
  | .mv _ _, _, _, _, h => hK _ _ h
  | .pick _ _ _ _, _, _, _, ⟨t, ht, h⟩ => ⟨t, ht, hK _ _ h⟩
  | .nilc _ _, _, _, _, ⟨h0, h⟩ => ⟨h0, hK _ _ h⟩
  | .val d o ty, u, f, w, h => by
    have h' : ValX P K o ty u f d w := h
    show ValX P K' o ty u f d w
    unfold ValX at *
    cases hv : valOf (ev f) ty o with
    | none => simp [hv] at h'
    | some s => simp only [hv] at h' ⊢; obtain ⟨v, hr, hk⟩ := h'; exact ⟨v, hr, hK _ _ hk⟩
  | .eff d o ty, _, f, w, h => by
    have h' : EffX P K o ty f d w := h
    show EffX P K' o ty f d w
    unfold EffX at *
    cases hv : valOf (ev f) ty o with
    | none => simp [hv] at h'
    | some s => simp only [hv] at h' ⊢; obtain ⟨v, w', hr, hk⟩ := h'; exact ⟨v, w', hr, hK _ _ hk⟩
  | .call _ _ _, _, _, _, ⟨h0, h⟩ => ⟨h0, h.mono fun _ _ hh => hh.elim (fun ⟨v, he, hk⟩ => .inl ⟨v, he, hK _ _ hk⟩) .inr⟩
  | .pnk _, _, _, _, h => h
  | .callv _ _ _, _, _, _, ⟨g, p, q, hg, h0, h⟩ => ⟨g, p, q, hg, h0, h.mono fun _ _ hh => hh.elim (fun ⟨v, he, hk⟩ => .inl ⟨v, he, hK _ _ hk⟩) .inr⟩
  | .gd s b d i, u, f, w, h => by
    simp only [stepI] at h ⊢
    split
    · rename_i t ht
      simp only [ht] at h
      split
      · rename_i hb; rw [if_pos hb] at h; exact stepI_mono hK i u f w h
      · rename_i hb; rw [if_neg hb] at h; exact hK _ _ h
    · rename_i hne
      split at h
      · rename_i t ht; exact absurd ht (hne t)
      · exact hK _ _ h
  | .adr d o ty, _, f, w, h => by
    simp only [stepI, AdrX] at h ⊢
    split
    · rename_i s hs
      rw [hs] at h
      obtain ⟨v, hr, hk⟩ := h
      exact ⟨v, hr, hK _ _ hk⟩
    · rename_i hs; rw [hs] at h; exact h
  | .q _, _, _, _, h => h.elim
  | .chk, _, _, _, h => h.elim
  | .qx _ _, _, _, _, h => h.elim
  | .chkx _, _, _, _, h => h.elim
  | .rb, _, _, _, h => h.elim
  | .bad, _, _, _, h => h.elim
theorem stepE_mono {P : Program} {K K' : Fr → World → Prop} (hK : ∀ f w, K f w → K' f w) (t : TypeId) : ∀ (i : I) (u : World) (f : Fr) (w : World), stepE P K t i u f w → stepE P K' t i u f w
  | .mv _ _, _, _, _, h => hK _ _ h
  | .pick _ _ _ _, _, _, _, ⟨t, ht, h⟩ => ⟨t, ht, hK _ _ h⟩
  | .nilc _ _, _, _, _, ⟨hn, h⟩ => ⟨hn, hK _ _ h⟩
  | .val d o ty, u, f, w, h => by
    simp only [stepE, ValXE] at h ⊢
    split
    · rename_i s hs
      rw [hs] at h
      obtain ⟨v, hr, hk⟩ := h
      exact ⟨v, hr, hK _ _ hk⟩
    · rename_i hs; rw [hs] at h; exact h
  | .eff _ _ _, _, _, _, h => h.elim
  | .adr _ _ _, _, _, _, h => h.elim
  | .call _ _ _, _, _, _, h => h.elim
  | .callv _ _ _, _, _, _, h => h.elim
  | .pnk _, _, _, _, h => h.elim
  | .gd _ _ _ _, _, _, _, h => h.elim
  | .q _, _, _, _, h => h.elim
  | .chk, _, _, _, h => h.elim
  | .qx _ _, _, _, _, h => h.elim
  | .chkx _, _, _, _, h => h.elim
  | .rb, _, _, _, h => h.elim
  | .bad, _, _, _, h => h.elim
theorem stepS_mono {P : Program} {K K' : Fr → World → Prop} {S : World → Prop} (hK : ∀ f w, K f w → K' f w) : ∀ (i : I) (f : Fr) (w : World), stepS P K S i f w → stepS P K' S i f w
  | .mv _ _, _, _, h => hK _ _ h
  | .pick _ _ _ _, _, _, ⟨t, ht, h⟩ => ⟨t, ht, hK _ _ h⟩
  | .nilc _ _, _, _, ⟨hn, h⟩ => ⟨hn, hK _ _ h⟩
  | .val d o ty, f, w, h => by
    simp only [stepS, ValXS] at h ⊢
    split
    · rename_i s hs
      rw [hs] at h
      obtain ⟨v, hr, hk⟩ := h
      exact ⟨v, hr, hK _ _ hk⟩
    · rename_i hs; rw [hs] at h; exact h
  | .eff _ _ _, _, _, h => h.elim
  | .adr _ _ _, _, _, h => h.elim
  | .call _ _ _, _, _, h => h.elim
  | .callv _ _ _, _, _, h => h.elim
  | .pnk _, _, _, h => h.elim
  | .gd _ _ _ _, _, _, h => h.elim
  | .q _, _, _, h => h.elim
  | .chk, _, _, h => h.elim
  | .qx _ _, _, _, h => h.elim
  | .chkx _, _, _, h => h.elim
  | .rb, _, _, h => h.elim
  | .bad, _, _, h => h.elim
theorem xs_mono {K K' : Fr → World → Prop} (hK : ∀ f w, K f w → K' f w) : ∀ (l : List I) {S : World → Prop} (f : Fr) (w : World), xs P pn S K l f w → xs P pn S K' l f w
  | [], _, f, w, h => hK f w h
  | .rb :: j :: l, _, f, w, h => by
    have hs : ∀ f w, (∃ S' : World → Prop, S' w ∧ xs P pn S' K l f w) → (∃ S' : World → Prop, S' w ∧ xs P pn S' K' l f w) := fun f w ⟨S', h1, h2⟩ => ⟨S', h1, xs_mono hK l f w h2⟩
    exact stepI_mono (pn := pn) hs j w f w h
  | [.rb], _, f, w, h => h.elim
  | i :: l, S, f, w, h => by
    have ih := fun f w => xs_mono hK l (S := S) f w
    have hs : ∀ f w, (S w ∧ xs P pn S K l f w) → (S w ∧ xs P pn S K' l f w) := fun f w hh => ⟨hh.1, ih f w hh.2⟩
    cases i with
    | q i => exact stepS_mono ih i f w h
    | adr d o ty => exact stepI_mono (pn := pn) ih (.adr d o ty) w f w h
    | chk => exact h.elim
    | rb => cases l with
      | nil => exact h.elim
      | cons j l => 
        have hs : ∀ f w, (∃ S' : World → Prop, S' w ∧ xs P pn S' K l f w) → (∃ S' : World → Prop, S' w ∧ xs P pn S' K' l f w) := fun f w ⟨S', h1, h2⟩ => ⟨S', h1, xs_mono hK l f w h2⟩
        exact stepI_mono (pn := pn) hs j w f w h
    | qx t i => exact h.elim
    | chkx t => exact h.elim
    | mv d o => exact hs _ w h
    | pick d c o p => exact stepI_mono (pn := pn) hs (.pick d c o p) w f w h
    | nilc d o => exact stepI_mono (pn := pn) hs (.nilc d o) w f w h
    | val d o ty => exact stepI_mono (pn := pn) hs (.val d o ty) w f w h
    | eff d o ty => exact stepI_mono (pn := pn) hs (.eff d o ty) w f w h
    | call d g args => exact stepI_mono (pn := pn) hs (.call d g args) w f w h
    | callv d g args => exact stepI_mono (pn := pn) hs (.callv d g args) w f w h
    | pnk o => exact stepI_mono (pn := pn) hs (.pnk o) w f w h
    | gd s bb d i => exact stepI_mono (pn := pn) hs (.gd s bb d i) w f w h
    | bad => exact h.elim
/-- A look at what S keeps. -/
theorem valS_of {S : World → Prop} {K : Fr → World → Prop} {s : Sem Value} {v : Value} {f : Fr} {d : Option Nat} {w : World} (h : ∀ w', S w' → Val1 P (fun f' _ => f' 0 = v) s w' f (some 0) w') (hs : S w) : ValS P K S s f d w = K (updO f d v) w := by
  refine propext ⟨fun ⟨v', hr, hk⟩ => ?_, fun hk => ⟨v, fun w' hw' => ?_, hk⟩⟩
  · obtain ⟨v2, hr2, hv⟩ := h w hs
    have := hr w hs
    rw [hr2 w (Below.refl _ _)] at this
    injection this with this
    have hv' : v2 = v := hv
    rw [← this, hv'] at hk
    exact hk
  · obtain ⟨v2, hr2, hv⟩ := h w' hw'
    have hv' : v2 = v := hv
    rw [← hv']
    exact hr2 w' (Below.refl _ _)
theorem popTo_cut (id : Nat) (E : Fr → World → Prop) (k2 : List It) : ∀ (k1 : List It) (k' : List It), popTo id (k1 ++ .lp E :: k2) = some k' →
    (∃ k3, k' = k3 ++ .lp E :: k2 ∧ popTo id (k1 ++ k2) = some (k3 ++ k2)) ∨ popTo id (k1 ++ k2) = some k'
  | [], k', h => .inr (by simpa [popTo] using h)
  | .c _ :: k1, k', h => popTo_cut id E k2 k1 k' h
  | .lp _ :: k1, k', h => popTo_cut id E k2 k1 k' h
  | .sc :: k1, k', h => popTo_cut id E k2 k1 k' h
  | .t _ _ :: k1, k', h => popTo_cut id E k2 k1 k' h
  | .tn _ :: k1, k', h => popTo_cut id E k2 k1 k' h
  | .bl j :: k1, k', h => by
    simp only [List.cons_append, popTo] at h ⊢
    by_cases hj : id = j
    · rw [if_pos hj] at h ⊢
      injection h with h
      exact .inl ⟨k1, h.symm, rfl⟩
    · rw [if_neg hj] at h ⊢
      exact popTo_cut id E k2 k1 k' h
theorem x_fuel : ∀ (n : Nat) (l : List I) (k : List It) (b : World) (f : Fr) (w : World), x P R n l k b f w → x P R (n + 1) l k b f w
  | 0, _, _, _, _, _, h => h.elim
  | n + 1, [], [], _, _, _, h => h
  | n + 1, [], .bl _ :: k, _, f, w, h => x_fuel n [] k w f w h
  | n + 1, [], .sc :: k, _, f, w, h => x_fuel n [] k w f w h
  | n + 1, [], .lp _ :: _, _, _, _, h => h
  | n + 1, [], .t b0 t :: k, b, f, w, h => by
    cases t with
    | nil => exact x_fuel n [] k w f w h
    | q i t => exact x_fuel n [.q i] (.t b0 t :: k) b0 f w h
    | act i t => exact x_fuel n [i, .chk] (.t b0 t :: k) b0 f w h
    | cut i t => exact x_fuel n [i] (.tn t :: k) b0 f w h
    | two t u =>
      have h' : x P R n [] (.t b0 t :: k) b0 f w ∧ x P R n [] (.t b0 u :: k) b0 f w := h
      exact ⟨x_fuel n [] (.t b0 t :: k) b0 f w h'.1, x_fuel n [] (.t b0 u :: k) b0 f w h'.2⟩
  | n + 1, [], .tn t :: k, _, f, w, h => x_fuel n [] (.t w t :: k) w f w h
  | n + 1, [], .c c :: k, b, f, w, h => by
    cases c with
    | sk => exact x_fuel n [] k w f w h
    | sq a d => exact x_fuel n [] (.c a :: .c d :: k) w f w h
    | op l => exact x_fuel n l k w f w h
    | dr l => exact x_fuel n l k w.drew f w.drew h
    | drt t => exact x_fuel n [] (.t w.drew t :: k) w.drew f w.drew h
    | drz l =>
      obtain ⟨S, hS, h'⟩ := h
      exact ⟨S, hS, xs_mono (fun f' w' hh => x_fuel n [] k w' f' w' hh) l f w.drew h'⟩
    | cd c a d =>
      obtain ⟨t, ht, hh⟩ := h
      refine ⟨t, ht, ?_⟩
      cases t
      · exact x_fuel n [] (.c d :: k) w f w hh
      · exact x_fuel n [] (.c a :: k) w f w hh
    | bl id c => exact x_fuel n [] (.c c :: .bl id :: k) w f w h
    | lo c =>
      obtain ⟨J, μ, h0, hr⟩ := h
      exact ⟨J, μ, h0, fun f' w' hJ => x_fuel n _ _ w' f' w' (hr f' w' hJ)⟩
    | ex id =>
      have h' : (match popTo id k with | some k' => x P R n [] k' w f w | none => False) := h
      show (match popTo id k with | some k' => x P R (n + 1) [] k' w f w | none => False)
      cases hp : popTo id k with
      | none => rw [hp] at h'; exact h'.elim
      | some k' => rw [hp] at h'; exact x_fuel n [] k' w f w h'
    | sc c => exact x_fuel n [] (.c c :: .sc :: k) w f w h
    | rt => exact h
    | rf _ _ _ _ => exact h.elim
    | bad => exact h.elim
  | n + 1, i :: l, k, b, f, w, h => by
    cases i with
    | q i => exact stepI_mono (fun f w hh => x_fuel n l k b f w hh) i b f w h
    | chk => exact ⟨h.1, x_fuel n l k b f w h.2⟩
    | qx t i => exact stepE_mono (fun f w hh => x_fuel n l k b f w hh) t i b f w h
    | chkx t => exact ⟨h.1, x_fuel n l k b f w h.2⟩
    | rb => exact x_fuel n l k w f w h
    | mv d o => exact x_fuel n l k b _ w h
    | pick d c o p => exact stepI_mono (fun f w hh => x_fuel n l k b f w hh) (.pick d c o p) w f w h
    | nilc d o => exact stepI_mono (fun f w hh => x_fuel n l k b f w hh) (.nilc d o) w f w h
    | val d o ty => exact stepI_mono (fun f w hh => x_fuel n l k b f w hh) (.val d o ty) w f w h
    | adr d o ty => exact stepI_mono (fun f w hh => x_fuel n l k b f w hh) (.adr d o ty) w f w h
    | eff d o ty => exact stepI_mono (fun f w hh => x_fuel n l k b f w hh) (.eff d o ty) w f w h
    | call d g args => exact stepI_mono (fun f w hh => x_fuel n l k b f w hh) (.call d g args) w f w h
    | callv d g args => exact stepI_mono (fun f w hh => x_fuel n l k b f w hh) (.callv d g args) w f w h
    | pnk o => exact stepI_mono (fun f w hh => x_fuel n l k b f w hh) (.pnk o) w f w h
    | gd s bb d i => exact stepI_mono (fun f w hh => x_fuel n l k b f w hh) (.gd s bb d i) w f w h
    | bad => exact h.elim
theorem x_more {n m : Nat} (h : n ≤ m) {l : List I} {k : List It} {b : World} {f : Fr} {w : World} (hx : x P R n l k b f w) : x P R m l k b f w := by
  obtain ⟨d, rfl⟩ := Nat.le.dest h
  clear h
  induction d with
  | zero => exact hx
  | succ d ih => exact x_fuel _ _ _ _ _ _ ih
theorem x_cut (E : Fr → World → Prop) (m : Nat) (k2 : List It) (hE : ∀ f w, E f w → x P R m [] k2 w f w) : ∀ (n : Nat) (l : List I) (k1 : List It) (b : World) (f : Fr) (w : World),
    x P R n l (k1 ++ .lp E :: k2) b f w → x P R (n + m) l (k1 ++ k2) b f w
  | 0, _, _, _, _, _, h => h.elim
  | n + 1, [], [], b, f, w, h => x_more (by omega) (x_base _ _ _ b _ _ (hE f w h))
  | n + 1, [], .bl _ :: k, _, f, w, h => by rw [show n + 1 + m = n + m + 1 by omega]; exact x_cut E m k2 hE n [] k w f w h
  | n + 1, [], .sc :: k, _, f, w, h => by rw [show n + 1 + m = n + m + 1 by omega]; exact x_cut E m k2 hE n [] k w f w h
  | n + 1, [], .lp _ :: _, _, _, _, h => by rw [show n + 1 + m = n + m + 1 by omega]; exact h
  | n + 1, [], .t b0 t :: k, b, f, w, h => by
    rw [show n + 1 + m = n + m + 1 by omega]
    cases t with
    | nil => exact x_cut E m k2 hE n [] k w f w h
    | q i t => exact x_cut E m k2 hE n [.q i] (.t b0 t :: k) b0 f w h
    | act i t => exact x_cut E m k2 hE n [i, .chk] (.t b0 t :: k) b0 f w h
    | cut i t => exact x_cut E m k2 hE n [i] (.tn t :: k) b0 f w h
    | two t u =>
      have h' : x P R n [] (.t b0 t :: (k ++ .lp E :: k2)) b0 f w ∧ x P R n [] (.t b0 u :: (k ++ .lp E :: k2)) b0 f w := h
      exact ⟨x_cut E m k2 hE n [] (.t b0 t :: k) b0 f w h'.1, x_cut E m k2 hE n [] (.t b0 u :: k) b0 f w h'.2⟩
  | n + 1, [], .tn t :: k, _, f, w, h => by rw [show n + 1 + m = n + m + 1 by omega]; exact x_cut E m k2 hE n [] (.t w t :: k) w f w h
  | n + 1, [], .c c :: k, b, f, w, h => by
    rw [show n + 1 + m = n + m + 1 by omega]
    cases c with
    | sk => exact x_cut E m k2 hE n [] k w f w h
    | sq a d => exact x_cut E m k2 hE n [] (.c a :: .c d :: k) w f w h
    | op l => exact x_cut E m k2 hE n l k w f w h
    | dr l => exact x_cut E m k2 hE n l k w.drew f w.drew h
    | drt t => exact x_cut E m k2 hE n [] (.t w.drew t :: k) w.drew f w.drew h
    | drz l =>
      obtain ⟨S, hS, h'⟩ := h
      exact ⟨S, hS, xs_mono (fun f' w' hh => x_cut E m k2 hE n [] k w' f' w' hh) l f w.drew h'⟩
    | cd c a d =>
      obtain ⟨t, ht, hh⟩ := h
      refine ⟨t, ht, ?_⟩
      cases t
      · exact x_cut E m k2 hE n [] (.c d :: k) w f w hh
      · exact x_cut E m k2 hE n [] (.c a :: k) w f w hh
    | bl id c => exact x_cut E m k2 hE n [] (.c c :: .bl id :: k) w f w h
    | lo c =>
      obtain ⟨J, μ, h0, hr⟩ := h
      exact ⟨J, μ, h0, fun f' w' hJ => x_cut E m k2 hE n [] (.c c :: .lp _ :: k) w' f' w' (hr f' w' hJ)⟩
    | ex id =>
      have h' : (match popTo id (k ++ .lp E :: k2) with | some k' => x P R n [] k' w f w | none => False) := h
      show (match popTo id (k ++ k2) with | some k' => x P R (n + m) [] k' w f w | none => False)
      cases hp : popTo id (k ++ .lp E :: k2) with
      | none => rw [hp] at h'; exact h'.elim
      | some k' =>
        rw [hp] at h'
        rcases popTo_cut id E k2 k k' hp with ⟨k3, rfl, h3⟩ | h3
        · rw [h3]; exact x_cut E m k2 hE n [] k3 w f w h'
        · rw [h3]; exact x_more (by omega) h'
    | sc c => exact x_cut E m k2 hE n [] (.c c :: .sc :: k) w f w h
    | rt => exact h
    | rf _ _ _ _ => exact h.elim
    | bad => exact h.elim
  | n + 1, i :: l, k, b, f, w, h => by
    rw [show n + 1 + m = n + m + 1 by omega]
    have K : ∀ f w, x P R n l (k ++ .lp E :: k2) b f w → x P R (n + m) l (k ++ k2) b f w := fun f w hh => x_cut E m k2 hE n l k b f w hh
    cases i with
    | q i => exact stepI_mono K i b f w h
    | chk => exact ⟨h.1, K f w h.2⟩
    | qx t i => exact stepE_mono K t i b f w h
    | chkx t => exact ⟨h.1, K f w h.2⟩
    | rb => exact x_cut E m k2 hE n l k w f w h
    | mv d o => exact K _ w h
    | pick d c o p => exact stepI_mono K (.pick d c o p) w f w h
    | nilc d o => exact stepI_mono K (.nilc d o) w f w h
    | val d o ty => exact stepI_mono K (.val d o ty) w f w h
    | adr d o ty => exact stepI_mono K (.adr d o ty) w f w h
    | eff d o ty => exact stepI_mono K (.eff d o ty) w f w h
    | call d g args => exact stepI_mono K (.call d g args) w f w h
    | callv d g args => exact stepI_mono K (.callv d g args) w f w h
    | pnk o => exact stepI_mono K (.pnk o) w f w h
    | gd s bb d i => exact stepI_mono K (.gd s bb d i) w f w h
    | bad => exact h.elim
/-- Go through the next statement up to the relation E, and on from there once. -/
theorem cut (E : Fr → World → Prop) (n m : Nat) {N : Nat} (hN : n + m ≤ N) {c : C} {k : List It} {b : World} {f : Fr} {w : World}
    (h1 : ∀ E' : Fr → World → Prop, (∀ f w, E f w → E' f w) → x P R n [] (.c c :: .lp E' :: k) w f w) (h2 : ∀ f w, E f w → x P R m [] k w f w) : x P R N [] (.c c :: k) b f w :=
  x_more hN (x_base _ _ _ b _ _ (x_cut E m k h2 n [] [.c c] w f w (h1 E fun _ _ h => h)))
/-- .. and a region whose acts come up in more than one order, up to the relation E, and on from there once. -/
theorem cutT (E : Fr → World → Prop) (n m : Nat) {N : Nat} (hN : n + m ≤ N) {b0 : World} {t : T} {k : List It} {b : World} {f : Fr} {w : World}
    (h1 : ∀ E' : Fr → World → Prop, (∀ f w, E f w → E' f w) → x P R n [] (.t b0 t :: .lp E' :: k) b f w) (h2 : ∀ f w, E f w → x P R m [] k w f w) : x P R N [] (.t b0 t :: k) b f w :=
  x_more hN (x_cut E m k h2 n [] [.t b0 t] b f w (h1 E fun _ _ h => h))
end
end

section
open Go.RowKit

theorem least_of {p : Nat → Prop} (h : ∃ n, p n) : ∃ n, p n ∧ ∀ k, p k → n ≤ k := by
  obtain ⟨n, hn⟩ := h
  induction n using Nat.strongRecOn with
  | _ n ih =>
    by_cases hx : ∃ k, k < n ∧ p k
    · obtain ⟨k, hk, hp⟩ := hx
      exact ih k hk hp
    · exact ⟨n, hn, fun k hk => by
        rcases Nat.lt_or_ge k n with h | h
        · exact absurd ⟨k, h, hk⟩ hx
        · exact h⟩
/-- A loop whose rounds are told by a number that falls. -/
theorem loop_ix {X : List I → List It → World → Fr → World → Prop} {c : C} {k : List It} {f : Fr} {w : World} (I : Nat → Fr → World → Prop) {n0 : Nat} (h0 : I n0 f w)
    (h : ∀ n f w, I n f w → ∀ J : Fr → World → Prop, (∀ n' f' w', I n' f' w' → n' < n → J f' w') → X [] (.c c :: .lp J :: k) w f w) : LoopX X c k f w := by
  have hm : ∀ f w, ∃ n, (∃ n, I n f w) → I n f w ∧ ∀ k, I k f w → n ≤ k := fun f w => by
    by_cases hx : ∃ n, I n f w
    · obtain ⟨n, hn⟩ := least_of hx
      exact ⟨n, fun _ => hn⟩
    · exact ⟨0, fun h => absurd h hx⟩
  refine loop_rule (fun f w => ∃ n, I n f w) (fun f w => Classical.choose (hm f w)) ⟨n0, h0⟩ ?_
  intro f w hx J hJ
  refine h _ f w (Classical.choose_spec (hm f w) hx).1 J fun n' f' w' hi hn => hJ f' w' ⟨n', hi⟩ ?_
  exact Nat.lt_of_le_of_lt ((Classical.choose_spec (hm f' w') ⟨n', hi⟩).2 n' hi) hn
end

section
open Go.RowKit

section
variable {P : Program} {K : Fr → World → Prop} {f : Fr} {d : Option Nat} {u w w' : World} {g : Nat} {t ty : TypeId} {cs old : List Value}
theorem blk_of {s : Sem Value} {v : Value} (he : Eff1 P K s f d w = K (updO f d v) (w.alloc (.cells cs.toArray t)))
    (h : ∀ w', Blk w' w.heap.size t cs → Below w.heap.size w w' → w'.heap.size = w.heap.size + 1 → K (updO f d v) w') : Eff1 P K s f d w := by
  rw [he]
  exact h _ (Blk.new w t cs) ((Below.refl _ _).alloc (Nat.le_refl _) _) (by simp)
theorem box_agg (t : TypeId) (cs : List Value) : Eff1 P K (Instr.box t (.agg cs.toArray)) f d w = K (updO f d (.pointer (some ⟨w.heap.size, 0, none⟩))) (w.alloc (.cells cs.toArray t)) := box_eq t _
/-- v = x, of several cells -/
theorem sto_blk (hk : Blk w g t old) (hty : tySize P ty = some cs.length) (ho : old.length = cs.length) (h1 : cs.all (·.oneCell') = true)
    (h : ∀ w', Blk w' g t cs → Grew w w' (some ⟨g, 0, none⟩) → w'.heap.size = w.heap.size → K (updO f d undef) w') :
    Eff1 P K (do Instr.storeAt ty (.pointer (some ⟨g, 0, none⟩)) (.agg cs.toArray); pure undef) f d w := by
  have hr := run_storeVar_row (P := P) w g t ty old.toArray cs.toArray hk (by simpa [tySize] using hty) (by simpa using ho) (by simpa using h1)
  have hs : (w.setRow g cs.toArray).heap.size = w.heap.size := by simp [World.setRow]
  refine ⟨undef, w.setRow g cs.toArray, ?_, h _ ?_ ⟨⟨rfl, rfl, rfl, by rw [hs]; exact Nat.le_refl _, fun k hk hne => ?_⟩⟩ hs⟩
  · simp [Instr.storeAt, Instr.sureAddr, hr]
  · exact setRow_heap w g _ _ _ _ hk
  · exact setRow_other w g k _ (by simpa using hne)
theorem drawn {B : Nat} (h : Below B w w') : Below B w w'.drew := ⟨h.os, h.tape, h.output, h.size, h.block⟩
theorem fill_3 (x y z : Value) (a b c : Int) : Instr.fill (fun i => some (i * 1, 1)) #[x, y, z] [(0, .int .i64 a), (1, .int .i64 b), (2, .int .i64 c)] = some #[.int .i64 a, .int .i64 b, .int .i64 c] := by
  simp [Instr.fill, Value.cells]
theorem bsl3_eq {e bytes : Nat} (hT : SlT P t e 1 bytes) (a b c : Int) :
    Eff1 P K (Instr.buildSlice t 3 #[(0, .int .i64 a), (1, .int .i64 b), (2, .int .i64 c)]) f d w = K (updO f d (.slice (some ⟨w.heap.size, 0, none⟩) 3 3)) (w.alloc (.cells [.int .i64 a, .int .i64 b, .int .i64 c].toArray e)) := by
  obtain ⟨i, z, hi, hz, hs, hb, hc⟩ := hT.get
  refine eff1_of ?_
  have hz3 : (Array.range 3).map (z.cells[· % z.cells.size]!) = #[z.cells[0 % z.cells.size]!, z.cells[1 % z.cells.size]!, z.cells[2 % z.cells.size]!] := by
    apply Array.ext'; simp [List.range_succ]
  have hf := fill_3 (z.cells[0 % z.cells.size]!) (z.cells[1 % z.cells.size]!) (z.cells[2 % z.cells.size]!) a b c
  rw [← hz3] at hf
  simp only [Instr.buildSlice, run_underlying hT.under, sizeOf, typeInfo, Sem.run_bind, Result.andThen_ok]
  simp only [Nat.mul_one] at hf
  simp [hi, hs, zeroValue, typeInfo, hz, newRow, hf]
def arrCells (a : Arr) : List Value := [.int .i64 a.frm, .int .i64 a.evt, .int .i64 a.to_]
abbrev arrVal (a : Arr) : Value := .agg (arrCells a).toArray
theorem Arrs.ldA {ok : Nat → Prop} {A : Option Addr} {l : List Arr} (h : Arrs ok u A l) (ht : tyAgg P ty = some true) (hs : tySize P ty = some 3) (i : Nat) (hi : i < l.length) :
    Val1 P K (Instr.loadAt ty (.pointer (some (eA A (i * 3))))) u f d w = K (updO f d (arrVal (l.getD i default))) w :=
  load_agg_of ht hs rfl fun j v hv => by
    have hj : j < 3 := by
      rcases Nat.lt_or_ge j 3 with h | h
      · exact h
      · rw [List.getElem?_eq_none (by simpa [arrCells] using h)] at hv; cases hv
    have hc := h.cell i hi j hj
    have hA := h.isSome (by omega)
    cases A with
    | none => cases hA
    | some a =>
      rw [eA_some] at hc ⊢
      rw [add_add, hc]
      match j, hj with
      | 0, _ => simpa [arrCells, Arr.cell] using hv
      | 1, _ => simpa [arrCells, Arr.cell] using hv
      | 2, _ => simpa [arrCells, Arr.cell] using hv
theorem Blk.a0 {a : Arr} (h : Blk u g t (arrCells a)) (ht : tyAgg P ty = some false) : Val1 P K (Instr.loadAt ty (.pointer (some ⟨g, 0, none⟩))) u f d w = K (updO f d (.int .i64 a.frm)) w := h.ld ht 0 (by simp [arrCells])
theorem Blk.a1 {a : Arr} (h : Blk u g t (arrCells a)) (ht : tyAgg P ty = some false) : Val1 P K (Instr.loadAt ty (.pointer (some ⟨g, 1, none⟩))) u f d w = K (updO f d (.int .i64 a.evt)) w := h.ld ht 1 (by simp [arrCells])
theorem Blk.a2 {a : Arr} (h : Blk u g t (arrCells a)) (ht : tyAgg P ty = some false) : Val1 P K (Instr.loadAt ty (.pointer (some ⟨g, 2, none⟩))) u f d w = K (updO f d (.int .i64 a.to_)) w := h.ld ht 2 (by simp [arrCells])
theorem Blk.aA {a : Arr} (h : Blk u g t (arrCells a)) (ht : tyAgg P ty = some true) (hs : tySize P ty = some 3) : Val1 P K (Instr.loadAt ty (.pointer (some ⟨g, 0, none⟩))) u f d w = K (updO f d (arrVal a)) w := h.ldAll ht hs
theorem Blk.m0 {a : MV} {m : Mach} (h : Blk u g t (a.cells m)) (ht : tyAgg P ty = some false) : Val1 P K (Instr.loadAt ty (.pointer (some ⟨g, 0, none⟩))) u f d w = K (updO f d (.int .i64 m.states)) w := h.ld ht 0 (by simp)
theorem Blk.m1 {a : MV} {m : Mach} (h : Blk u g t (a.cells m)) (ht : tyAgg P ty = some false) : Val1 P K (Instr.loadAt ty (.pointer (some ⟨g, 1, none⟩))) u f d w = K (updO f d (.int .i64 m.events)) w := h.ld ht 1 (by simp)
theorem Blk.m2 {a : MV} {m : Mach} (h : Blk u g t (a.cells m)) (ht : tyAgg P ty = some false) : Val1 P K (Instr.loadAt ty (.pointer (some ⟨g, 2, none⟩))) u f d w = K (updO f d (.slice a.As m.starts.length a.cs)) w := h.ld ht 2 (by simp)
theorem Blk.m3 {a : MV} {m : Mach} (h : Blk u g t (a.cells m)) (ht : tyAgg P ty = some false) : Val1 P K (Instr.loadAt ty (.pointer (some ⟨g, 3, none⟩))) u f d w = K (updO f d (.slice a.Aa m.arrows.length a.ca)) w := h.ld ht 3 (by simp)
theorem Blk.m4 {a : MV} {m : Mach} (h : Blk u g t (a.cells m)) (ht : tyAgg P ty = some false) : Val1 P K (Instr.loadAt ty (.pointer (some ⟨g, 4, none⟩))) u f d w = K (updO f d (.slice a.Ae m.ends.length a.ce)) w := h.ld ht 4 (by simp)
theorem Blk.mA {a : MV} {m : Mach} (h : Blk u g t (a.cells m)) (ht : tyAgg P ty = some true) (hs : tySize P ty = some 5) : Val1 P K (Instr.loadAt ty (.pointer (some ⟨g, 0, none⟩))) u f d w = K (updO f d (a.val m)) w := h.ldAll ht hs
end
attribute [push_cast] Nat.zero_add List.getD_cons_zero List.getD_cons_succ
end

section
open Go.RowKit

section
variable {P : Program} {K : Fr → World → Prop} {u : World} {f : Fr} {d : Option Nat} {w w' : World} {t ty g : Nat} {xo yo : Operand}
theorem wrap_i64 (n : Int) (h0 : -9223372036854775808 ≤ n) (h1 : n ≤ 9223372036854775807) : IntKind.i64.wrap n = n := IntWalk.i64_in _ ⟨h0, h1⟩
/-- one cell of a block -/
theorem sto_cell {cs : List Value} (hk : Blk w g t cs) (hty : tySize P ty = some 1) (j : Nat) (hj : j < cs.length) (k : IntKind) (x : Int)
    (h : ∀ w', Blk w' g t (cs.set j (.int k x)) → Grew w w' (some ⟨g, 0, none⟩) → w'.heap.size = w.heap.size → K (updO f d undef) w') :
    Eff1 P K (do Instr.storeAt ty (.pointer (some ⟨g, j, none⟩)) (.int k x); pure undef) f d w := by
  have hc := hk.cell j
  have hf := hk.frozen j
  refine ⟨undef, w.setCell ⟨g, j, none⟩ (.int k x), ?_, h _ (hk.set j _) ⟨⟨rfl, rfl, rfl, by simp, fun _ hk' hne => Below.heap_setCell w _ _ _ (by simpa using hne)⟩⟩ (by simp)⟩
  unfold tySize at hty
  cases hi : P.info? ty with
  | none => simp [hi] at hty
  | some ie =>
    simp only [hi, Option.map_some, Option.some.injEq] at hty
    rw [List.getElem?_eq_getElem hj] at hc
    simp [Instr.storeAt, Instr.sureAddr, storeVar, sizeOf, typeInfo, hi, hty, Value.cells, storeCells, addr_add, run_store_int, stored, hc, hf]
end
end

section
open Go.RowKit

/-- How an element lies in its cells. -/
structure Enc {α : Type} (enc : α → List Value) (sz : Nat) : Prop where
  len : ∀ a, (enc a).length = sz
  one : ∀ a, ∀ u ∈ enc a, u.oneCell' = true
theorem flatMap_at {α : Type} {enc : α → List Value} {sz : Nat} (E : Enc enc sz) : ∀ (l : List α) (i : Nat) (a : α) (j : Nat), l[i]? = some a → j < sz → (l.flatMap enc)[i * sz + j]? = (enc a)[j]?
  | [], i, a, j, h, _ => by simp at h
  | b :: l, 0, a, j, h, hj => by
    simp only [List.getElem?_cons_zero, Option.some.injEq] at h
    subst h
    rw [List.flatMap_cons, Nat.zero_mul, Nat.zero_add, List.getElem?_append_left (by rw [E.len]; exact hj)]
  | b :: l, i + 1, a, j, h, hj => by
    simp only [List.getElem?_cons_succ] at h
    rw [List.flatMap_cons, List.getElem?_append_right (by rw [E.len, Nat.succ_mul]; omega), E.len, show (i + 1) * sz + j - sz = i * sz + j by rw [Nat.succ_mul]; omega]
    exact flatMap_at E l i a j h hj
theorem flatMap_len {α : Type} {enc : α → List Value} {sz : Nat} (E : Enc enc sz) : ∀ l : List α, (l.flatMap enc).length = l.length * sz
  | [] => by simp
  | b :: l => by rw [List.flatMap_cons, List.length_append, E.len, flatMap_len E l, List.length_cons, Nat.succ_mul]; omega

/-- A row of records that can be read in 'w'. -/
structure Recs {α : Type} (enc : α → List Value) (sz : Nat) (ok : Nat → Prop) (w : World) (A : Option Addr) (l : List α) : Prop where
  isSome : 0 < l.length → A.isSome = true
  block : 0 < l.length → ok (A.getD default).block
  cell : ∀ i a, l[i]? = some a → ∀ j v, (enc a)[j]? = some v → w.cell? (eA A (i * sz + j)) = some v
abbrev OwnR {α : Type} (enc : α → List Value) (B e sz : Nat) (w : World) (A : Option Addr) (c : Nat) (l : List α) : Prop := Own B e sz w A c l.length (l.flatMap enc)
section
variable {α : Type} {enc : α → List Value} {sz : Nat} {P : Program} {K : Fr → World → Prop} {u w w' : World} {f : Fr} {d : Option Nat} {ok ok' : Nat → Prop} {A : Option Addr} {l : List α} {B e bytes t ty c : Nat}
theorem Recs.nil (ok : Nat → Prop) (w : World) (A : Option Addr) : Recs enc sz ok w A [] := ⟨fun h => absurd h (by simp), fun h => absurd h (by simp), fun i a h => by simp at h⟩
theorem Recs.mono (h : Recs enc sz ok u A l) (hk : ∀ b, ok b → ok' b) : Recs enc sz ok' u A l := ⟨h.isSome, fun hl => hk _ (h.block hl), h.cell⟩
theorem Recs.keep (h : Recs enc sz ok u A l) (hk : ∀ b, ok b → w.heap[b]? = u.heap[b]?) : Recs enc sz ok w A l :=
  ⟨h.isSome, h.block, fun i a hi j v hv => by
    rw [← h.cell i a hi j v hv]
    exact World.cell?_of_block (by rw [eA_block]; exact hk _ (h.block (by rcases Nat.lt_or_ge i l.length with h1 | h1; omega; rw [List.getElem?_eq_none h1] at hi; cases hi)))⟩
theorem Recs.below (h : Recs enc sz (· < B) u A l) (hb : Below B u w) : Recs enc sz (· < B) w A l := h.keep fun b hlt => hb.block b hlt
theorem Recs.same (h : Recs enc sz ok u A l) (k : Same u w) : Recs enc sz ok w A l := h.keep fun b _ => by rw [k.heap]
theorem OwnR.recs (h : OwnR enc B e sz w A c l) (E : Enc enc sz) (hs : 0 < sz) : Recs enc sz (fun b => B ≤ b ∧ A.map (·.block) = some b) w A l := by
  have hr := h.rd hs
  refine ⟨fun hl => h.isSome hl, fun hl => ?_, fun i a hi j v hv => ?_⟩
  · have hA := h.isSome hl
    refine ⟨(h.block hA).1, ?_⟩
    cases A with
    | none => cases hA
    | some a => rfl
  · refine hr.cell _ v ?_
    have hj : j < sz := by
      rcases Nat.lt_or_ge j sz with h1 | h1
      · exact h1
      · rw [List.getElem?_eq_none (by rw [E.len]; exact h1)] at hv; cases hv
    rw [flatMap_at E l i a j hi hj, hv]
theorem Recs.ld (h : Recs enc sz ok u A l) (ht : tyAgg P ty = some false) {i : Nat} {a : α} (hi : l[i]? = some a) {j : Nat} {v : Value} (hv : (enc a)[j]? = some v) :
    Val1 P K (Instr.loadAt ty (.pointer (some (eA A (i * sz + j))))) u f d w = K (updO f d v) w := load_one_of u f d w ht (h.cell i a hi j v hv)
theorem Recs.ld0 (h : Recs enc sz ok u A l) (ht : tyAgg P ty = some false) {i : Nat} {a : α} (hi : l[i]? = some a) {v : Value} (hv : (enc a)[0]? = some v) :
    Val1 P K (Instr.loadAt ty (.pointer (some (eA A (i * sz))))) u f d w = K (updO f d v) w := h.ld ht hi (j := 0) hv
/-- a part of an element -/
theorem Recs.ldA (h : Recs enc sz ok u A l) (ht : tyAgg P ty = some true) {i : Nat} {a : α} (hi : l[i]? = some a) (j : Nat) {vs : List Value} (hs : tySize P ty = some vs.length) (hv : ∀ k v, vs[k]? = some v → (enc a)[j + k]? = some v) :
    Val1 P K (Instr.loadAt ty (.pointer (some (eA A (i * sz + j))))) u f d w = K (updO f d (.agg vs.toArray)) w :=
  load_agg_of ht hs rfl fun k v hk => by
    have := h.cell i a hi (j + k) v (hv k v hk)
    cases A with
    | none =>
      have hA := h.isSome (by rcases Nat.lt_or_ge i l.length with h1 | h1; omega; rw [List.getElem?_eq_none h1] at hi; cases hi)
      cases hA
    | some ad => rw [eA_some] at this ⊢; rw [add_add, Nat.add_assoc, this]
theorem Recs.ldAll (h : Recs enc sz ok u A l) (E : Enc enc sz) (ht : tyAgg P ty = some true) {i : Nat} {a : α} (hi : l[i]? = some a) (hs : tySize P ty = some sz) :
    Val1 P K (Instr.loadAt ty (.pointer (some (eA A (i * sz))))) u f d w = K (updO f d (.agg (enc a).toArray)) w :=
  h.ldA ht hi 0 (by rw [E.len]; exact hs) fun k v hk => by rwa [Nat.zero_add]
/-- append(x, v) -/
theorem app_rec (E : Enc enc sz) (hT : SlT P t e sz bytes) (hown : OwnR enc B e sz w A c l) (x : α) (hl : (l.length + 1) * bytes ≤ 140737488355328) (h63 : l.length + 1 ≤ 9223372036854775807) (hB : B ≤ w.heap.size)
    (hk : ∀ A' c' w', OwnR enc B e sz w' A' c' (l ++ [x]) → Grew w w' A → (A'.map (·.block) = A.map (·.block) ∨ ∃ g, A'.map (·.block) = some g ∧ w.heap.size ≤ g) → A'.isSome = true → w.heap.size ≤ w'.heap.size → K (updO f d (.slice A' (l.length + 1) c')) w') :
    Eff1 P K (Builtin.append_ #[t, t] ty #[.slice A l.length c, .slice (some ⟨w.heap.size, 0, none⟩) 1 1]) f d (w.alloc (.cells (enc x).toArray e)) := by
  refine append_own hT ty (hown.alloc _) (rd_new w (enc x) e) (by rw [E.len, Nat.one_mul]) (E.one x) hl h63 (by simp; omega) ?_
  intro A' c' w' ho hg hA hs hz
  have hz' : w.heap.size ≤ w'.heap.size := by have : (w.alloc (.cells (enc x).toArray e)).heap.size = w.heap.size + 1 := by simp
                                              omega
  refine hk A' c' w' ?_ ⟨⟨hg.by_.os, hg.by_.tape, hg.by_.output, hz', fun k hk hne => ?_⟩⟩ ?_ (hs (by decide)) hz'
  · unfold OwnR
    rw [List.flatMap_append, List.flatMap_cons, List.flatMap_nil, List.append_nil, List.length_append, List.length_cons, List.length_nil, Nat.zero_add]
    exact ho
  · rw [hg.by_.block k (by simp; omega) hne, Below.heap_alloc w _ k hk]
  · rcases hA with h | h
    · exact .inl h
    · exact .inr ⟨_, h, by simp⟩
theorem bs_rec (E : Enc enc sz) (hT : SlT P t e sz bytes) (x : α) (hsz : sz ≤ 1000) :
    Eff1 P K (Instr.buildSlice t 1 #[(0, .agg (enc x).toArray)]) f d w = K (updO f d (.slice (some ⟨w.heap.size, 0, none⟩) 1 1)) (w.alloc (.cells (enc x).toArray e)) :=
  bsl1_eq hT _ (by simp [Value.cells, E.len]) hsz
/-- a part of a variable of several cells -/
theorem Blk.ldSub {g : Nat} {cs : List Value} (h : Blk u g t cs) (ht : tyAgg P ty = some true) (j : Nat) {vs : List Value} (hs : tySize P ty = some vs.length) (hv : ∀ k v, vs[k]? = some v → cs[j + k]? = some v) :
    Val1 P K (Instr.loadAt ty (.pointer (some ⟨g, j, none⟩))) u f d w = K (updO f d (.agg vs.toArray)) w :=
  load_agg_of ht hs rfl fun k v hk => by rw [addr_add, h.cell, hv k v hk]
end

def builtPl (P : Program) (t : TypeId) : Option (List (Nat × Nat) × List Value) :=
  match P.info? t, P.underlying t with
  | some it, some (.struct fields) =>
    match it.zero, fields.toList.mapM (fun f => (P.info? f.type).map fun i => (f.offset, i.size)) with
    | some z, some places => some (places, z.cells.toList)
    | _, _ => none
  | _, _ => none
theorem built_of {P : Program} {t : TypeId} {pl : List (Nat × Nat)} {zs : List Value} (h : builtPl P t = some (pl, zs)) (parts : List (Nat × Value)) : P.built t parts = Instr.fill (pl.toArray[·]?) zs.toArray parts := by
  unfold builtPl at h
  unfold Program.built
  split at h
  · split at h
    · injection h with h
      injection h with h1 h2
      subst h1 h2
      simp [*]
    · cases h
  · cases h
def putL (zs : List Value) (off : Nat) (vs : List Value) : List Value := zs.take off ++ vs ++ zs.drop (off + vs.length)
theorem foldl_put (vs : List Value) : ∀ (off k : Nat) (zs : Array Value), off + k + vs.length ≤ zs.size →
    ((vs.zipIdx k).foldl (fun cs (p : Value × Nat) => cs.setIfInBounds (off + p.2) p.1) zs).toList = zs.toList.take (off + k) ++ vs ++ zs.toList.drop (off + k + vs.length) := by
  induction vs with
  | nil => intro off k zs _; simp
  | cons v vs ih =>
    intro off k zs h
    simp only [List.length_cons] at h
    simp only [List.zipIdx_cons, List.foldl_cons]
    rw [ih off (k + 1) _ (by simp; omega), Array.toList_setIfInBounds]
    have hk : off + k < zs.toList.length := by simp; omega
    rw [show off + (k + 1) = off + k + 1 by omega, List.take_succ_eq_append_getElem (by simpa using hk)]
    simp only [List.take_set_of_le (Nat.le_refl _), List.getElem_set_self, List.length_cons]
    rw [List.drop_set_of_lt (by omega), show off + k + 1 + vs.length = off + k + (vs.length + 1) by omega]
    simp
theorem fill_cons {pl : Nat → Option (Nat × Nat)} {zs : List Value} {i off size : Nat} {v : Value} {rest : List (Nat × Value)} (hp : pl i = some (off, size)) (hv : v.cells.size = size) (hs : off + size ≤ zs.length) :
    Instr.fill pl zs.toArray ((i, v) :: rest) = Instr.fill pl (putL zs off v.cells.toList).toArray rest := by
  have h1 := foldl_put v.cells.toList off 0 zs.toArray (by simp [hv]; omega)
  simp only [Instr.fill, hp, hv]
  rw [if_neg (by simp; omega)]
  congr 1
  apply Array.ext'
  rw [← Array.foldl_toList, Array.toList_zipIdx, h1]
  simp [putL]
theorem fill_nil (pl : Nat → Option (Nat × Nat)) (zs : Array Value) : Instr.fill pl zs [] = some zs := rfl
section
variable {P : Program} {K : Fr → World → Prop} {u w : World} {f : Fr} {d : Option Nat} {t ty : Nat}
theorem v_makeFunc (g : FuncId) (first cap : Array Operand) : ValX P K (.makeFunc (.func g) first cap) ty u f d w = K (updO f d (.func (.func g) (first.map (ev f)) (cap.map (ev f)))) w :=
  (show ValX P K (.makeFunc (.func g) first cap) ty u f d w = Val1 P K (Instr.makeFunc (.func g) (first.map (ev f)) (cap.map (ev f))) u f d w from propext Iff.rfl).trans (val1_of u f d w fun w' _ => by simp [Instr.makeFunc])
theorem v_build (parts : Array (Nat × Operand)) : ValX P K (.build t parts) ty u f d w = Val1 P K (Instr.build t (parts.map fun (i, x) => (i, ev f x))) u f d w := propext Iff.rfl
theorem bld_of {parts : Array (Nat × Value)} {cs : List Value} (h : P.built t parts.toList = some cs.toArray) : Val1 P K (Instr.build t parts) u f d w = K (updO f d (.agg cs.toArray)) w :=
  val1_of u f d w fun w' _ => run_build w' t parts _ h
theorem bld_3 {z : List Value} {o0 s0 o1 s1 o2 s2 : Nat} (h : builtPl P t = some ([(o0, s0), (o1, s1), (o2, s2)], z)) (hz : z.length = s0 + s1 + s2) (h0 : o0 = 0) (h1 : o1 = s0) (h2 : o2 = s0 + s1) {v0 v1 v2 : Value}
    (k0 : v0.cells.size = s0) (k1 : v1.cells.size = s1) (k2 : v2.cells.size = s2) :
    Val1 P K (Instr.build t #[(0, v0), (1, v1), (2, v2)]) u f d w = K (updO f d (.agg (v0.cells.toList ++ v1.cells.toList ++ v2.cells.toList).toArray)) w := by
  refine bld_of ?_
  subst h0 h1 h2
  have a0 : v0.cells.toList.length = o1 := by simpa using k0
  have a1 : v1.cells.toList.length = s1 := by simpa using k1
  have a2 : v2.cells.toList.length = s2 := by simpa using k2
  rw [built_of h]
  rw [fill_cons (off := 0) (size := o1) rfl k0 (by omega), fill_cons (off := o1) (size := s1) rfl k1 (by simp [putL, k0]; omega), fill_cons (off := o1 + s1) (size := s2) rfl k2 (by simp [putL, k0, k1]; omega), fill_nil]
  have e : putL (putL z 0 v0.cells.toList) o1 v1.cells.toList = v0.cells.toList ++ v1.cells.toList ++ z.drop (o1 + s1) := by
    unfold putL
    rw [List.take_zero, List.nil_append, Nat.zero_add, List.take_left' a0, List.drop_append, List.drop_eq_nil_of_le (by omega), List.nil_append, a0, a1]
    simp
  rw [e]
  congr 2
  unfold putL
  have a01 : (v0.cells.toList ++ v1.cells.toList).length = o1 + s1 := by simp [k0, k1]
  rw [List.take_left' a01, List.drop_eq_nil_of_le (by simp [k0, k1, k2]; omega), List.append_nil]
end
attribute [push_cast] v_makeFunc v_build List.map_toArray
end
end Go.Proofs.YtpinjiikiaakaaaDoor

/-
  Chapter 1's questions on rows: row.Is, row.Has and the reference's, by their contracts.
  Chapter 1: row.Is, row.Has, the reference's Has, Same: by their contracts.
  Chapter 1: the reference's Only, Sorted, Join: by their contracts.
  Chapter 1: two rows gone over at once (merge), and the three functions made of it: by their contracts.
  Chapter 1: Join, Meet, Less of the program, Join of the reference, and the keep's has: by their contracts.
  Chapter 1, in plain Lean: a merge of two rows is the row of what both have, and so on. No program in sight.
-/
namespace Go.Proofs.YtpinjiikiaakaaaDoor
set_option linter.unusedSimpArgs false
set_option linter.unusedVariables false
set_option linter.unusedSectionVars false
section
open Go.RowKit

def RowAt (l : List Int) (b : Int) (i : Nat) : Prop := 0 ≤ l.getD i 0 ∧ l.getD i 0 < b ∧ l.getD i 0 < 2147483648 ∧ (0 < i → l.getD (i - 1) 0 < l.getD i 0)
instance (l : List Int) (b : Int) (i : Nat) : Decidable (RowAt l b i) := by unfold RowAt; exact inferInstance
/-- A row below a number. -/
def IsRow (l : List Int) (b : Int) : Prop := ∀ i, i < l.length → RowAt l b i
instance (l : List Int) (b : Int) : Decidable (IsRow l b) := by unfold IsRow; exact inferInstance

end

section
open Go.RowKit

theorem row_Is {ok : Nat → Prop} {w : World} {A : Option Addr} {l : List Int} (h : Ints ok w A l) (c : Nat) (b : Int) (hl : l.length ≤ 9223372036854775807) :
    Cal Tryd.prog 51 [.slice A l.length c, .int .i64 b] w fun v w' => v = .bool (decide (IsRow l b)) ∧ Same w w' := by
  refine cal_row_Is (by simp) 100000 fun Q hQ => ?_
  simp (disch := first | with_reducible assumption | omega) only [push_cast, x_blk, x_cd, ↓reduceIte, Nat.reduceEqDiff, List.map_cons, List.map_nil, Int.reduceEq, Int.lt_irrefl, F_row_Is]
  refine loop_rule (fun f w' => ∃ k : Nat, k ≤ l.length ∧ f 1 = .int .i64 b ∧ f 5 = .int .i64 (if k = 0 then -1 else l.getD (k - 1) 0) ∧ f 8 = .slice A l.length c ∧ f 9 = .int .i64 l.length ∧ f 10 = .int .i64 k ∧ (∀ i, i < k → RowAt l b i) ∧ Same w w')
    (fun f _ => l.length - (intOf (f 10)).toNat) ⟨0, Nat.zero_le _, rfl, rfl, rfl, rfl, rfl, fun i hi => absurd hi (by omega), Same.refl w⟩ ?_
  rintro f w1 ⟨k, hk, h1, h5, h8, h9, h10, hpre, hs⟩ J hJ
  have hI := h.same hs
  by_cases hlt : k < l.length
  · have hA := h.isSome (by omega)
    have bad : ¬ RowAt l b k → decide (IsRow l b) = false := fun h1 => decide_eq_false fun h2 => h1 (h2 k hlt)
    have good : RowAt l b k → ∀ i, i < k + 1 → RowAt l b i := fun h1 i hi => if e : i = k then e ▸ h1 else hpre i (by omega)
    have hlast : (if k = 0 then -1 else l.getD (k - 1) 0) < l.getD k 0 ↔ 0 ≤ l.getD k 0 ∧ (0 < k → l.getD (k - 1) 0 < l.getD k 0) := by
      by_cases h0 : k = 0
      · rw [if_pos h0]; exact ⟨fun h => ⟨by omega, fun h1 => absurd h1 (by omega)⟩, fun h => by have := h.1; omega⟩
      · have h2 := (hpre (k - 1) (by omega)).1
        rw [if_neg h0]; exact ⟨fun h => ⟨by omega, fun _ => h⟩, fun h => h.2 (by omega)⟩
    generalize (if k = 0 then -1 else l.getD (k - 1) 0) = last at *
    by_cases c1 : l.getD k 0 ≤ last
    · have B := bad fun h => by have := hlast.2 ⟨h.1, h.2.2.2⟩; omega
      simp (disch := first | with_reducible assumption | omega) only [push_cast, x_blk, x_cd, ↓reduceIte, Nat.reduceEqDiff, List.map_cons, List.map_nil, Int.reduceEq, Int.lt_irrefl, L_row_Is_0, h1, h5, h8, h9, h10, hlt, c1, hI.ld ty_ag_3]
      exact fin_1 (hQ _ _ ⟨(by simp only [push_cast, ↓reduceIte, Nat.reduceEqDiff, Int.reduceEq, B]), hs⟩)
    have hl := hlast.1 (by omega)
    by_cases c2 : min b 2147483648 ≤ l.getD k 0
    · have B := bad fun h => by have := h.2; omega
      simp (disch := first | with_reducible assumption | omega) only [push_cast, x_blk, x_cd, ↓reduceIte, Nat.reduceEqDiff, List.map_cons, List.map_nil, Int.reduceEq, Int.lt_irrefl, L_row_Is_0, h1, h5, h8, h9, h10, hlt, c1, c2, hI.ld ty_ag_3]
      exact fin_1 (hQ _ _ ⟨(by simp only [push_cast, ↓reduceIte, Nat.reduceEqDiff, Int.reduceEq, B]), hs⟩)
    · have G := good ⟨hl.1, by omega, by omega, hl.2⟩
      simp (disch := first | with_reducible assumption | omega) only [push_cast, x_blk, x_cd, ↓reduceIte, Nat.reduceEqDiff, List.map_cons, List.map_nil, Int.reduceEq, Int.lt_irrefl, L_row_Is_0, h1, h5, h8, h9, h10, hlt, c1, c2, hI.ld ty_ag_3]
      exact hJ _ _ ⟨k + 1, hlt, (by simp only [push_cast, ↓reduceIte, Nat.reduceEqDiff, Int.reduceEq, h1]), (by simp only [push_cast, ↓reduceIte, Nat.reduceEqDiff, Int.reduceEq, Nat.add_one_ne_zero, Nat.add_sub_cancel]), (by simp only [push_cast, ↓reduceIte, Nat.reduceEqDiff, Int.reduceEq, h8]), (by simp only [push_cast, ↓reduceIte, Nat.reduceEqDiff, Int.reduceEq, h9]), (by simp only [push_cast, ↓reduceIte, Nat.reduceEqDiff, Int.reduceEq]), G, hs⟩ (by simp only [push_cast, ↓reduceIte, Nat.reduceEqDiff, h10, intOf]; omega)
  · have B : decide (IsRow l b) = true := decide_eq_true fun i hi => hpre i (by omega)
    simp (disch := first | with_reducible assumption | omega) only [push_cast, x_blk, x_cd, ↓reduceIte, Nat.reduceEqDiff, List.map_cons, List.map_nil, Int.reduceEq, Int.lt_irrefl, L_row_Is_0, h1, h5, h8, h9, h10, hlt]
    exact fin_1 (hQ _ _ ⟨(by simp only [push_cast, ↓reduceIte, Nat.reduceEqDiff, Int.reduceEq, B]), hs⟩)

theorem slices_Index {ok : Nat → Prop} {w : World} {A : Option Addr} {l : List Int} (h : Ints ok w A l) (c : Nat) (b : Int) (hl : l.length ≤ 9223372036854775807) :
    Cal Tryd.prog 68 [.slice A l.length c, .int .i64 b] w fun v w' => (∃ k : Int, v = .int .i64 k ∧ (0 ≤ k ↔ b ∈ l)) ∧ Same w w' := by
  refine cal_slices_Index (by simp) 100000 fun Q hQ => ?_
  simp (disch := first | with_reducible assumption | omega) only [push_cast, x_blk, x_cd, ↓reduceIte, Nat.reduceEqDiff, List.map_cons, List.map_nil, Int.reduceEq, Int.lt_irrefl, F_slices_Index]
  refine loop_rule (fun f w' => ∃ k : Nat, k ≤ l.length ∧ f 0 = .slice A l.length c ∧ f 1 = .int .i64 b ∧ f 7 = .int .i64 l.length ∧ f 8 = .int .i64 k ∧ (∀ i, i < k → l.getD i 0 ≠ b) ∧ Same w w')
    (fun f _ => l.length - (intOf (f 8)).toNat) ⟨0, Nat.zero_le _, rfl, rfl, rfl, rfl, fun i hi => absurd hi (by omega), Same.refl w⟩ ?_
  rintro f w1 ⟨k, hk, h0, h1, h7, h8, hpre, hs⟩ J hJ
  have hI := h.same hs
  by_cases hlt : k < l.length
  · have hA := h.isSome (by omega)
    by_cases c1 : b = l.getD k 0
    · simp (disch := first | with_reducible assumption | omega) only [push_cast, x_blk, x_cd, ↓reduceIte, Nat.reduceEqDiff, List.map_cons, List.map_nil, Int.reduceEq, Int.lt_irrefl, L_slices_Index_0, h0, h1, h7, h8, hlt, c1, hI.ld ty_ag_3]
      exact fin_1 (hQ _ _ ⟨⟨k, (by simp only [push_cast, ↓reduceIte, Nat.reduceEqDiff, Int.reduceEq]), fun _ => c1 ▸ getD_mem l 0 k hlt, fun _ => by omega⟩, hs⟩)
    · simp (disch := first | with_reducible assumption | omega) only [push_cast, x_blk, x_cd, ↓reduceIte, Nat.reduceEqDiff, List.map_cons, List.map_nil, Int.reduceEq, Int.lt_irrefl, L_slices_Index_0, h0, h1, h7, h8, hlt, c1, hI.ld ty_ag_3]
      exact hJ _ _ ⟨k + 1, hlt, (by simp only [push_cast, ↓reduceIte, Nat.reduceEqDiff, Int.reduceEq, h0]), (by simp only [push_cast, ↓reduceIte, Nat.reduceEqDiff, Int.reduceEq, h1]), (by simp only [push_cast, ↓reduceIte, Nat.reduceEqDiff, Int.reduceEq, h7]), (by simp only [push_cast, ↓reduceIte, Nat.reduceEqDiff, Int.reduceEq]), fun i hi => if e : i = k then e ▸ fun h => c1 h.symm else hpre i (by omega), hs⟩ (by simp only [push_cast, ↓reduceIte, Nat.reduceEqDiff, h8, intOf]; omega)
  · simp (disch := first | with_reducible assumption | omega) only [push_cast, x_blk, x_cd, ↓reduceIte, Nat.reduceEqDiff, List.map_cons, List.map_nil, Int.reduceEq, Int.lt_irrefl, L_slices_Index_0, h0, h1, h7, h8, hlt]
    refine fin_1 (hQ _ _ ⟨⟨-1, (by simp only [push_cast, ↓reduceIte, Nat.reduceEqDiff, Int.reduceEq]), fun h => absurd h (by omega), fun h => ?_⟩, hs⟩)
    obtain ⟨i, hi, he⟩ := (mem_iff_getD l 0 b).1 h
    exact absurd he (hpre i (by omega))

theorem slices_Contains {ok : Nat → Prop} {w : World} {A : Option Addr} {l : List Int} (h : Ints ok w A l) (c : Nat) (b : Int) (hl : l.length ≤ 9223372036854775807) :
    Cal Tryd.prog 58 [.slice A l.length c, .int .i64 b] w fun v w' => v = .bool (decide (b ∈ l)) ∧ Same w w' := by
  refine cal_slices_Contains (by simp) 100000 fun Q hQ => ?_
  simp (disch := first | with_reducible assumption | omega) only [push_cast, x_blk, x_cd, ↓reduceIte, Nat.reduceEqDiff, List.map_cons, List.map_nil, Int.reduceEq, Int.lt_irrefl, F_slices_Contains]
  refine call_of (slices_Index h c b hl) ?_
  rintro v w' ⟨⟨k, rfl, hk⟩, hs⟩
  simp (disch := first | with_reducible assumption | omega) only [push_cast, x_blk, x_cd, ↓reduceIte, Nat.reduceEqDiff, List.map_cons, List.map_nil, Int.reduceEq, Int.lt_irrefl]
  exact fin_1 (hQ _ _ ⟨(by simp only [push_cast, ↓reduceIte, Nat.reduceEqDiff, Int.reduceEq, hk]), hs⟩)

theorem row_Has {ok : Nat → Prop} {w : World} {A : Option Addr} {l : List Int} (h : Ints ok w A l) (c : Nat) (b : Int) (hl : l.length ≤ 9223372036854775807) :
    Cal Tryd.prog 39 [.slice A l.length c, .int .i64 b] w fun v w' => v = .bool (decide (b ∈ l)) ∧ Same w w' := by
  refine cal_row_Has (by simp) 100000 fun Q hQ => ?_
  simp (disch := first | with_reducible assumption | omega) only [push_cast, x_blk, x_cd, ↓reduceIte, Nat.reduceEqDiff, List.map_cons, List.map_nil, Int.reduceEq, Int.lt_irrefl, F_row_Has]
  refine call_of (slices_Contains h c b hl) ?_
  rintro v w' ⟨rfl, hs⟩
  simp (disch := first | with_reducible assumption | omega) only [push_cast, x_blk, x_cd, ↓reduceIte, Nat.reduceEqDiff, List.map_cons, List.map_nil, Int.reduceEq, Int.lt_irrefl]
  exact fin_1 (hQ _ _ ⟨(by simp only [push_cast, ↓reduceIte, Nat.reduceEqDiff, Int.reduceEq]), hs⟩)

end

section
open Go.RowKit

theorem Ints.lt {ok : Nat → Prop} {w : World} {A : Option Addr} {l : List Int} (h : Ints ok w A l) : Ints (· < w.heap.size) w A l :=
  ⟨h.isSome, fun hl => by have := World.block_lt_of_cell? w _ (h.cell 0 hl); rwa [eA_block] at this, h.cell⟩

/-- The numbers of a row that are (are not) in another one. -/
def onlyL (l m : List Int) (inn : Bool) : List Int := l.filter fun x => decide (x ∈ m) == inn
def ins (x : Int) : List Int → List Int
  | [] => [x]
  | y :: l => if y < x then y :: ins x l else if y = x then y :: l else x :: y :: l
/-- The row of a list's numbers. -/
def sortedL (l : List Int) : List Int := l.foldl (fun o x => ins x o) []
end

section
open Go.RowKit

theorem IsRow.len {l : List Int} {b : Int} (h : IsRow l b) : l.length ≤ 2147483648 := by
  have key : ∀ i : Nat, i < l.length → (i : Int) ≤ l.getD i 0 := by
    intro i
    induction i with
    | zero => intro hi; exact (h 0 hi).1
    | succ i ih => intro hi; have := ih (by omega); have := (h (i + 1) hi).2.2.2 (by omega); simp only [Nat.add_sub_cancel] at this; omega
  rcases Nat.eq_zero_or_pos l.length with h0 | h0
  · omega
  · have := key (l.length - 1) (by omega); have := (h (l.length - 1) (by omega)).2.2.1; omega

def lenOf : Value → Nat
  | .slice _ n _ => n
  | _ => 0
end

section
open Go.RowKit

end

section
open Go.RowKit

def Strict (l : List Int) : Prop := l.Pairwise (· < ·)
theorem Strict.ext : ∀ {l m : List Int}, Strict l → Strict m → (∀ x, x ∈ l ↔ x ∈ m) → l = m
  | [], [], _, _, _ => rfl
  | [], y :: m, _, _, h => absurd ((h y).2 (List.mem_cons_self ..)) (by simp)
  | x :: l, [], _, _, h => absurd ((h x).1 (List.mem_cons_self ..)) (by simp)
  | x :: l, y :: m, hl, hm, h => by
    have hl' := List.pairwise_cons.1 hl
    have hm' := List.pairwise_cons.1 hm
    have h1 : x = y := by
      have a1 := (h x).1 (List.mem_cons_self ..)
      have a2 := (h y).2 (List.mem_cons_self ..)
      rcases List.mem_cons.1 a1 with e | e
      · exact e
      · rcases List.mem_cons.1 a2 with e2 | e2
        · exact e2.symm
        · have := hm'.1 x e; have := hl'.1 y e2; omega
    subst h1
    rw [Strict.ext hl'.2 hm'.2 fun z => ⟨fun hz => ?_, fun hz => ?_⟩]
    · rcases List.mem_cons.1 ((h z).1 (List.mem_cons_of_mem _ hz)) with e | e
      · have := hl'.1 z hz; omega
      · exact e
    · rcases List.mem_cons.1 ((h z).2 (List.mem_cons_of_mem _ hz)) with e | e
      · have := hm'.1 z hz; omega
      · exact e
theorem IsRow.strict {l : List Int} {b : Int} (h : IsRow l b) : Strict l := by
  have key : ∀ j i : Nat, i < j → j < l.length → l.getD i 0 < l.getD j 0 := by
    intro j
    induction j with
    | zero => intro i hi; omega
    | succ j ih =>
      intro i hi hj
      have h1 := (h (j + 1) hj).2.2.2 (by omega)
      simp only [Nat.add_sub_cancel] at h1
      rcases Nat.lt_or_ge i j with hij | hij
      · have := ih i hij (by omega); omega
      · rw [show i = j by omega]; exact h1
  refine List.pairwise_iff_getElem.2 fun i j hi hj hij => ?_
  have := key j i hij hj
  simpa [List.getD_eq_getElem?_getD, hi, hj] using this
theorem IsRow.mem {l : List Int} {b : Int} (h : IsRow l b) {x : Int} (hx : x ∈ l) : 0 ≤ x ∧ x < b ∧ x < 2147483648 := by
  obtain ⟨k, hk, rfl⟩ := (mem_iff_getD l 0 x).1 hx
  have := h k hk
  exact ⟨this.1, this.2.1, this.2.2.1⟩

theorem mem_ins (x z : Int) : ∀ o : List Int, z ∈ ins x o ↔ z = x ∨ z ∈ o
  | [] => by simp [ins]
  | y :: o => by
    unfold ins
    split
    · rw [List.mem_cons, mem_ins x z o, List.mem_cons]; exact ⟨fun h => by rcases h with h | h | h <;> simp [h], fun h => by rcases h with h | h | h <;> simp [h]⟩
    · split
      · rename_i h; subst h; simp
      · simp
theorem strict_ins (x : Int) : ∀ o : List Int, Strict o → Strict (ins x o)
  | [], _ => by simp [ins, Strict]
  | y :: o, h => by
    have h' := List.pairwise_cons.1 h
    unfold ins
    split
    · rename_i hlt
      refine List.pairwise_cons.2 ⟨fun z hz => ?_, strict_ins x o h'.2⟩
      rcases (mem_ins x z o).1 hz with e | e
      · omega
      · exact h'.1 z e
    · split
      · exact h
      · refine List.pairwise_cons.2 ⟨fun z hz => ?_, h⟩
        rcases List.mem_cons.1 hz with e | e
        · omega
        · have := h'.1 z e; omega
theorem sortedL_spec (l : List Int) : Strict (sortedL l) ∧ ∀ z, z ∈ sortedL l ↔ z ∈ l := by
  have key : ∀ (l o : List Int), Strict o → Strict (l.foldl (fun o x => ins x o) o) ∧ ∀ z, z ∈ l.foldl (fun o x => ins x o) o ↔ z ∈ o ∨ z ∈ l := by
    intro l
    induction l with
    | nil => intro o h; simp [h]
    | cons x l ih =>
      intro o h
      obtain ⟨h1, h2⟩ := ih (ins x o) (strict_ins x o h)
      refine ⟨h1, fun z => ?_⟩
      rw [List.foldl_cons, h2, mem_ins, List.mem_cons]
      exact ⟨fun h => by rcases h with (h | h) | h <;> simp [h], fun h => by rcases h with h | h | h <;> simp [h]⟩
  have := key l [] (by simp [Strict])
  simpa [sortedL] using this

end
end Go.Proofs.YtpinjiikiaakaaaDoor

/-
  Chapter 2: which machines may be: the program's May and the reference's: by their contracts.
  Chapter 2: the program's order of arrows and its May: by their contracts.
  Chapter 2: the program's May: by its contract.
-/
namespace Go.Proofs.YtpinjiikiaakaaaDoor
set_option linter.unusedSimpArgs false
set_option linter.unusedVariables false
set_option linter.unusedSectionVars false
section
open Go.RowKit

def Arr.lt (a b : Arr) : Prop := a.frm < b.frm ∨ (a.frm = b.frm ∧ (a.evt < b.evt ∨ (a.evt = b.evt ∧ a.to_ < b.to_)))
instance (a b : Arr) : Decidable (a.lt b) := inferInstanceAs (Decidable (_ ∨ _))
def Mach.ArrOk (m : Mach) (a : Arr) : Prop := (0 ≤ a.frm ∧ a.frm < m.states) ∧ (0 ≤ a.to_ ∧ a.to_ < m.states) ∧ (0 ≤ a.evt ∧ a.evt < m.events)
instance (m : Mach) (a : Arr) : Decidable (m.ArrOk a) := inferInstanceAs (Decidable (_ ∧ _))
def Mach.At (m : Mach) (i : Nat) : Prop := m.ArrOk (m.arrows.getD i default) ∧ (0 < i → (m.arrows.getD (i - 1) default).lt (m.arrows.getD i default))
instance (m : Mach) (i : Nat) : Decidable (m.At i) := inferInstanceAs (Decidable (_ ∧ _))
def Mach.May (m : Mach) : Prop := 1 ≤ m.states ∧ m.states ≤ 256 ∧ 0 ≤ m.events ∧ m.events ≤ 8 ∧ m.arrows.length ≤ 4096 ∧ IsRow m.starts m.states ∧ IsRow m.ends m.states ∧ ∀ i, i < m.arrows.length → m.At i
instance (m : Mach) : Decidable m.May := inferInstanceAs (Decidable (_ ∧ _))

end

section
open Go.RowKit

theorem cmp_isNaN (a : Int) (w : World) : Cal Tryd.prog 96 [.int .i64 a] w fun v w' => v = .bool false ∧ Same w w' := by
  refine cal_cmp_isNaN (by simp) 100000 fun Q hQ => ?_
  simp (disch := first | with_reducible assumption | omega) only [push_cast, x_blk, x_cd, ↓reduceIte, Nat.reduceEqDiff, List.map_cons, List.map_nil, Int.reduceEq, Int.lt_irrefl, F_cmp_isNaN, eq_self]
  exact fin_1 (hQ _ _ ⟨(by simp only [push_cast, ↓reduceIte, Nat.reduceEqDiff, Int.reduceEq]), Same.refl _⟩)
def cmpI (x y : Int) : Int := if x < y then -1 else if y < x then 1 else 0
theorem cmp_Compare (x y : Int) (w : World) : Cal Tryd.prog 88 [.int .i64 x, .int .i64 y] w fun v w' => v = .int .i64 (cmpI x y) ∧ Same w w' := by
  refine cal_cmp_Compare (by simp) 100000 fun Q hQ => ?_
  simp (disch := first | with_reducible assumption | omega) only [push_cast, x_blk, x_cd, ↓reduceIte, Nat.reduceEqDiff, List.map_cons, List.map_nil, Int.reduceEq, Int.lt_irrefl, F_cmp_Compare]
  refine call_of (cmp_isNaN x w) ?_
  rintro v w1 ⟨rfl, s1⟩
  simp (disch := first | with_reducible assumption | omega) only [push_cast, x_blk, x_cd, ↓reduceIte, Nat.reduceEqDiff, List.map_cons, List.map_nil, Int.reduceEq, Int.lt_irrefl]
  refine call_of (cmp_isNaN y w1) ?_
  rintro v w2 ⟨rfl, s2⟩
  by_cases c1 : x < y
  · have r : cmpI x y = -1 := if_pos c1
    simp (disch := first | with_reducible assumption | omega) only [push_cast, x_blk, x_cd, ↓reduceIte, Nat.reduceEqDiff, List.map_cons, List.map_nil, Int.reduceEq, Int.lt_irrefl, c1]
    exact fin_1 (hQ _ _ ⟨(by simp only [push_cast, ↓reduceIte, Nat.reduceEqDiff, Int.reduceEq, r]), s1.trans s2⟩)
  by_cases c2 : y < x
  · have r : cmpI x y = 1 := by unfold cmpI; rw [if_neg c1, if_pos c2]
    simp (disch := first | with_reducible assumption | omega) only [push_cast, x_blk, x_cd, ↓reduceIte, Nat.reduceEqDiff, List.map_cons, List.map_nil, Int.reduceEq, Int.lt_irrefl, c1, c2]
    exact fin_1 (hQ _ _ ⟨(by simp only [push_cast, ↓reduceIte, Nat.reduceEqDiff, Int.reduceEq, r]), s1.trans s2⟩)
  · have r : cmpI x y = 0 := by unfold cmpI; rw [if_neg c1, if_neg c2]
    simp (disch := first | with_reducible assumption | omega) only [push_cast, x_blk, x_cd, ↓reduceIte, Nat.reduceEqDiff, List.map_cons, List.map_nil, Int.reduceEq, Int.lt_irrefl, c1, c2]
    exact fin_1 (hQ _ _ ⟨(by simp only [push_cast, ↓reduceIte, Nat.reduceEqDiff, Int.reduceEq, r]), s1.trans s2⟩)
def orL : List Int → Int
  | [] => 0
  | x :: l => if x = 0 then orL l else x
theorem orL_at : ∀ (l : List Int) (k : Nat), (∀ i, i < k → l.getD i 0 = 0) → orL l = orL (l.drop k)
  | _, 0, _ => rfl
  | [], _ + 1, _ => rfl
  | x :: l, k + 1, h => by
    have h0 := h 0 (by omega)
    simp only [List.getD_cons_zero] at h0
    rw [orL, if_pos h0, orL_at l k fun i hi => by simpa using h (i + 1) (by omega), List.drop_succ_cons]
theorem orL_here (l : List Int) (k : Nat) (hk : k < l.length) (h : ∀ i, i < k → l.getD i 0 = 0) (hn : ¬ l.getD k 0 = 0) : orL l = l.getD k 0 := by
  rw [orL_at l k h, List.drop_eq_getElem_cons hk, orL]
  have e : l[k] = l.getD k 0 := by simp [List.getD_eq_getElem?_getD, hk]
  rw [e, if_neg hn]
theorem cmp_Or {ok : Nat → Prop} {w : World} {A : Option Addr} {l : List Int} (h : Ints ok w A l) (c : Nat) (hl : l.length ≤ 9223372036854775807) :
    Cal Tryd.prog 44 [.slice A l.length c] w fun v w' => v = .int .i64 (orL l) ∧ Same w w' := by
  refine cal_cmp_Or (by simp) 100000 fun Q hQ => ?_
  simp (disch := first | with_reducible assumption | omega) only [push_cast, x_blk, x_cd, ↓reduceIte, Nat.reduceEqDiff, List.map_cons, List.map_nil, Int.reduceEq, Int.lt_irrefl, F_cmp_Or]
  refine loop_rule (fun f w' => ∃ k : Nat, k ≤ l.length ∧ f 3 = .int .i64 0 ∧ f 6 = .slice A l.length c ∧ f 7 = .int .i64 l.length ∧ f 8 = .int .i64 k ∧ (∀ i, i < k → l.getD i 0 = 0) ∧ Same w w')
    (fun f _ => l.length - (intOf (f 8)).toNat) ⟨0, Nat.zero_le _, rfl, rfl, rfl, rfl, fun i hi => absurd hi (by omega), Same.refl w⟩ ?_
  rintro f w1 ⟨k, hk, h3, h6, h7, h8, hp, hs⟩ J hJ
  have hI := h.same hs
  by_cases hlt : k < l.length
  · have hA := h.isSome (by omega)
    by_cases c1 : l.getD k 0 = 0
    · simp (disch := first | with_reducible assumption | omega) only [push_cast, x_blk, x_cd, ↓reduceIte, Nat.reduceEqDiff, List.map_cons, List.map_nil, Int.reduceEq, Int.lt_irrefl, L_cmp_Or_0, h3, h6, h7, h8, hlt, c1, hI.ld ty_ag_3]
      exact hJ _ _ ⟨k + 1, hlt, (by simp only [push_cast, ↓reduceIte, Nat.reduceEqDiff, Int.reduceEq, h3]), (by simp only [push_cast, ↓reduceIte, Nat.reduceEqDiff, Int.reduceEq, h6]), (by simp only [push_cast, ↓reduceIte, Nat.reduceEqDiff, Int.reduceEq, h7]), (by simp only [push_cast, ↓reduceIte, Nat.reduceEqDiff, Int.reduceEq]), fun i hi => if e : i = k then e ▸ c1 else hp i (by omega), hs⟩ (by simp only [push_cast, ↓reduceIte, Nat.reduceEqDiff, h8, intOf]; omega)
    · have r := orL_here l k hlt hp c1
      simp (disch := first | with_reducible assumption | omega) only [push_cast, x_blk, x_cd, ↓reduceIte, Nat.reduceEqDiff, List.map_cons, List.map_nil, Int.reduceEq, Int.lt_irrefl, L_cmp_Or_0, h3, h6, h7, h8, hlt, c1, hI.ld ty_ag_3]
      exact fin_1 (hQ _ _ ⟨(by simp only [push_cast, ↓reduceIte, Nat.reduceEqDiff, Int.reduceEq, r]), hs⟩)
  · have r : orL l = 0 := by rw [orL_at l k hp, List.drop_eq_nil_of_le (by omega)]; rfl
    simp (disch := first | with_reducible assumption | omega) only [push_cast, x_blk, x_cd, ↓reduceIte, Nat.reduceEqDiff, List.map_cons, List.map_nil, Int.reduceEq, Int.lt_irrefl, L_cmp_Or_0, h3, h6, h7, h8, hlt]
    exact fin_1 (hQ _ _ ⟨(by simp only [push_cast, ↓reduceIte, Nat.reduceEqDiff, Int.reduceEq, r]), hs⟩)

def ordA (a b : Arr) : Int := orL [cmpI a.frm b.frm, cmpI a.evt b.evt, cmpI a.to_ b.to_]
theorem ordA_lt (a b : Arr) : 0 ≤ ordA a b ↔ ¬ a.lt b := by
  unfold ordA Arr.lt cmpI
  simp only [orL]
  repeat' split
  all_goals omega
theorem ints_blk {w : World} {g t : Nat} {l : List Int} (h : Blk w g t (iv l)) : Ints (· < w.heap.size) w (some ⟨g, 0, none⟩) l :=
  ⟨fun _ => rfl, fun _ => h.lt, fun i hi => by rw [eA_zero, h.cell]; simp [List.getD_eq_getElem?_getD, hi]⟩

theorem machine_order (a b : Arr) (w : World) :
    Cal Tryd.prog 65 [arrVal a, arrVal b] w fun v w' => v = .int .i64 (ordA a b) ∧ Below w.heap.size w w' := by
  refine cal_machine_order (by simp) 100000 fun Q hQ => ?_
  simp (disch := first | with_reducible assumption | omega) only [push_cast, x_blk, x_cd, ↓reduceIte, Nat.reduceEqDiff, List.map_cons, List.map_nil, Int.reduceEq, Int.lt_irrefl, F_machine_order]
  refine blk_of (box_agg _ (arrCells a)) ?_
  intro w1 k1 b1 z1
  simp (disch := first | with_reducible assumption | omega) only [push_cast, x_blk, x_cd, ↓reduceIte, Nat.reduceEqDiff, List.map_cons, List.map_nil, Int.reduceEq, Int.lt_irrefl]
  refine blk_of (box_agg _ (arrCells b)) ?_
  intro w2 k2 b2 z2
  have bb : Below w.heap.size w w2 := b1.trans (b2.mono b1.size)
  have k3 := (k1.below b2 (by omega)).drew
  have k4 := k2.drew
  simp (disch := first | with_reducible assumption | omega) only [push_cast, x_blk, x_cd, ↓reduceIte, Nat.reduceEqDiff, List.map_cons, List.map_nil, Int.reduceEq, Int.lt_irrefl, k4.a0 ty_ag_3, k4.a1 ty_ag_3, k4.a2 ty_ag_3, k3.a0 ty_ag_3, k3.a1 ty_ag_3, k3.a2 ty_ag_3]
  refine call_of (cmp_Compare _ _ _) ?_
  rintro v w3 ⟨rfl, s3⟩
  have q3 := s3.below w2.drew.heap.size
  simp (disch := first | with_reducible assumption | omega) only [push_cast, x_blk, x_cd, ↓reduceIte, Nat.reduceEqDiff, List.map_cons, List.map_nil, Int.reduceEq, Int.lt_irrefl]
  refine ⟨q3, ?_⟩
  refine call_of (cmp_Compare _ _ _) ?_
  rintro v w4 ⟨rfl, s4⟩
  have q4 := (s3.trans s4).below w2.drew.heap.size
  simp (disch := first | with_reducible assumption | omega) only [push_cast, x_blk, x_cd, ↓reduceIte, Nat.reduceEqDiff, List.map_cons, List.map_nil, Int.reduceEq, Int.lt_irrefl]
  refine ⟨q4, ?_⟩
  refine call_of (cmp_Compare _ _ _) ?_
  rintro v w5 ⟨rfl, s5⟩
  have q5 := ((s3.trans s4).trans s5).below w2.drew.heap.size
  simp (disch := first | with_reducible assumption | omega) only [push_cast, x_blk, x_cd, ↓reduceIte, Nat.reduceEqDiff, List.map_cons, List.map_nil, Int.reduceEq, Int.lt_irrefl]
  refine ⟨q5, ?_⟩
  refine blk_of (bsl3_eq slT_23 _ _ _) ?_
  intro w6 k6 b6 z6
  have q6 := q5.trans (b6.mono q5.size)
  simp (disch := first | with_reducible assumption | omega) only [push_cast, x_blk, x_cd, ↓reduceIte, Nat.reduceEqDiff, List.map_cons, List.map_nil, Int.reduceEq, Int.lt_irrefl]
  refine ⟨q6, ?_⟩
  refine call_of (cmp_Or (l := [cmpI a.frm b.frm, cmpI a.evt b.evt, cmpI a.to_ b.to_]) (ints_blk k6) 3 (by simp)) ?_
  rintro v w7 ⟨rfl, s7⟩
  have q7 := q6.trans (s7.below w2.drew.heap.size)
  simp (disch := first | with_reducible assumption | omega) only [push_cast, x_blk, x_cd, ↓reduceIte, Nat.reduceEqDiff, List.map_cons, List.map_nil, Int.reduceEq, Int.lt_irrefl]
  refine ⟨q7, ?_⟩
  exact fin_1 (hQ _ _ ⟨(by simp only [push_cast, ↓reduceIte, Nat.reduceEqDiff, Int.reduceEq, ordA]), (drawn bb).trans (q7.mono bb.size)⟩)

theorem machine_in (n b : Int) (w : World) : Cal Tryd.prog 64 [.int .i64 n, .int .i64 b] w fun v w' => v = .bool (decide (0 ≤ n ∧ n < b)) ∧ Same w w' := by
  refine cal_machine_May_1 (by simp) 100000 fun Q hQ => ?_
  by_cases c1 : 0 ≤ n
  · have r : decide (0 ≤ n ∧ n < b) = decide (n < b) := decide_eq_decide.2 (by omega)
    simp (disch := first | with_reducible assumption | omega) only [push_cast, x_blk, x_cd, ↓reduceIte, Nat.reduceEqDiff, List.map_cons, List.map_nil, Int.reduceEq, Int.lt_irrefl, F_machine_May_1, c1]
    exact fin_1 (hQ _ _ ⟨(by simp only [push_cast, ↓reduceIte, Nat.reduceEqDiff, Int.reduceEq, r]), Same.refl _⟩)
  · have r : decide (0 ≤ n ∧ n < b) = false := decide_eq_false (by omega)
    simp (disch := first | with_reducible assumption | omega) only [push_cast, x_blk, x_cd, ↓reduceIte, Nat.reduceEqDiff, List.map_cons, List.map_nil, Int.reduceEq, Int.lt_irrefl, F_machine_May_1, c1]
    exact fin_1 (hQ _ _ ⟨(by simp only [push_cast, ↓reduceIte, Nat.reduceEqDiff, Int.reduceEq, r]), Same.refl _⟩)
end

section
open Go.RowKit

theorem machine_May {w : World} {a : MV} {m : Mach} (h : IsM (· < w.heap.size) w a m) (hf : m.Fits) :
    Cal Tryd.prog 50 [a.val m] w fun v w' => v = .bool (decide m.May) ∧ Below w.heap.size w w' := by
  have mm : m.May ↔ 1 ≤ m.states ∧ m.states ≤ 256 ∧ 0 ≤ m.events ∧ m.events ≤ 8 ∧ m.arrows.length ≤ 4096 ∧ IsRow m.starts m.states ∧ IsRow m.ends m.states ∧ ∀ i, i < m.arrows.length → m.At i := Iff.rfl
  refine cal_machine_May (by simp) 100000 fun Q hQ => ?_
  simp (disch := first | with_reducible assumption | omega) only [push_cast, x_blk, x_cd, ↓reduceIte, Nat.reduceEqDiff, List.map_cons, List.map_nil, Int.reduceEq, Int.lt_irrefl, F_machine_May]
  refine blk_of (box_agg _ (a.cells m)) ?_
  intro w1 k1 b1 z1
  have h1 := h.below b1
  have nS := hf.lenS
  have nE := hf.lenE
  by_cases c1 : m.states < 1
  · have r : decide m.May = false := decide_eq_false fun hm => by rw [mm] at hm; omega
    simp (disch := first | with_reducible assumption | omega) only [push_cast, x_blk, x_cd, ↓reduceIte, Nat.reduceEqDiff, List.map_cons, List.map_nil, Int.reduceEq, Int.lt_irrefl, c1, k1.m0 ty_ag_3, k1.m1 ty_ag_3]
    exact fin_1 (hQ _ _ ⟨(by simp only [push_cast, ↓reduceIte, Nat.reduceEqDiff, Int.reduceEq, r]), b1⟩)
  by_cases c2 : 256 < m.states
  · have r : decide m.May = false := decide_eq_false fun hm => by rw [mm] at hm; omega
    simp (disch := first | with_reducible assumption | omega) only [push_cast, x_blk, x_cd, ↓reduceIte, Nat.reduceEqDiff, List.map_cons, List.map_nil, Int.reduceEq, Int.lt_irrefl, c1, c2, k1.m0 ty_ag_3, k1.m1 ty_ag_3]
    exact fin_1 (hQ _ _ ⟨(by simp only [push_cast, ↓reduceIte, Nat.reduceEqDiff, Int.reduceEq, r]), b1⟩)
  by_cases c3 : m.events < 0
  · have r : decide m.May = false := decide_eq_false fun hm => by rw [mm] at hm; omega
    simp (disch := first | with_reducible assumption | omega) only [push_cast, x_blk, x_cd, ↓reduceIte, Nat.reduceEqDiff, List.map_cons, List.map_nil, Int.reduceEq, Int.lt_irrefl, c1, c2, c3, k1.m0 ty_ag_3, k1.m1 ty_ag_3]
    exact fin_1 (hQ _ _ ⟨(by simp only [push_cast, ↓reduceIte, Nat.reduceEqDiff, Int.reduceEq, r]), b1⟩)
  by_cases c4 : 8 < m.events
  · have r : decide m.May = false := decide_eq_false fun hm => by rw [mm] at hm; omega
    simp (disch := first | with_reducible assumption | omega) only [push_cast, x_blk, x_cd, ↓reduceIte, Nat.reduceEqDiff, List.map_cons, List.map_nil, Int.reduceEq, Int.lt_irrefl, c1, c2, c3, c4, k1.m0 ty_ag_3, k1.m1 ty_ag_3]
    exact fin_1 (hQ _ _ ⟨(by simp only [push_cast, ↓reduceIte, Nat.reduceEqDiff, Int.reduceEq, r]), b1⟩)
  simp (disch := first | with_reducible assumption | omega) only [push_cast, x_blk, x_cd, ↓reduceIte, Nat.reduceEqDiff, List.map_cons, List.map_nil, Int.reduceEq, Int.lt_irrefl, c1, c2, c3, c4, k1.m0 ty_ag_3, k1.m1 ty_ag_3, k1.m2 ty_ag_23]
  refine call_of (row_Is h1.starts a.cs m.states (by omega)) ?_
  rintro v w2 ⟨rfl, s2⟩
  have k2 := k1.same s2
  have h2 := h1.same s2
  by_cases c6 : IsRow m.starts m.states
  case neg =>
    have r : decide m.May = false := decide_eq_false fun hm => c6 (mm.1 hm).2.2.2.2.2.1
    simp (disch := first | with_reducible assumption | omega) only [push_cast, x_blk, x_cd, ↓reduceIte, Nat.reduceEqDiff, List.map_cons, List.map_nil, Int.reduceEq, Int.lt_irrefl, c6]
    exact fin_1 (hQ _ _ ⟨(by simp only [push_cast, ↓reduceIte, Nat.reduceEqDiff, Int.reduceEq, r]), b1.trans (s2.below _)⟩)
  simp (disch := first | with_reducible assumption | omega) only [push_cast, x_blk, x_cd, ↓reduceIte, Nat.reduceEqDiff, List.map_cons, List.map_nil, Int.reduceEq, Int.lt_irrefl, c6, k2.m0 ty_ag_3, k2.m4 ty_ag_23]
  refine call_of (row_Is h2.ends a.ce m.states (by omega)) ?_
  rintro v w3 ⟨rfl, s3⟩
  have b3 : Below w.heap.size w w3 := b1.trans ((s2.trans s3).below _)
  by_cases c7 : IsRow m.ends m.states
  case neg =>
    have r : decide m.May = false := decide_eq_false fun hm => c7 (mm.1 hm).2.2.2.2.2.2.1
    simp (disch := first | with_reducible assumption | omega) only [push_cast, x_blk, x_cd, ↓reduceIte, Nat.reduceEqDiff, List.map_cons, List.map_nil, Int.reduceEq, Int.lt_irrefl, c7]
    exact fin_1 (hQ _ _ ⟨(by simp only [push_cast, ↓reduceIte, Nat.reduceEqDiff, Int.reduceEq, r]), b3⟩)
  have k3 := k2.same s3
  by_cases c5 : (4096 : Int) < (m.arrows.length : Int)
  · have r : decide m.May = false := decide_eq_false fun hm => by rw [mm] at hm; omega
    simp (disch := first | with_reducible assumption | omega) only [push_cast, x_blk, x_cd, ↓reduceIte, Nat.reduceEqDiff, List.map_cons, List.map_nil, Int.reduceEq, Int.lt_irrefl, c7, c5, k3.m3 ty_ag_24]
    exact fin_1 (hQ _ _ ⟨(by simp only [push_cast, ↓reduceIte, Nat.reduceEqDiff, Int.reduceEq, r]), b3⟩)
  simp (disch := first | with_reducible assumption | omega) only [push_cast, x_blk, x_cd, ↓reduceIte, Nat.reduceEqDiff, List.map_cons, List.map_nil, Int.reduceEq, Int.lt_irrefl, c7, c5, k3.m3 ty_ag_24]
  refine loop_rule (fun f w' => ∃ k : Nat, k ≤ m.arrows.length ∧ f 1 = .pointer (some ⟨w.heap.size, 0, none⟩) ∧ f 3 = .func (.func 64) #[] #[] ∧ f 47 = .slice a.Aa m.arrows.length a.ca ∧ f 48 = .int .i64 m.arrows.length ∧ f 49 = .int .i64 k ∧
      (∀ i, i < k → m.At i) ∧ Blk w' w.heap.size 26 (a.cells m) ∧ Below w.heap.size w w')
    (fun f _ => m.arrows.length - (intOf (f 49)).toNat) ⟨0, Nat.zero_le _, rfl, rfl, rfl, rfl, rfl, fun i hi => absurd hi (by omega), k3, b3⟩ ?_
  clear k3 b3 s3 s2 h2 k2 h1 k1 b1 z1
  rintro f w1 ⟨k, hk, g1, g3, g47, g48, g49, hp, k1, b1⟩ J hJ
  have h1 := (h.below b1).arrows
  by_cases hlt : k < m.arrows.length
  case neg =>
    have r : decide m.May = true := decide_eq_true (mm.2 ⟨by omega, by omega, by omega, by omega, by omega, c6, c7, fun i hi => hp i (by omega)⟩)
    simp (disch := first | with_reducible assumption | omega) only [push_cast, x_blk, x_cd, ↓reduceIte, Nat.reduceEqDiff, List.map_cons, List.map_nil, Int.reduceEq, Int.lt_irrefl, L_machine_May_0, g1, g47, g48, g49, hlt]
    exact fin_1 (hQ _ _ ⟨(by simp only [push_cast, ↓reduceIte, Nat.reduceEqDiff, Int.reduceEq, r]), b1⟩)
  have hA := h1.isSome (by omega)
  simp (disch := first | with_reducible assumption | omega) only [push_cast, x_blk, x_cd, ↓reduceIte, Nat.reduceEqDiff, List.map_cons, List.map_nil, Int.reduceEq, Int.lt_irrefl, L_machine_May_0, g1, g47, g48, g49, hlt, h1.ldA ty_ag_66 ty_sz_66]
  refine blk_of al_66 ?_
  intro w2 k2 b2 z2
  simp (disch := first | with_reducible assumption | omega) only [push_cast, x_blk, x_cd, ↓reduceIte, Nat.reduceEqDiff, List.map_cons, List.map_nil, Int.reduceEq, Int.lt_irrefl]
  refine sto_blk k2 (cs := arrCells (m.arrows.getD k default)) ty_sz_66 rfl (by simp [arrCells, Value.oneCell']) ?_
  intro w3 k3 q3 z3
  generalize hy : m.arrows.getD k default = y at *
  have hz : w.heap.size < w1.heap.size := k1.lt
  have b13 : Below w1.heap.size w1 w3 := q3.below b2 (by omega) (by intro a ha; injection ha with ha; subst ha; exact Nat.le_refl _)
  have k5 := (k1.below b13 hz).drew
  have b5 := drawn (b1.trans (b13.mono b1.size))
  have h5 := (h.below b5).arrows
  have k3' := k3.drew
  have bad : ¬ m.ArrOk y → decide m.May = false := fun hn => decide_eq_false fun hm => by
    have := ((mm.1 hm).2.2.2.2.2.2.2 k hlt).1
    rw [hy] at this
    exact hn this
  have ok : m.ArrOk y ↔ (0 ≤ y.frm ∧ y.frm < m.states) ∧ (0 ≤ y.to_ ∧ y.to_ < m.states) ∧ (0 ≤ y.evt ∧ y.evt < m.events) := Iff.rfl
  generalize hw3 : w3.drew = u at *
  have q4 := @Same.below
  simp (disch := first | with_reducible assumption | omega) only [push_cast, x_blk, x_cd, ↓reduceIte, Nat.reduceEqDiff, List.map_cons, List.map_nil, Int.reduceEq, Int.lt_irrefl, hw3, g1, g3, k3'.a0 ty_ag_3, k3'.a1 ty_ag_3, k3'.a2 ty_ag_3, k5.m0 ty_ag_3, k5.m1 ty_ag_3, callv_func, List.map_cons, List.map_nil, List.nil_append, List.append_nil]
  refine call_of (machine_in _ _ _) ?_
  rintro v w4 ⟨rfl, s4⟩
  have q4 := s4.below u.heap.size
  by_cases d1 : 0 ≤ y.frm ∧ y.frm < m.states
  case neg =>
    have r := bad fun hh => d1 (ok.1 hh).1
    simp (disch := first | with_reducible assumption | omega) only [push_cast, x_blk, x_cd, ↓reduceIte, Nat.reduceEqDiff, List.map_cons, List.map_nil, Int.reduceEq, Int.lt_irrefl, decide_eq_false d1]
    refine ⟨q4, q4, q4, q4, ?_⟩
    exact fin_1 (hQ _ _ ⟨(by simp only [push_cast, ↓reduceIte, Nat.reduceEqDiff, Int.reduceEq, r]), b5.trans (q4.mono b5.size)⟩)
  simp (disch := first | with_reducible assumption | omega) only [push_cast, x_blk, x_cd, ↓reduceIte, Nat.reduceEqDiff, List.map_cons, List.map_nil, Int.reduceEq, Int.lt_irrefl, decide_eq_true d1, g1, g3, k3'.a0 ty_ag_3, k3'.a1 ty_ag_3, k3'.a2 ty_ag_3, k5.m0 ty_ag_3, k5.m1 ty_ag_3, callv_func, List.map_cons, List.map_nil, List.nil_append, List.append_nil]
  refine ⟨q4, ?_⟩
  refine call_of (machine_in _ _ _) ?_
  rintro v w5 ⟨rfl, s5⟩
  have q5 := (s4.trans s5).below u.heap.size
  by_cases d2 : 0 ≤ y.to_ ∧ y.to_ < m.states
  case neg =>
    have r := bad fun hh => d2 (ok.1 hh).2.1
    simp (disch := first | with_reducible assumption | omega) only [push_cast, x_blk, x_cd, ↓reduceIte, Nat.reduceEqDiff, List.map_cons, List.map_nil, Int.reduceEq, Int.lt_irrefl, decide_eq_false d2]
    refine ⟨q5, q5, q5, ?_⟩
    exact fin_1 (hQ _ _ ⟨(by simp only [push_cast, ↓reduceIte, Nat.reduceEqDiff, Int.reduceEq, r]), b5.trans (q5.mono b5.size)⟩)
  simp (disch := first | with_reducible assumption | omega) only [push_cast, x_blk, x_cd, ↓reduceIte, Nat.reduceEqDiff, List.map_cons, List.map_nil, Int.reduceEq, Int.lt_irrefl, decide_eq_true d2, g1, g3, k3'.a0 ty_ag_3, k3'.a1 ty_ag_3, k3'.a2 ty_ag_3, k5.m0 ty_ag_3, k5.m1 ty_ag_3, callv_func, List.map_cons, List.map_nil, List.nil_append, List.append_nil]
  refine ⟨q5, ?_⟩
  refine call_of (machine_in _ _ _) ?_
  rintro v w6 ⟨rfl, s6⟩
  have q6 := ((s4.trans s5).trans s6).below u.heap.size
  have k6 := k5.same ((s4.trans s5).trans s6)
  have b6 := b5.trans (q6.mono b5.size)
  by_cases d3 : 0 ≤ y.evt ∧ y.evt < m.events
  case neg =>
    have r := bad fun hh => d3 (ok.1 hh).2.2
    simp (disch := first | with_reducible assumption | omega) only [push_cast, x_blk, x_cd, ↓reduceIte, Nat.reduceEqDiff, List.map_cons, List.map_nil, Int.reduceEq, Int.lt_irrefl, decide_eq_false d3]
    refine ⟨q6, q6, ?_⟩
    exact fin_1 (hQ _ _ ⟨(by simp only [push_cast, ↓reduceIte, Nat.reduceEqDiff, Int.reduceEq, r]), b6⟩)
  have hok : m.ArrOk y := ok.2 ⟨d1, d2, d3⟩
  by_cases d7 : (0 : Int) < (k : Int)
  case neg =>
    have hat : m.At k := ⟨by rw [hy]; exact hok, fun h0 => absurd h0 (by omega)⟩
    simp (disch := first | with_reducible assumption | omega) only [push_cast, x_blk, x_cd, ↓reduceIte, Nat.reduceEqDiff, List.map_cons, List.map_nil, Int.reduceEq, Int.lt_irrefl, decide_eq_true d3, d7, g1, g3, g47, g48, g49]
    refine ⟨q6, q6, ?_⟩
    exact hJ _ _ ⟨k + 1, hlt, (by simp only [push_cast, ↓reduceIte, Nat.reduceEqDiff, Int.reduceEq, g1]), (by simp only [push_cast, ↓reduceIte, Nat.reduceEqDiff, Int.reduceEq, g3]), (by simp only [push_cast, ↓reduceIte, Nat.reduceEqDiff, Int.reduceEq, g47]), (by simp only [push_cast, ↓reduceIte, Nat.reduceEqDiff, Int.reduceEq, g48]), (by simp only [push_cast, ↓reduceIte, Nat.reduceEqDiff, Int.reduceEq]), fun i hi => if e : i = k then e ▸ hat else hp i (by omega), k6, b6⟩ (by simp only [push_cast, ↓reduceIte, Nat.reduceEqDiff, g49, intOf]; omega)
  have e1 : ((k : Int) - 1).toNat = k - 1 := by omega
  simp (disch := first | with_reducible assumption | omega) only [push_cast, x_blk, x_cd, ↓reduceIte, Nat.reduceEqDiff, List.map_cons, List.map_nil, Int.reduceEq, Int.lt_irrefl, decide_eq_true d3, g1, g3, g49, d7, e1, k5.m3 ty_ag_24, k3'.aA ty_ag_66 ty_sz_66, h5.ldA ty_ag_66 ty_sz_66]
  refine ⟨q6, ?_⟩
  refine call_of (machine_order _ _ _) ?_
  rintro v w7 ⟨rfl, b7⟩
  have q7 : Below u.heap.size u w7 := q6.trans (b7.mono q6.size)
  have b8 := b5.trans (q7.mono b5.size)
  have k8 := k5.below q7 k5.lt
  by_cases d8 : (m.arrows.getD (k - 1) default).lt y
  · have hat : m.At k := ⟨by rw [hy]; exact hok, fun _ => by rw [hy]; exact d8⟩
    have d9 : ¬ 0 ≤ ordA (m.arrows.getD (k - 1) default) y := by rw [ordA_lt]; exact fun hn => hn d8
    simp (disch := first | with_reducible assumption | omega) only [push_cast, x_blk, x_cd, ↓reduceIte, Nat.reduceEqDiff, List.map_cons, List.map_nil, Int.reduceEq, Int.lt_irrefl, d9, g49]
    refine ⟨q7, ?_⟩
    exact hJ _ _ ⟨k + 1, hlt, (by simp only [push_cast, ↓reduceIte, Nat.reduceEqDiff, Int.reduceEq, g1]), (by simp only [push_cast, ↓reduceIte, Nat.reduceEqDiff, Int.reduceEq, g3]), (by simp only [push_cast, ↓reduceIte, Nat.reduceEqDiff, Int.reduceEq, g47]), (by simp only [push_cast, ↓reduceIte, Nat.reduceEqDiff, Int.reduceEq, g48]), (by simp only [push_cast, ↓reduceIte, Nat.reduceEqDiff, Int.reduceEq]), fun i hi => if e : i = k then e ▸ hat else hp i (by omega), k8, b8⟩ (by simp only [push_cast, ↓reduceIte, Nat.reduceEqDiff, g49, intOf]; omega)
  · have r : decide m.May = false := decide_eq_false fun hm => by
      have := ((mm.1 hm).2.2.2.2.2.2.2 k hlt).2 (by omega)
      rw [hy] at this
      exact d8 this
    have d9 : 0 ≤ ordA (m.arrows.getD (k - 1) default) y := by rw [ordA_lt]; exact d8
    simp (disch := first | with_reducible assumption | omega) only [push_cast, x_blk, x_cd, ↓reduceIte, Nat.reduceEqDiff, List.map_cons, List.map_nil, Int.reduceEq, Int.lt_irrefl, d9]
    refine ⟨q7, ?_⟩
    exact fin_1 (hQ _ _ ⟨(by simp only [push_cast, ↓reduceIte, Nat.reduceEqDiff, Int.reduceEq, r]), b8⟩)
end
end Go.Proofs.YtpinjiikiaakaaaDoor

/-
  Texts: values that are strings; letters and names; rows of names: the program's and the reference's.
-/
namespace Go.Proofs.YtpinjiikiaakaaaDoor
set_option linter.unusedSimpArgs false
set_option linter.unusedVariables false
set_option linter.unusedSectionVars false
open Go.RowKit

section
variable {P : Program} {K : Fr → World → Prop} {ty : TypeId} {u : World} {f : Fr} {d : Option Nat} {w : World}
theorem v_ix (t : TypeId) (o i : Operand) : ValX P K (.index t o i) ty u f d w = Val1 P K (Instr.index t (ev f o) (ev f i)) u f d w := propext Iff.rfl
theorem ba_list (s : ByteArray) : (⟨s.data.toList.toArray⟩ : ByteArray) = s := by cases s; rfl
theorem ba_inj {a b : ByteArray} (h : a.data.toList = b.data.toList) : a = b := by rw [← ba_list a, ← ba_list b, h]
theorem str_eq (a b : ByteArray) : (a.toList == b.toList) = decide (a = b) := by
  rw [ByteArray.toList_eq, ByteArray.toList_eq]
  by_cases h : a = b
  · subst h; simp
  · rw [decide_eq_false h]
    exact beq_eq_false_iff_ne.2 fun e => h (ba_inj e)
theorem bin_streq (t : TypeId) (xo yo : Operand) (a b : ByteArray) : Val1 P K (binS .eql t xo yo (.string a) (.string b)) u f d w = K (updO f d (.bool (decide (a = b)))) w :=
  val1_of u f d w fun w' _ => by simp [binS, eqGuard, binOp, Op.stringOp, str_eq]
theorem len_str {t : TypeId} (ht : P.underlying t = some .string) (s : ByteArray) : Val1 P K (Builtin.len_ #[t] ty #[.string s]) u f d w = K (updO f d (.int .i64 s.size)) w :=
  val1_of u f d w fun w' _ => by simp [Builtin.len_, run_underlying ht, goInt]
def byt (s : ByteArray) (i : Nat) : Int := ((s.data.toList.getD i 0).toNat : Int)
theorem ix_str {t : TypeId} (ht : P.underlying t = some .string) (s : ByteArray) (k : IntKind) (i : Nat) (h : i < s.size) : Val1 P K (Instr.index t (.string s) (.int k i)) u f d w = K (updO f d (.int .u8 (byt s i))) w :=
  val1_of u f d w fun w' _ => by
    have h1 : (0 : Int) ≤ (i : Int) := by omega
    have h2 : s[i]? = some (s.data.toList.getD i 0) := by
      rw [getElem?_pos s i h]
      congr 1
      rw [List.getD_eq_getElem?_getD, Array.getElem?_toList, Array.getElem?_eq_getElem (by exact h)]
      rfl
    simp [Instr.index, run_underlying ht, asIntOf, h2, byt]
end
attribute [push_cast] v_ix bin_streq
theorem t_str : Tryd.prog.underlying 9 = some .string := by kernel_rfl
section
variable {K : Fr → World → Prop} {ty : TypeId} {u : World} {f : Fr} {d : Option Nat} {w : World}
theorem ln_str (s : ByteArray) : Val1 Tryd.prog K (Builtin.len_ #[9] ty #[.string s]) u f d w = K (updO f d (.int .i64 s.size)) w := len_str t_str s
theorem ix_str' (s : ByteArray) (k : IntKind) (i : Nat) (h : i < s.size) : Val1 Tryd.prog K (Instr.index 9 (.string s) (.int k i)) u f d w = K (updO f d (.int .u8 (byt s i))) w := ix_str t_str s k i h
theorem ix_str0 (s : ByteArray) (h : 0 < s.size) : Val1 Tryd.prog K (Instr.index 9 (.string s) (.int .i64 0)) u f d w = K (updO f d (.int .u8 (byt s 0))) w := ix_str t_str s .i64 0 h
end
attribute [push_cast] ln_str
def IsLet (c : Int) : Prop := (97 ≤ c ∧ c ≤ 122) ∨ (65 ≤ c ∧ c ≤ 90)
instance (c : Int) : Decidable (IsLet c) := inferInstanceAs (Decidable (_ ∨ _))
def IsIn (c : Int) : Prop := IsLet c ∨ (48 ≤ c ∧ c ≤ 57) ∨ c = 95
instance (c : Int) : Decidable (IsIn c) := inferInstanceAs (Decidable (_ ∨ _))
theorem text_letter (c : Int) (w : World) : Cal Tryd.prog 31 [.int .u8 c] w fun v w' => v = .bool (decide (IsLet c)) ∧ Same w w' := by
  refine cal_text_letter (by simp) 1000 fun Q hQ => ?_
  by_cases h1 : 97 ≤ c <;> by_cases h2 : c ≤ 122 <;> by_cases h3 : 65 ≤ c <;> by_cases h4 : c ≤ 90 <;>
    (simp (disch := first | with_reducible assumption | omega) only [push_cast, x_blk, x_cd, ↓reduceIte, Nat.reduceEqDiff, List.map_cons, List.map_nil, Int.reduceEq, Int.lt_irrefl, F_text_letter, h1, h2, h3, h4]; exact fin_1 (hQ _ _ ⟨by simp only [push_cast, ↓reduceIte, Nat.reduceEqDiff]; simp [IsLet, h1, h2, h3, h4], Same.refl _⟩))
theorem text_part (c : Int) (w : World) : Cal Tryd.prog 32 [.int .u8 c] w fun v w' => v = .bool (decide (IsIn c)) ∧ Same w w' := by
  refine cal_text_part (by simp) 1000 fun Q hQ => ?_
  simp (disch := first | with_reducible assumption | omega) only [push_cast, x_blk, x_cd, ↓reduceIte, Nat.reduceEqDiff, List.map_cons, List.map_nil, Int.reduceEq, Int.lt_irrefl, F_text_part]
  refine call_of (text_letter c w) ?_
  rintro v w1 ⟨rfl, s1⟩
  by_cases h0 : IsLet c
  · simp (disch := first | with_reducible assumption | omega) only [push_cast, x_blk, x_cd, ↓reduceIte, Nat.reduceEqDiff, List.map_cons, List.map_nil, Int.reduceEq, Int.lt_irrefl, decide_eq_true h0]
    exact fin_1 (hQ _ _ ⟨by (try simp only [push_cast, ↓reduceIte, Nat.reduceEqDiff]); simp [IsIn, h0], s1⟩)
  by_cases h3 : c = 95
  · have e3 := eq_true h3
    by_cases h1 : 48 ≤ c <;> by_cases h2 : c ≤ 57 <;>
      (simp (disch := first | with_reducible assumption | omega) only [push_cast, x_blk, x_cd, ↓reduceIte, Nat.reduceEqDiff, List.map_cons, List.map_nil, Int.reduceEq, Int.lt_irrefl, decide_eq_false h0, h1, h2, e3]; exact fin_1 (hQ _ _ ⟨by simp only [push_cast, ↓reduceIte, Nat.reduceEqDiff]; simp [IsIn, h0, h3], s1⟩))
  · by_cases h1 : 48 ≤ c <;> by_cases h2 : c ≤ 57 <;>
      (simp (disch := first | with_reducible assumption | omega) only [push_cast, x_blk, x_cd, ↓reduceIte, Nat.reduceEqDiff, List.map_cons, List.map_nil, Int.reduceEq, Int.lt_irrefl, decide_eq_false h0, h1, h2, h3]; exact fin_1 (hQ _ _ ⟨by simp only [push_cast, ↓reduceIte, Nat.reduceEqDiff]; simp [IsIn, h0, h1, h2, h3], s1⟩))
def Named (s : ByteArray) : Prop := (∀ i, i < s.size → IsIn (byt s i)) ∧ 1 ≤ s.size ∧ s.size ≤ 16 ∧ IsLet (byt s 0)
instance (s : ByteArray) : Decidable (Named s) := inferInstanceAs (Decidable (_ ∧ _))
theorem text_named (s : ByteArray) (hs : s.size ≤ 9223372036854775806) (w : World) : Cal Tryd.prog 63 [.string s] w fun v w' => v = .bool (decide (Named s)) ∧ Same w w' := by
  refine cal_text_named (by simp) 1000 fun Q hQ => ?_
  simp (disch := first | with_reducible assumption | omega) only [push_cast, x_blk, x_cd, ↓reduceIte, Nat.reduceEqDiff, List.map_cons, List.map_nil, Int.reduceEq, Int.lt_irrefl, F_text_named]
  refine loop_rule (fun f w' => ∃ k : Nat, k ≤ s.size ∧ (f 0 = .string s ∧ f 5 = .int .i64 s.size ∧ f 6 = .int .i64 k) ∧ (∀ i, i < k → IsIn (byt s i)) ∧ Same w w')
    (fun f _ => s.size - (intOf (f 6)).toNat) ⟨0, Nat.zero_le _, ⟨rfl, rfl, rfl⟩, fun i hi => absurd hi (by omega), Same.refl w⟩ ?_
  rintro f w1 ⟨k, hk, fr, hal, s1⟩ J hJ
  have hmu : (intOf (f 6)).toNat = k := by rw [fr.2.2]; simp [intOf]
  by_cases hlt : k < s.size
  case neg =>
    obtain rfl : k = s.size := by omega
    by_cases h1 : (1 : Int) ≤ (s.size : Int)
    case neg =>
      simp (disch := first | with_reducible assumption | omega) only [push_cast, x_blk, x_cd, ↓reduceIte, Nat.reduceEqDiff, List.map_cons, List.map_nil, Int.reduceEq, Int.lt_irrefl, L_text_named_0, fr, Nat.lt_irrefl, h1]
      exact fin_1 (hQ _ _ ⟨by simp only [push_cast, ↓reduceIte, Nat.reduceEqDiff]; rw [decide_eq_false fun h => h1 (by have := h.2.1; omega)], s1⟩)
    by_cases h2 : (s.size : Int) ≤ 16
    case neg =>
      simp (disch := first | with_reducible assumption | omega) only [push_cast, x_blk, x_cd, ↓reduceIte, Nat.reduceEqDiff, List.map_cons, List.map_nil, Int.reduceEq, Int.lt_irrefl, L_text_named_0, fr, Nat.lt_irrefl, h1, h2]
      exact fin_1 (hQ _ _ ⟨by simp only [push_cast, ↓reduceIte, Nat.reduceEqDiff]; rw [decide_eq_false fun h => h2 (by have := h.2.2.1; omega)], s1⟩)
    have hp : 0 < s.size := by omega
    simp (disch := first | with_reducible assumption | omega) only [push_cast, x_blk, x_cd, ↓reduceIte, Nat.reduceEqDiff, List.map_cons, List.map_nil, Int.reduceEq, Int.lt_irrefl, L_text_named_0, fr, Nat.lt_irrefl, h1, h2, ix_str0 s hp]
    refine call_of (text_letter (byt s 0) w1) ?_
    rintro v w2 ⟨rfl, s2⟩
    simp (disch := first | with_reducible assumption | omega) only [push_cast, x_blk, x_cd, ↓reduceIte, Nat.reduceEqDiff, List.map_cons, List.map_nil, Int.reduceEq, Int.lt_irrefl]
    refine fin_1 (hQ _ _ ⟨?_, s1.trans s2⟩)
    by_cases h3 : IsLet (byt s 0)
    · have : Named s := ⟨hal, by omega, by omega, h3⟩
      simp only [push_cast, ↓reduceIte, Nat.reduceEqDiff, decide_eq_true this, decide_eq_true h3]
    · have : ¬ Named s := fun h => h3 h.2.2.2
      simp only [push_cast, ↓reduceIte, Nat.reduceEqDiff, decide_eq_false this, decide_eq_false h3]
  simp (disch := first | with_reducible assumption | omega) only [push_cast, x_blk, x_cd, ↓reduceIte, Nat.reduceEqDiff, List.map_cons, List.map_nil, Int.reduceEq, Int.lt_irrefl, L_text_named_0, fr, hlt, ix_str' s .i64 k hlt]
  refine call_of (text_part (byt s k) w1) ?_
  rintro v w2 ⟨rfl, s2⟩
  by_cases h3 : IsIn (byt s k)
  · simp (disch := first | with_reducible assumption | omega) only [push_cast, x_blk, x_cd, ↓reduceIte, Nat.reduceEqDiff, List.map_cons, List.map_nil, Int.reduceEq, Int.lt_irrefl, fr, decide_eq_true h3]
    exact hJ _ _ ⟨k + 1, hlt, (by simp only [push_cast, ↓reduceIte, Nat.reduceEqDiff, true_and, and_true, and_self, eq_self, fr]), fun i hi => by
      by_cases c : i = k
      · subst c; exact h3
      · exact hal i (by omega), s1.trans s2⟩ (by rw [hmu]; simp only [push_cast, ↓reduceIte, Nat.reduceEqDiff, intOf, fr]; omega)
  · simp (disch := first | with_reducible assumption | omega) only [push_cast, x_blk, x_cd, ↓reduceIte, Nat.reduceEqDiff, List.map_cons, List.map_nil, Int.reduceEq, Int.lt_irrefl, fr, decide_eq_false h3]
    exact fin_1 (hQ _ _ ⟨by simp only [push_cast, ↓reduceIte, Nat.reduceEqDiff]; rw [decide_eq_false fun h => h3 (h.1 k hlt)], s1.trans s2⟩)
end Go.Proofs.YtpinjiikiaakaaaDoor

/-
  Rows of names: where a text is in a row; may names be: the program's and the reference's: by their contracts.
-/
namespace Go.Proofs.YtpinjiikiaakaaaDoor
set_option linter.unusedSimpArgs false
set_option linter.unusedVariables false
set_option linter.unusedSectionVars false
open Go.RowKit

def strE (s : ByteArray) : List Value := [.string s]
theorem strEnc : Enc strE 1 := ⟨fun _ => rfl, fun s u hu => by
  unfold strE at hu
  rw [List.mem_singleton.1 hu]; rfl⟩
abbrev Strs (ok : Nat → Prop) (w : World) (A : Option Addr) (l : List ByteArray) : Prop := Recs strE 1 ok w A l
theorem Strs.ld {K : Fr → World → Prop} {u : World} {f : Fr} {d : Option Nat} {w : World} {i : Nat} {ok : Nat → Prop} {A : Option Addr} {l : List ByteArray} {s : ByteArray} (h : Strs ok u A l) (hi : l[i]? = some s) :
    Val1 Tryd.prog K (Instr.loadAt 9 (.pointer (some (eA A i)))) u f d w = K (updO f d (.string s)) w := by
  have := Recs.ld0 (P := Tryd.prog) (K := K) (f := f) (d := d) (w := w) h ty_ag_9 hi (v := .string s) rfl
  rwa [Nat.mul_one] at this
theorem Strs.take {ok : Nat → Prop} {u : World} {A : Option Addr} {l : List ByteArray} (h : Strs ok u A l) (k : Nat) : Strs ok u A (l.take k) :=
  ⟨fun hl => h.isSome (by rw [List.length_take] at hl; omega), fun hl => h.block (by rw [List.length_take] at hl; omega), fun i a hi => h.cell i a (by
    rw [List.getElem?_take] at hi
    split at hi
    · exact hi
    · cases hi)⟩
theorem Strs.same {u u' : World} {A : Option Addr} {l : List ByteArray} (h : Strs (· < u.heap.size) u A l) (s : Same u u') : Strs (· < u'.heap.size) u' A l :=
  (Recs.same h s).mono fun b hb => Nat.lt_of_lt_of_le hb (s.below u.heap.size).size
theorem slice_headS {P : Program} {K : Fr → World → Prop} {u w : World} {f : Fr} {d : Option Nat} {A : Option Addr} {n c e bytes t : Nat} {sz : Nat} (hT : SlT P t e sz bytes) (k : Nat) (hk : k ≤ c) : Val1 P K (Instr.sliceAt t (.slice A n c) none (some (.int .i64 k)) none) u f d w = K (updO f d (.slice A k c)) w :=
  val1_of u f d w fun w' _ => by
    obtain ⟨i, z, hi, hz, hs, hb, hcc⟩ := hT.get
    have h1 : (0 : Int) ≤ (k : Int) ∧ (k : Int) ≤ (c : Int) := by omega
    cases A with
    | none => simp [Instr.sliceAt, run_underlying hT.under, Instr.slice, Instr.sliceBounds, Instr.sliceBound, asIntOf, hk, sizeOf, typeInfo, hi, hs]
    | some a => simp [Instr.sliceAt, run_underlying hT.under, Instr.slice, Instr.sliceBounds, Instr.sliceBound, asIntOf, hk, sizeOf, typeInfo, hi, hs, Addr.add]
instance memS (s : ByteArray) (l : List ByteArray) : Decidable (s ∈ l) := decidable_of_iff (∃ x ∈ l, x = s) ⟨fun ⟨_, h, e⟩ => e ▸ h, fun h => ⟨s, h, rfl⟩⟩
/-- Where a text is in a row; -1 where it is not. -/
def ixS (s : ByteArray) (l : List ByteArray) : Int := if s ∈ l then (l.findIdx (fun x => decide (x = s)) : Int) else -1
theorem ixS_found {s : ByteArray} {l : List ByteArray} {k : Nat} (h : l[k]? = some s) (hno : ∀ j, j < k → l[j]? ≠ some s) : ixS s l = k := by
  have hm := List.mem_of_getElem? h
  unfold ixS
  rw [if_pos hm]
  congr 1
  have key : ∀ (l : List ByteArray) (k : Nat), l[k]? = some s → (∀ j, j < k → l[j]? ≠ some s) → l.findIdx (fun x => decide (x = s)) = k := by
    intro l
    induction l with
    | nil => intro k h; simp at h
    | cons x l ih =>
      intro k h hno
      cases k with
      | zero =>
        simp only [List.getElem?_cons_zero, Option.some.injEq] at h
        subst h
        simp [List.findIdx_cons]
      | succ k =>
        have hx : x ≠ s := fun e => hno 0 (by omega) (by simp [e])
        rw [List.findIdx_cons, decide_eq_false hx, ih k (by simpa using h) fun j hj => by have := hno (j + 1) (by omega); simpa using this]
        rfl
  exact key l k h hno
theorem ixS_none {s : ByteArray} {l : List ByteArray} (h : ∀ j, j < l.length → l[j]? ≠ some s) : ixS s l = -1 := by
  unfold ixS
  rw [if_neg]
  intro hm
  obtain ⟨j, hj⟩ := List.mem_iff_getElem?.1 hm
  exact h j (List.getElem?_eq_some_iff.1 hj).1 hj
theorem ixS_mem {s : ByteArray} {l : List ByteArray} : 0 ≤ ixS s l ↔ s ∈ l := by
  unfold ixS
  by_cases h : s ∈ l
  · rw [if_pos h]; exact ⟨fun _ => h, fun _ => by omega⟩
  · rw [if_neg h]; exact ⟨fun h => by omega, fun h' => absurd h' h⟩
theorem str_Index {w : World} {A : Option Addr} {l : List ByteArray} (h : Strs (· < w.heap.size) w A l) (c : Nat) (hl : l.length ≤ 9223372036854775806) (s : ByteArray) :
    Cal Tryd.prog 57 [.slice A l.length c, .string s] w fun v w' => v = .int .i64 (ixS s l) ∧ Same w w' := by
  refine cal_slices_Index_str (by simp) 1000 fun Q hQ => ?_
  simp (disch := first | with_reducible assumption | omega) only [push_cast, x_blk, x_cd, ↓reduceIte, Nat.reduceEqDiff, List.map_cons, List.map_nil, Int.reduceEq, Int.lt_irrefl, F_slices_Index_str]
  refine loop_rule (fun f w' => ∃ k : Nat, k ≤ l.length ∧ (f 0 = .slice A l.length c ∧ f 1 = .string s ∧ f 7 = .int .i64 l.length ∧ f 8 = .int .i64 k) ∧ (∀ j, j < k → l[j]? ≠ some s) ∧ w' = w)
    (fun f _ => l.length - (intOf (f 8)).toNat) ⟨0, Nat.zero_le _, ⟨rfl, rfl, rfl, rfl⟩, fun i hi => absurd hi (by omega), rfl⟩ ?_
  rintro f w1 ⟨k, hk, fr, hno, rfl⟩ J hJ
  have hmu : (intOf (f 8)).toNat = k := by rw [fr.2.2.2]; simp [intOf]
  by_cases hlt : k < l.length
  case neg =>
    simp (disch := first | with_reducible assumption | omega) only [push_cast, x_blk, x_cd, ↓reduceIte, Nat.reduceEqDiff, List.map_cons, List.map_nil, Int.reduceEq, Int.lt_irrefl, L_slices_Index_str_0, fr, hlt]
    exact fin_1 (hQ _ _ ⟨by simp only [push_cast, ↓reduceIte, Nat.reduceEqDiff]; rw [ixS_none fun j hj => hno j (by omega)], Same.refl _⟩)
  have hx : l[k]? = some (l[k]'hlt) := List.getElem?_eq_getElem hlt
  generalize l[k]'hlt = x at hx
  have sA := h.isSome (by omega)
  by_cases hc : s = x
  · have ec := eq_true hc
    simp (disch := first | with_reducible assumption | omega) only [push_cast, x_blk, x_cd, ↓reduceIte, Nat.reduceEqDiff, List.map_cons, List.map_nil, Int.reduceEq, Int.lt_irrefl, L_slices_Index_str_0, fr, hlt, sA, h.ld hx, ec]
    exact fin_1 (hQ _ _ ⟨by simp only [push_cast, ↓reduceIte, Nat.reduceEqDiff, fr]; rw [ixS_found (by rw [hc]; exact hx) hno], Same.refl _⟩)
  · simp (disch := first | with_reducible assumption | omega) only [push_cast, x_blk, x_cd, ↓reduceIte, Nat.reduceEqDiff, List.map_cons, List.map_nil, Int.reduceEq, Int.lt_irrefl, L_slices_Index_str_0, fr, hlt, sA, h.ld hx, hc]
    exact hJ _ _ ⟨k + 1, hlt, (by simp only [push_cast, ↓reduceIte, Nat.reduceEqDiff, true_and, and_true, and_self, eq_self, fr]), fun j hj => by
      by_cases e : j = k
      · subst e; rw [hx]; exact fun e => hc (Option.some.inj e).symm
      · exact hno j (by omega), rfl⟩ (by rw [hmu]; simp only [push_cast, ↓reduceIte, Nat.reduceEqDiff, intOf, fr]; omega)
theorem str_Contains {w : World} {A : Option Addr} {l : List ByteArray} (h : Strs (· < w.heap.size) w A l) (c : Nat) (hl : l.length ≤ 9223372036854775806) (s : ByteArray) :
    Cal Tryd.prog 37 [.slice A l.length c, .string s] w fun v w' => v = .bool (decide (s ∈ l)) ∧ Same w w' := by
  refine cal_slices_Contains_str (by simp) 1000 fun Q hQ => ?_
  simp (disch := first | with_reducible assumption | omega) only [push_cast, x_blk, x_cd, ↓reduceIte, Nat.reduceEqDiff, List.map_cons, List.map_nil, Int.reduceEq, Int.lt_irrefl, F_slices_Contains_str]
  refine call_of (str_Index h c hl s) ?_
  rintro v w1 ⟨rfl, s1⟩
  simp (disch := first | with_reducible assumption | omega) only [push_cast, x_blk, x_cd, ↓reduceIte, Nat.reduceEqDiff, List.map_cons, List.map_nil, Int.reduceEq, Int.lt_irrefl]
  exact fin_1 (hQ _ _ ⟨by simp only [push_cast, ↓reduceIte, Nat.reduceEqDiff, ixS_mem], s1⟩)
end Go.Proofs.YtpinjiikiaakaaaDoor

/-
  May names be: the program's and the reference's: by their contracts.
-/
namespace Go.Proofs.YtpinjiikiaakaaaDoor
set_option linter.unusedSimpArgs false
set_option linter.unusedVariables false
set_option linter.unusedSectionVars false
open Go.RowKit

def NamesOk (l : List ByteArray) : Prop := ∀ i s, l[i]? = some s → Named s ∧ s ∉ l.take i
theorem text_distinct {w : World} {A : Option Addr} {l : List ByteArray} (h : Strs (· < w.heap.size) w A l) (c : Nat) (hl : l.length ≤ 9223372036854775806) (hc : l.length ≤ c) (hs : ∀ s ∈ l, s.size ≤ 9223372036854775806) (a b : Int) :
    Cal Tryd.prog 49 [.slice A l.length c, .int .i64 a, .int .i64 b] w fun v w' => (∃ r : Bool, v = .bool r ∧ (r = true ↔ NamesOk l ∧ a ≤ l.length ∧ l.length ≤ b)) ∧ Same w w' := by
  refine cal_text_distinct (by simp) 1000 fun Q hQ => ?_
  simp (disch := first | with_reducible assumption | omega) only [push_cast, x_blk, x_cd, ↓reduceIte, Nat.reduceEqDiff, List.map_cons, List.map_nil, Int.reduceEq, Int.lt_irrefl, F_text_distinct]
  refine loop_rule (fun f w' => ∃ k : Nat, k ≤ l.length ∧ (f 0 = .slice A l.length c ∧ f 1 = .int .i64 a ∧ f 2 = .int .i64 b ∧ f 9 = .slice A l.length c ∧ f 10 = .int .i64 l.length ∧ f 11 = .int .i64 k) ∧ (∀ i s, i < k → l[i]? = some s → Named s ∧ s ∉ l.take i) ∧ Same w w')
    (fun f _ => l.length - (intOf (f 11)).toNat) ⟨0, Nat.zero_le _, ⟨rfl, rfl, rfl, rfl, rfl, rfl⟩, fun i s hi => absurd hi (by omega), Same.refl w⟩ ?_
  rintro f w1 ⟨k, hk, fr, hal, s1⟩ J hJ
  have hmu : (intOf (f 11)).toNat = k := by rw [fr.2.2.2.2.2]; simp [intOf]
  by_cases hlt : k < l.length
  case neg =>
    have hN : NamesOk l := fun i s hi => hal i s (by have := (List.getElem?_eq_some_iff.1 hi).1; omega) hi
    by_cases h1 : a ≤ (l.length : Int) <;> by_cases h2 : (l.length : Int) ≤ b <;>
      (simp (disch := first | with_reducible assumption | omega) only [push_cast, x_blk, x_cd, ↓reduceIte, Nat.reduceEqDiff, List.map_cons, List.map_nil, Int.reduceEq, Int.lt_irrefl, L_text_distinct_0, fr, hlt, h1, h2]
       exact fin_1 (hQ _ _ ⟨⟨_, by simp only [push_cast, ↓reduceIte, Nat.reduceEqDiff, fr, h1, h2]; rfl, by simp [hN, h1, h2]⟩, s1⟩))
  have hx : l[k]? = some (l[k]'hlt) := List.getElem?_eq_getElem hlt
  generalize l[k]'hlt = s at hx
  have h1 := h.same s1
  have sA := h.isSome (by omega)
  simp (disch := first | with_reducible assumption | omega) only [push_cast, x_blk, x_cd, ↓reduceIte, Nat.reduceEqDiff, List.map_cons, List.map_nil, Int.reduceEq, Int.lt_irrefl, L_text_distinct_0, fr, hlt, sA, h1.ld hx]
  refine call_of (text_named s (hs s (List.mem_of_getElem? hx)) w1) ?_
  rintro v w2 ⟨rfl, s2⟩
  by_cases q1 : Named s
  case neg =>
    simp (disch := first | with_reducible assumption | omega) only [push_cast, x_blk, x_cd, ↓reduceIte, Nat.reduceEqDiff, List.map_cons, List.map_nil, Int.reduceEq, Int.lt_irrefl, fr, decide_eq_false q1]
    exact fin_1 (hQ _ _ ⟨⟨false, by simp only [push_cast, ↓reduceIte, Nat.reduceEqDiff, fr], by
      constructor
      · intro h; cases h
      · intro h; exact absurd (h.1 k s hx).1 q1⟩, s1.trans s2⟩)
  have hkc : k ≤ c := by omega
  have htl : k = (l.take k).length := by rw [List.length_take]; omega
  simp (disch := first | with_reducible assumption | omega) only [push_cast, x_blk, x_cd, ↓reduceIte, Nat.reduceEqDiff, List.map_cons, List.map_nil, Int.reduceEq, Int.lt_irrefl, fr, decide_eq_true q1, slice_headS slT_22 k hkc]
  rw [htl]
  refine call_of (str_Contains (((h1.same s2).take k)) c (by rw [← htl]; omega) s) ?_
  rw [← htl]
  rintro v w3 ⟨rfl, s3⟩
  have s13 := s1.trans (s2.trans s3)
  by_cases q2 : s ∈ l.take k
  · simp (disch := first | with_reducible assumption | omega) only [push_cast, x_blk, x_cd, ↓reduceIte, Nat.reduceEqDiff, List.map_cons, List.map_nil, Int.reduceEq, Int.lt_irrefl, fr, decide_eq_true q2]
    exact fin_1 (hQ _ _ ⟨⟨false, by simp only [push_cast, ↓reduceIte, Nat.reduceEqDiff, fr], by
      constructor
      · intro h; cases h
      · intro h; exact absurd q2 (h.1 k s hx).2⟩, s13⟩)
  · simp (disch := first | with_reducible assumption | omega) only [push_cast, x_blk, x_cd, ↓reduceIte, Nat.reduceEqDiff, List.map_cons, List.map_nil, Int.reduceEq, Int.lt_irrefl, fr, decide_eq_false q2]
    exact hJ _ _ ⟨k + 1, hlt, (by simp only [push_cast, ↓reduceIte, Nat.reduceEqDiff, true_and, and_true, and_self, eq_self, fr]), fun i s' hi hs' => by
      by_cases e : i = k
      · subst e; rw [hx] at hs'; injection hs' with hs'; subst hs'; exact ⟨q1, q2⟩
      · exact hal i s' (by omega) hs', s13⟩ (by rw [hmu]; simp only [push_cast, ↓reduceIte, Nat.reduceEqDiff, intOf, fr]; omega)
end Go.Proofs.YtpinjiikiaakaaaDoor

/-
  What comes in: the arguments of a law, opened to integers, rows of integers, machines. No program in sight. (Two blocks after the guide's page on structs.)
  What comes in: plants. No program in sight.
-/
namespace Go.Proofs.YtpinjiikiaakaaaDoor
set_option linter.unusedSimpArgs false
set_option linter.unusedVariables false
set_option linter.unusedSectionVars false
section
open Go.RowKit Go.ChangeShapes Go.WideShapes Go.Deep Go.Joins

section
variable {H : Type} {enc : TypeId × Value → H} {P : Program} {w : World} {base : Nat} {spare : Nat → Bool} {held : Bool}
theorem open_slice_fields {t e : TypeId} {fs : Array Field} {fuel : Nat} {cs : List Value} {x : DataW H × List MemPlace} (ht : P.underlying t = some (.slice e)) (he : P.underlying e = some (.struct fs))
    (hone : oneCellFields P fs = true) (hC : P.cellsOf e = fs.size) (h : DataW.trod enc P w base spare held fuel t cs = some x) :
    (cs = [.slice none 0 0] ∧ x = (.nil, [])) ∨
    ∃ (a : Addr) (len cap m : Nat) (D : Nat → DataW H) (Pl : Nat → List MemPlace), cs = [.slice (some a) len cap] ∧ base ≤ a.block ∧ len ≤ cap ∧ cap ≤ maxLen ∧ m = (if spare a.block then cap else len) ∧
      x = (.slice ((List.range len).map D) ((List.range (m - len)).map fun j => D (len + j)), MemPlace.row a (m * fs.size) ++ (List.range m).flatMap Pl) ∧
      ∀ i, i < m → ∃ (ys : List (DataW H × List MemPlace)) (n : Nat), D i = .agg (ys.map (·.1)) ∧ Pl i = ys.flatMap (·.2) ∧ ys.length = fs.size ∧
        ∀ (j : Nat) (f : Field), fs[j]? = some f → ∃ (v : Value) (y : DataW H × List MemPlace), w.cell? (a.add (i * fs.size + j)) = some v ∧ ys[j]? = some y ∧ DataW.trod enc P w base spare held n f.type [v] = some y := by
  rcases open_slice ht h with h0 | ⟨a, len, cap, m, n, D, Pl, hcs, hb, hl, hm, hmm, hx, hi⟩
  · exact .inl h0
  · refine .inr ⟨a, len, cap, m, D, Pl, hcs, hb, hl, hm, hmm, by rw [hC] at hx; exact hx, fun i him => ?_⟩
    obtain ⟨cs', hc, ht'⟩ := hi i him
    rw [hC] at hc
    obtain ⟨ys, n', hn', hy, hlen, hyl, hf⟩ := DataW.trod_struct he ht'
    obtain ⟨_, hcl, hat⟩ := World.cells?_some hc
    simp only [Prod.mk.injEq] at hy
    refine ⟨ys, n', hy.1, hy.2, hyl, fun j f hj => ?_⟩
    obtain ⟨ho, hk⟩ := hone_of hone j f hj
    have hjl : j < fs.size := (Array.getElem?_eq_some_iff.1 hj).1
    have hcell := hat j hjl
    have hv : cs'[j]? = some (cs'[j]'(by omega)) := List.getElem?_eq_getElem (by omega)
    have h1 := hf j f hj
    rw [ho, hk] at h1
    have hone' : (cs'.drop j).take 1 = [cs'[j]'(by omega)] := by
      rw [List.drop_eq_getElem_cons (by omega)]
      rfl
    rw [hone'] at h1
    have hys : ys[j]? = some (ys[j]'(by omega)) := List.getElem?_eq_getElem (by omega)
    refine ⟨_, _, ?_, hys, h1.trans hys⟩
    rw [← Go.Deep.add_add, hcell, hv]
end

section
variable {H : Type} {enc : TypeId × Value → H} {P : Program} {w : World} {base : Nat} {spare : Nat → Bool} {held : Bool}
end

def Sized {H : Type} (P : Program) (t : TypeId) (d : DataW H) : Prop := ∀ n ∈ d.weights P t, n ≤ reachBytes
theorem sized_of {H : Type} {P : Program} {ts : List TypeId} {ds : List (DataW H)} (h : (DataW.weightsEach P ts ds).all (· ≤ reachBytes) = true) (j : Nat) {t : TypeId} {d : DataW H} (ht : ts[j]? = some t) (hd : ds[j]? = some d) : Sized P t d :=
  fun n hn => by simpa using List.all_eq_true.1 h n (DataW.weights_mem_each ht hd n hn)
theorem i64_of_wf {x : Int} (h : (Lit.int .i64 x).wf = true) : I64 x := by
  simp [Lit.wf, IntKind.min, IntKind.max, IntKind.signed, IntKind.bits] at h
  exact ⟨by omega, by omega⟩
section
variable {H : Type} {enc : TypeId × Value → H} {P : Program} {w : World} {base : Nat} {spare : Nat → Bool} {held : Bool}
theorem cell_int {t : TypeId} {n : Nat} {v : Value} {y : DataW H × List MemPlace} (ht : P.underlying t = some (.int .i64)) (h : DataW.trod enc P w base spare held n t [v] = some y) : ∃ x, v = .int .i64 x ∧ I64 x := by
  obtain ⟨x, hx, _, hw⟩ := DataW.trod_int ht h
  simp at hx
  exact ⟨x, hx, i64_of_wf hw⟩
theorem cell_ints {t e : TypeId} {n : Nat} {v : Value} {y : DataW H × List MemPlace} (ht : P.underlying t = some (.slice e)) (he : P.underlying e = some (.int .i64)) (hc : P.cellsOf e = 1) (hb : P.bytesOf e = 8)
    (h : DataW.trod enc P w base spare held n t [v] = some y) (hs : Sized P t y.1) :
    ∃ A c l, v = .slice A l.length c ∧ l.length ≤ c ∧ Ints (· < w.heap.size) w A l ∧ (∀ x ∈ l, I64 x) ∧ l.length ≤ 17592186043904 ∧ ((y.1 = .nil ∧ l = []) ∨ ∃ elems spare, y.1 = .slice elems spare ∧ elems.length = l.length) := by
  rcases open_ints ht he hc h with ⟨hcs, hx0⟩ | ⟨a, len, cap, zs, hcs, _, hl, hm, hz, hx, hcell, hwz⟩
  · simp at hcs
    exact ⟨none, 0, [], by simpa using hcs, by simp, Ints.nil _ _ _, by simp, by simp, .inl ⟨by rw [hx0], rfl⟩⟩
  · simp at hcs
    have hzl : len ≤ zs.length := by rw [hz]; split <;> omega
    have hlen : (zs.take len).length = len := by simp; omega
    refine ⟨some a, cap, zs.take len, by rw [hlen]; exact hcs, by rw [hlen]; exact hl, ⟨fun _ => rfl, fun h0 => ?_, fun i hi => ?_⟩, fun x hx' => i64_of_wf (hwz x (List.mem_of_mem_take hx')), ?_, .inr ⟨_, _, congrArg Prod.fst hx, by simp [lits]⟩⟩
    · have := World.block_lt_of_cell? w _ (hcell 0 (by omega))
      rwa [show (a.add 0).block = a.block from by unfold Addr.add; rfl] at this
    · have hi' : i < len := by omega
      rw [eA_some, hcell i (by omega)]
      simp [List.getD_eq_getElem?_getD, hi']
    · rw [hlen]
      have := hs ((zs.take len).length * 8 + (zs.drop len).length * 8) (by
        rw [show y.1 = _ from congrArg Prod.fst hx]
        simp [DataW.weights, ht, hb, lits, Nat.add_mul])
      rw [hlen] at this
      simp only [reachBytes] at this
      omega
theorem cell_arrs {t e : TypeId} {f0 f1 f2 : Field} {n : Nat} {v : Value} {y : DataW H × List MemPlace} (ht : P.underlying t = some (.slice e)) (he : P.underlying e = some (.struct #[f0, f1, f2])) (hone : oneCellFields P #[f0, f1, f2] = true) (hC : P.cellsOf e = 3)
    (hb : P.bytesOf e = 24) (h0 : P.underlying f0.type = some (.int .i64)) (h1 : P.underlying f1.type = some (.int .i64)) (h2 : P.underlying f2.type = some (.int .i64))
    (h : DataW.trod enc P w base spare held n t [v] = some y) (hs : Sized P t y.1) :
    ∃ A c l, v = .slice A l.length c ∧ l.length ≤ c ∧ Arrs (· < w.heap.size) w A l ∧ (∀ a ∈ l, I64 a.frm ∧ I64 a.evt ∧ I64 a.to_) ∧ l.length ≤ 17592186043904 := by
  rcases open_slice_fields ht he hone hC h with ⟨hcs, _⟩ | ⟨a, len, cap, m, D, Pl, hcs, _, hl, hm, hmm, hx, hi⟩
  · simp at hcs
    exact ⟨none, 0, [], by simpa using hcs, by simp, Arrs.nil _ _ _, by simp, by simp⟩
  · simp at hcs
    have hlm : len ≤ m := by rw [hmm]; split <;> omega
    have key : ∀ i, i < len → ∃ r : Arr, (I64 r.frm ∧ I64 r.evt ∧ I64 r.to_) ∧ ∀ j, j < 3 → w.cell? (eA (some a) (i * 3 + j)) = some (.int .i64 (r.cell j)) := by
      intro i hi'
      obtain ⟨ys, k, _, _, _, hf⟩ := hi i (by omega)
      obtain ⟨v0, y0, c0, _, t0⟩ := hf 0 f0 rfl
      obtain ⟨v1, y1, c1, _, t1⟩ := hf 1 f1 rfl
      obtain ⟨v2, y2, c2, _, t2⟩ := hf 2 f2 rfl
      obtain ⟨x0, rfl, w0⟩ := cell_int h0 t0
      obtain ⟨x1, rfl, w1⟩ := cell_int h1 t1
      obtain ⟨x2, rfl, w2⟩ := cell_int h2 t2
      refine ⟨⟨x0, x1, x2⟩, ⟨w0, w1, w2⟩, fun j hj => ?_⟩
      match j, hj with
      | 0, _ => exact c0
      | 1, _ => exact c1
      | 2, _ => exact c2
    have hch : ∃ g : Nat → Arr, ∀ i, i < len → (I64 (g i).frm ∧ I64 (g i).evt ∧ I64 (g i).to_) ∧ ∀ j, j < 3 → w.cell? (eA (some a) (i * 3 + j)) = some (.int .i64 ((g i).cell j)) :=
      ⟨fun i => if h : i < len then Classical.choose (key i h) else default, fun i h => by simp only [h, dite_true]; exact Classical.choose_spec (key i h)⟩
    obtain ⟨g, hg⟩ := hch
    have hlen : ((List.range len).map g).length = len := by simp
    have hget : ∀ i, i < len → ((List.range len).map g).getD i default = g i := fun i h => by simp [List.getD_eq_getElem?_getD, h]
    refine ⟨some a, cap, (List.range len).map g, by rw [hlen]; exact hcs, by rw [hlen]; exact hl, ⟨fun _ => rfl, fun h0 => ?_, fun i hi' j hj => ?_⟩, ?_, ?_⟩
    · have := World.block_lt_of_cell? w _ ((hg 0 (by omega)).2 0 (by decide))
      rwa [eA_block] at this
    · rw [hlen] at hi'
      rw [hget i hi']
      exact (hg i hi').2 j hj
    · intro r hr
      obtain ⟨i, hi', rfl⟩ := List.mem_map.1 hr
      exact (hg i (by simpa using hi')).1
    · rw [hlen]
      have := hs (len * 24 + (m - len) * 24) (by
        rw [show y.1 = _ from congrArg Prod.fst hx]
        simp [DataW.weights, ht, hb, Nat.add_mul])
      simp only [reachBytes] at this
      omega
end
section
variable {H : Type} {enc : TypeId × Value → H} {P : Program} {w : World} {base : Nat} {spare : Nat → Bool} {held : Bool} {r : Reach} {b0 : Nat} {v : Value} {d : DataW H} {p : List MemPlace}
/-- The closed facts on the type of machines. -/
structure TM (P : Program) (f0 f1 f2 f3 f4 : Field) (i e : TypeId) (g0 g1 g2 : Field) : Prop where
  one : oneCellFields P #[f0, f1, f2, f3, f4] = true
  u0 : P.underlying f0.type = some (.int .i64)
  u1 : P.underlying f1.type = some (.int .i64)
  u2 : P.underlying f2.type = some (.slice i)
  u4 : P.underlying f4.type = some (.slice i)
  ui : P.underlying i = some (.int .i64)
  ci : P.cellsOf i = 1
  bi : P.bytesOf i = 8
  u3 : P.underlying f3.type = some (.slice e)
  ue : P.underlying e = some (.struct #[g0, g1, g2])
  onee : oneCellFields P #[g0, g1, g2] = true
  ce : P.cellsOf e = 3
  be : P.bytesOf e = 24
  v0 : P.underlying g0.type = some (.int .i64)
  v1 : P.underlying g1.type = some (.int .i64)
  v2 : P.underlying g2.type = some (.int .i64)
/-- Its capacities. -/
structure MV.Caps (a : MV) (m : Mach) : Prop where
  s : m.starts.length ≤ a.cs
  a_ : m.arrows.length ≤ a.ca
  e : m.ends.length ≤ a.ce
end
end

section
open Go.RowKit Go.ChangeShapes Go.WideShapes Go.Deep Go.Joins

/-- A plant: a machine, the events that are seen, the secret states. -/
structure Plt where
  m : Mach
  seen : List Int
  secret : List Int
structure PV where
  m : MV
  Ap : Option Addr
  cp : Nat
  Aq : Option Addr
  cq : Nat
abbrev PV.cells (a : PV) (p : Plt) : List Value := [.int .i64 p.m.states, .int .i64 p.m.events, .slice a.m.As p.m.starts.length a.m.cs, .slice a.m.Aa p.m.arrows.length a.m.ca, .slice a.m.Ae p.m.ends.length a.m.ce, .slice a.Ap p.seen.length a.cp, .slice a.Aq p.secret.length a.cq]
abbrev PV.val (a : PV) (p : Plt) : Value := .agg (a.cells p).toArray
structure IsP (ok : Nat → Prop) (w : World) (a : PV) (p : Plt) : Prop where
  m : IsM ok w a.m p.m
  seen : Ints ok w a.Ap p.seen
  secret : Ints ok w a.Aq p.secret
section
variable {u w : World} {ok ok' : Nat → Prop} {a : PV} {p : Plt}
theorem IsP.mono (h : IsP ok u a p) (hk : ∀ b, ok b → ok' b) : IsP ok' u a p := ⟨h.m.mono hk, h.seen.mono hk, h.secret.mono hk⟩
theorem IsP.keep (h : IsP ok u a p) (hk : ∀ b, ok b → w.heap[b]? = u.heap[b]?) : IsP ok w a p := ⟨h.m.keep hk, h.seen.keep hk, h.secret.keep hk⟩
theorem IsP.below {B : Nat} (h : IsP (· < B) u a p) (hb : Below B u w) : IsP (· < B) w a p := h.keep fun b hlt => hb.block b hlt
theorem IsP.same (h : IsP ok u a p) (k : Same u w) : IsP ok w a p := h.keep fun b _ => by rw [k.heap]
end
/-- What every plant that comes in keeps to. -/
structure Plt.Fits (p : Plt) : Prop where
  m : p.m.Fits
  seen : ∀ x ∈ p.seen, I64 x
  secret : ∀ x ∈ p.secret, I64 x
  lenP : p.seen.length ≤ 17592186043904
  lenQ : p.secret.length ≤ 17592186043904
structure PV.Caps (a : PV) (p : Plt) : Prop where
  m : a.m.Caps p.m
  kp : p.seen.length ≤ a.cp
  kq : p.secret.length ≤ a.cq
section
variable {H : Type} {enc : TypeId × Value → H} {P : Program} {w : World} {base : Nat} {spare : Nat → Bool} {held : Bool} {r : Reach} {b0 : Nat} {v : Value} {d : DataW H} {pl : List MemPlace}
theorem cells_mach {t : TypeId} {f0 f1 f2 f3 f4 : Field} {i e : TypeId} {g0 g1 g2 : Field} {n : Nat} {cs : List Value} {y : DataW H × List MemPlace} (hu : P.underlying t = some (.struct #[f0, f1, f2, f3, f4])) (hC : P.cellsOf t = 5) (T : TM P f0 f1 f2 f3 f4 i e g0 g1 g2)
    (h : DataW.trod enc P w base spare held n t cs = some y) (hs : Sized P t y.1) :
    ∃ (a : MV) (m : Mach), cs = a.cells m ∧ IsM (· < w.heap.size) w a m ∧ m.Fits ∧ a.Caps m := by
  obtain ⟨xs, n', _, hx, hl, hlen, hg⟩ := DataW.trod_struct hu h
  obtain ⟨o0, k0⟩ := hone_of T.one 0 f0 rfl
  obtain ⟨o1, k1⟩ := hone_of T.one 1 f1 rfl
  obtain ⟨o2, k2⟩ := hone_of T.one 2 f2 rfl
  obtain ⟨o3, k3⟩ := hone_of T.one 3 f3 rfl
  obtain ⟨o4, k4⟩ := hone_of T.one 4 f4 rfl
  match cs, hl.trans hC with
  | [v0, v1, v2, v3, v4], _ =>
  match xs, hlen with
  | [y0, y1, y2, y3, y4], _ =>
    subst hx
    have t0 : DataW.trod enc P w base spare held n' f0.type [v0] = some y0 := by simpa [o0, k0] using hg 0 f0 rfl
    have t1 : DataW.trod enc P w base spare held n' f1.type [v1] = some y1 := by simpa [o1, k1] using hg 1 f1 rfl
    have t2 : DataW.trod enc P w base spare held n' f2.type [v2] = some y2 := by simpa [o2, k2] using hg 2 f2 rfl
    have t3 : DataW.trod enc P w base spare held n' f3.type [v3] = some y3 := by simpa [o3, k3] using hg 3 f3 rfl
    have t4 : DataW.trod enc P w base spare held n' f4.type [v4] = some y4 := by simpa [o4, k4] using hg 4 f4 rfl
    have hw : ∀ (j : Nat) (tj : TypeId) (dj : DataW H), [f0.type, f1.type, f2.type, f3.type, f4.type][j]? = some tj → [y0.1, y1.1, y2.1, y3.1, y4.1][j]? = some dj → Sized P tj dj := fun j tj dj ht hd x hx =>
      hs x (by simp only [DataW.weights, hu]; exact DataW.weights_mem_each ht hd x hx)
    obtain ⟨x0, rfl, w0⟩ := cell_int T.u0 t0
    obtain ⟨x1, rfl, w1⟩ := cell_int T.u1 t1
    obtain ⟨A2, c2, l2, rfl, k2, i2, b2, n2, _⟩ := cell_ints T.u2 T.ui T.ci T.bi t2 (hw 2 _ _ rfl rfl)
    obtain ⟨A3, c3, l3, rfl, k3, i3, b3, n3⟩ := cell_arrs T.u3 T.ue T.onee T.ce T.be T.v0 T.v1 T.v2 t3 (hw 3 _ _ rfl rfl)
    obtain ⟨A4, c4, l4, rfl, k4, i4, b4, n4, _⟩ := cell_ints T.u4 T.ui T.ci T.bi t4 (hw 4 _ _ rfl rfl)
    exact ⟨⟨A2, c2, A3, c3, A4, c4⟩, ⟨x0, x1, l2, l3, l4⟩, rfl, ⟨i2, i3, i4⟩, ⟨w0, w1, b2, b4, b3, n2, n4, n3⟩, ⟨k2, k3, k4⟩⟩
end
end
end Go.Proofs.YtpinjiikiaakaaaDoor

/-
  Projects: what they are; which may be: the program's May and the reference's: by their contracts.
-/
namespace Go.Proofs.YtpinjiikiaakaaaDoor
set_option linter.unusedSimpArgs false
set_option linter.unusedVariables false
set_option linter.unusedSectionVars false
open Go.RowKit

structure Pj where
  S : List ByteArray
  E : List ByteArray
  m : Mach
  seen : List Int
  free : List Int
  faults : List Int
  secret : List Int
structure JV where
  AS : Option Addr
  cS : Nat
  AE : Option Addr
  cE : Nat
  m : MV
  Ap : Option Addr
  cp : Nat
  Af : Option Addr
  cf : Nat
  Au : Option Addr
  cu : Nat
  Aq : Option Addr
  cq : Nat
abbrev JV.cells (a : JV) (p : Pj) : List Value := [.slice a.AS p.S.length a.cS, .slice a.AE p.E.length a.cE, .int .i64 p.m.states, .int .i64 p.m.events, .slice a.m.As p.m.starts.length a.m.cs, .slice a.m.Aa p.m.arrows.length a.m.ca, .slice a.m.Ae p.m.ends.length a.m.ce,
  .slice a.Ap p.seen.length a.cp, .slice a.Af p.free.length a.cf, .slice a.Au p.faults.length a.cu, .slice a.Aq p.secret.length a.cq]
abbrev JV.val (a : JV) (p : Pj) : Value := .agg (a.cells p).toArray
structure IsJ (ok : Nat → Prop) (w : World) (a : JV) (p : Pj) : Prop where
  S : Strs ok w a.AS p.S
  E : Strs ok w a.AE p.E
  m : IsM ok w a.m p.m
  seen : Ints ok w a.Ap p.seen
  free : Ints ok w a.Af p.free
  faults : Ints ok w a.Au p.faults
  secret : Ints ok w a.Aq p.secret
section
variable {u w : World} {ok ok' : Nat → Prop} {a : JV} {p : Pj}
theorem IsJ.mono (h : IsJ ok u a p) (hk : ∀ b, ok b → ok' b) : IsJ ok' u a p := ⟨h.S.mono hk, h.E.mono hk, h.m.mono hk, h.seen.mono hk, h.free.mono hk, h.faults.mono hk, h.secret.mono hk⟩
theorem IsJ.keep (h : IsJ ok u a p) (hk : ∀ b, ok b → w.heap[b]? = u.heap[b]?) : IsJ ok w a p := ⟨h.S.keep hk, h.E.keep hk, h.m.keep hk, h.seen.keep hk, h.free.keep hk, h.faults.keep hk, h.secret.keep hk⟩
theorem IsJ.up (h : IsJ (· < u.heap.size) u a p) (b : Below u.heap.size u w) : IsJ (· < w.heap.size) w a p := (h.keep fun _ hl => b.block _ hl).mono fun _ hl => Nat.lt_of_lt_of_le hl b.size
end
/-- What every project that comes in keeps to. -/
structure Pj.Fits (p : Pj) : Prop where
  S : ∀ s ∈ p.S, s.size ≤ 140737488355328
  E : ∀ s ∈ p.E, s.size ≤ 140737488355328
  nS : p.S.length ≤ 17592186043904
  nE : p.E.length ≤ 17592186043904
  m : p.m.Fits
  n1 : p.seen.length ≤ 17592186043904
  n2 : p.free.length ≤ 17592186043904
  n3 : p.faults.length ≤ 17592186043904
  n4 : p.secret.length ≤ 17592186043904
structure JV.Caps (a : JV) (p : Pj) : Prop where
  S : p.S.length ≤ a.cS
  E : p.E.length ≤ a.cE
  m : a.m.Caps p.m
section
variable {K : Fr → World → Prop} {u w : World} {f : Fr} {d : Option Nat} {g t : Nat} {a : JV} {p : Pj}
theorem Blk.jA (h : Blk u g t (a.cells p)) : Val1 Tryd.prog K (Instr.loadAt 28 (.pointer (some ⟨g, 0, none⟩))) u f d w = K (updO f d (a.val p)) w := h.ldAll ty_ag_28 ty_sz_28
theorem Blk.jM (h : Blk u g t (a.cells p)) : Val1 Tryd.prog K (Instr.loadAt 26 (.pointer (some ⟨g, 2, none⟩))) u f d w = K (updO f d (a.m.val p.m)) w :=
  h.ldSub ty_ag_26 2 (vs := a.m.cells p.m) ty_sz_26 fun k v hv => by
    match k, hv with
    | 0, hv => exact hv
    | 1, hv => exact hv
    | 2, hv => exact hv
    | 3, hv => exact hv
    | 4, hv => exact hv
    | k + 5, hv => simp at hv
theorem Blk.jS (h : Blk u g t (a.cells p)) : Val1 Tryd.prog K (Instr.loadAt 22 (.pointer (some ⟨g, 0, none⟩))) u f d w = K (updO f d (.slice a.AS p.S.length a.cS)) w := h.ld ty_ag_22 0 (by simp)
theorem Blk.jE (h : Blk u g t (a.cells p)) : Val1 Tryd.prog K (Instr.loadAt 22 (.pointer (some ⟨g, 1, none⟩))) u f d w = K (updO f d (.slice a.AE p.E.length a.cE)) w := h.ld ty_ag_22 1 (by simp)
theorem Blk.jst (h : Blk u g t (a.cells p)) : Val1 Tryd.prog K (Instr.loadAt 23 (.pointer (some ⟨g, 4, none⟩))) u f d w = K (updO f d (.slice a.m.As p.m.starts.length a.m.cs)) w := h.ld ty_ag_23 4 (by simp)
theorem Blk.jar (h : Blk u g t (a.cells p)) : Val1 Tryd.prog K (Instr.loadAt 24 (.pointer (some ⟨g, 5, none⟩))) u f d w = K (updO f d (.slice a.m.Aa p.m.arrows.length a.m.ca)) w := h.ld ty_ag_24 5 (by simp)
theorem Blk.jen (h : Blk u g t (a.cells p)) : Val1 Tryd.prog K (Instr.loadAt 23 (.pointer (some ⟨g, 6, none⟩))) u f d w = K (updO f d (.slice a.m.Ae p.m.ends.length a.m.ce)) w := h.ld ty_ag_23 6 (by simp)
theorem Blk.j1 (h : Blk u g t (a.cells p)) : Val1 Tryd.prog K (Instr.loadAt 23 (.pointer (some ⟨g, 7, none⟩))) u f d w = K (updO f d (.slice a.Ap p.seen.length a.cp)) w := h.ld ty_ag_23 7 (by simp)
theorem Blk.j2 (h : Blk u g t (a.cells p)) : Val1 Tryd.prog K (Instr.loadAt 23 (.pointer (some ⟨g, 8, none⟩))) u f d w = K (updO f d (.slice a.Af p.free.length a.cf)) w := h.ld ty_ag_23 8 (by simp)
theorem Blk.j3 (h : Blk u g t (a.cells p)) : Val1 Tryd.prog K (Instr.loadAt 23 (.pointer (some ⟨g, 9, none⟩))) u f d w = K (updO f d (.slice a.Au p.faults.length a.cu)) w := h.ld ty_ag_23 9 (by simp)
theorem Blk.j4 (h : Blk u g t (a.cells p)) : Val1 Tryd.prog K (Instr.loadAt 23 (.pointer (some ⟨g, 10, none⟩))) u f d w = K (updO f d (.slice a.Aq p.secret.length a.cq)) w := h.ld ty_ag_23 10 (by simp)
end
/-- The first half of what may be: names and machine. -/
structure Pj.May1 (p : Pj) : Prop where
  s1 : 1 ≤ p.S.length
  s6 : p.S.length ≤ 6
  e8 : p.E.length ≤ 8
  nS : NamesOk p.S
  nE : NamesOk p.E
  m : p.m.May
  st : p.m.states = p.S.length
  ev : p.m.events = p.E.length
structure Pj.May (p : Pj) : Prop extends p.May1 where
  r1 : IsRow p.seen p.m.events
  r2 : IsRow p.free p.m.events
  r3 : IsRow p.faults p.m.events
  r4 : IsRow p.secret p.m.states
theorem e5_machZ (a : MV) (m : Mach) : tySize Tryd.prog 26 = some (a.cells m).length := ty_sz_26
theorem machZ_one (a : MV) (m : Mach) : (a.cells m).all (·.oneCell') = true := by simp [MV.cells, Value.oneCell']
def machZ : List Value := [.int .i64 0, .int .i64 0, .slice none 0 0, .slice none 0 0, .slice none 0 0]
set_option maxHeartbeats 2000000 in
theorem text_May {w : World} {a : JV} {p : Pj} (ha : IsJ (· < w.heap.size) w a p) (hf : p.Fits) (hc : a.Caps p) :
    Cal Tryd.prog 27 [a.val p] w fun v w' => (∃ r : Bool, v = .bool r ∧ (r = true ↔ p.May)) ∧ Below w.heap.size w w' := by
  have nS := hf.nS
  have nE := hf.nE
  have n1 := hf.n1
  have n2 := hf.n2
  have n3 := hf.n3
  have n4 := hf.n4
  have zS : ∀ s ∈ p.S, s.size ≤ 9223372036854775806 := fun s hs => by have := hf.S s hs; omega
  have zE : ∀ s ∈ p.E, s.size ≤ 9223372036854775806 := fun s hs => by have := hf.E s hs; omega
  refine cal_text_May (by simp) 1000000 fun Q hQ => ?_
  simp (disch := first | with_reducible assumption | omega) only [push_cast, x_blk, x_cd, ↓reduceIte, Nat.reduceEqDiff, List.map_cons, List.map_nil, Int.reduceEq, Int.lt_irrefl, F_text_May]
  refine blk_of (box_agg _ (a.cells p)) ?_
  intro w1 k1 b1 z1
  simp (disch := first | with_reducible assumption | omega) only [push_cast, x_blk, x_cd, ↓reduceIte, Nat.reduceEqDiff, List.map_cons, List.map_nil, Int.reduceEq, Int.lt_irrefl, k1.jM]
  refine blk_of (cs := machZ) al_26 ?_
  intro w2 k2 b2 z2
  have l1 := k1.lt
  simp (disch := first | with_reducible assumption | omega) only [push_cast, x_blk, x_cd, ↓reduceIte, Nat.reduceEqDiff, List.map_cons, List.map_nil, Int.reduceEq, Int.lt_irrefl]
  refine sto_blk k2 (cs := a.m.cells p.m) (e5_machZ a.m p.m) rfl (machZ_one a.m p.m) ?_
  intro w3 k3 g3 z3
  have b23 := g3.below b2 b2.size (by intro a ha; injection ha with ha; subst ha; exact Nat.le_refl _)
  replace k1 := k1.below b23 k1.lt
  have bb := b1.trans (b23.mono b1.size)
  by_cases p1 : (p.S.length : Int) ≤ 6
  case neg =>
    simp (disch := first | with_reducible assumption | omega) only [push_cast, x_blk, x_cd, ↓reduceIte, Nat.reduceEqDiff, List.map_cons, List.map_nil, Int.reduceEq, Int.lt_irrefl, k1.jS, p1]
    have p1' : ¬ p.S.length ≤ 6 := by omega
    exact fin_1 (hQ _ _ ⟨⟨false, (by simp only [push_cast, ↓reduceIte, Nat.reduceEqDiff, Int.reduceEq]), ⟨fun h => (by cases h), fun hh => absurd hh.s6 (by assumption)⟩⟩, bb⟩)
  by_cases p2 : (p.E.length : Int) ≤ 8
  case neg =>
    simp (disch := first | with_reducible assumption | omega) only [push_cast, x_blk, x_cd, ↓reduceIte, Nat.reduceEqDiff, List.map_cons, List.map_nil, Int.reduceEq, Int.lt_irrefl, k1.jS, p1, k1.jE, p2]
    have p2' : ¬ p.E.length ≤ 8 := by omega
    exact fin_1 (hQ _ _ ⟨⟨false, (by simp only [push_cast, ↓reduceIte, Nat.reduceEqDiff, Int.reduceEq]), ⟨fun h => (by cases h), fun hh => absurd hh.e8 (by assumption)⟩⟩, bb⟩)
  simp (disch := first | with_reducible assumption | omega) only [push_cast, x_blk, x_cd, ↓reduceIte, Nat.reduceEqDiff, List.map_cons, List.map_nil, Int.reduceEq, Int.lt_irrefl, k1.jS, p1, k1.jE, p2]
  refine call_of (text_distinct (ha.up bb).S a.cS (by omega) hc.S zS 1 6) ?_
  rintro v w4 ⟨⟨r4, rfl, h4⟩, s4⟩
  replace k1 := k1.same s4
  replace k3 := k3.same s4
  replace bb := bb.trans (s4.below _)
  cases r4 with
  | false =>
    have q : ¬ (NamesOk p.S ∧ (1 : Int) ≤ p.S.length ∧ (p.S.length : Int) ≤ 6) := fun h => by have := h4.2 h; cases this
    simp (disch := first | with_reducible assumption | omega) only [push_cast, x_blk, x_cd, ↓reduceIte, Nat.reduceEqDiff, List.map_cons, List.map_nil, Int.reduceEq, Int.lt_irrefl]
    exact fin_1 (hQ _ _ ⟨⟨false, (by simp only [push_cast, ↓reduceIte, Nat.reduceEqDiff, Int.reduceEq]), ⟨fun h => (by cases h), fun hh => absurd (⟨hh.nS, by have := hh.s1; omega, by omega⟩ : NamesOk p.S ∧ (1 : Int) ≤ p.S.length ∧ (p.S.length : Int) ≤ 6) (by assumption)⟩⟩, bb⟩)
  | true =>
  have q4 := h4.1 rfl
  simp (disch := first | with_reducible assumption | omega) only [push_cast, x_blk, x_cd, ↓reduceIte, Nat.reduceEqDiff, List.map_cons, List.map_nil, Int.reduceEq, Int.lt_irrefl, k1.jE]
  refine call_of (text_distinct (ha.up bb).E a.cE (by omega) hc.E zE 0 8) ?_
  rintro v w5 ⟨⟨r5, rfl, h5⟩, s5⟩
  replace k1 := k1.same s5
  replace k3 := k3.same s5
  replace bb := bb.trans (s5.below _)
  cases r5 with
  | false =>
    have q : ¬ (NamesOk p.E ∧ (0 : Int) ≤ p.E.length ∧ (p.E.length : Int) ≤ 8) := fun h => by have := h5.2 h; cases this
    simp (disch := first | with_reducible assumption | omega) only [push_cast, x_blk, x_cd, ↓reduceIte, Nat.reduceEqDiff, List.map_cons, List.map_nil, Int.reduceEq, Int.lt_irrefl]
    exact fin_1 (hQ _ _ ⟨⟨false, (by simp only [push_cast, ↓reduceIte, Nat.reduceEqDiff, Int.reduceEq]), ⟨fun h => (by cases h), fun hh => absurd (⟨hh.nE, by omega, by omega⟩ : NamesOk p.E ∧ (0 : Int) ≤ p.E.length ∧ (p.E.length : Int) ≤ 8) (by assumption)⟩⟩, bb⟩)
  | true =>
  have q5 := h5.1 rfl
  simp (disch := first | with_reducible assumption | omega) only [push_cast, x_blk, x_cd, ↓reduceIte, Nat.reduceEqDiff, List.map_cons, List.map_nil, Int.reduceEq, Int.lt_irrefl, k3.mA ty_ag_26 ty_sz_26]
  refine call_of (machine_May (ha.up bb).m hf.m) ?_
  rintro v w6 ⟨rfl, b6⟩
  replace k1 := k1.below b6 k1.lt
  replace k3 := k3.below b6 k3.lt
  replace bb := bb.trans (b6.mono bb.size)
  by_cases qm : p.m.May
  case neg =>
    simp (disch := first | with_reducible assumption | omega) only [push_cast, x_blk, x_cd, ↓reduceIte, Nat.reduceEqDiff, List.map_cons, List.map_nil, Int.reduceEq, Int.lt_irrefl, decide_eq_false qm]
    exact fin_1 (hQ _ _ ⟨⟨false, (by simp only [push_cast, ↓reduceIte, Nat.reduceEqDiff, Int.reduceEq]), ⟨fun h => (by cases h), fun hh => absurd hh.m (by assumption)⟩⟩, bb⟩)
  by_cases p3 : p.m.states = (p.S.length : Int)
  case neg =>
    simp (disch := first | with_reducible assumption | omega) only [push_cast, x_blk, x_cd, ↓reduceIte, Nat.reduceEqDiff, List.map_cons, List.map_nil, Int.reduceEq, Int.lt_irrefl, decide_eq_true qm, k3.m0 ty_ag_3, k1.jS, p3]
    exact fin_1 (hQ _ _ ⟨⟨false, (by simp only [push_cast, ↓reduceIte, Nat.reduceEqDiff, Int.reduceEq]), ⟨fun h => (by cases h), fun hh => absurd hh.st (by assumption)⟩⟩, bb⟩)
  by_cases p4 : p.m.events = (p.E.length : Int)
  case neg =>
    simp (disch := first | with_reducible assumption | omega) only [push_cast, x_blk, x_cd, ↓reduceIte, Nat.reduceEqDiff, List.map_cons, List.map_nil, Int.reduceEq, Int.lt_irrefl, decide_eq_true qm, k3.m0 ty_ag_3, k1.jS, eq_true p3, k3.m1 ty_ag_3, k1.jE, p4]
    exact fin_1 (hQ _ _ ⟨⟨false, (by simp only [push_cast, ↓reduceIte, Nat.reduceEqDiff, Int.reduceEq]), ⟨fun h => (by cases h), fun hh => absurd hh.ev (by assumption)⟩⟩, bb⟩)
  have m1 : p.May1 := ⟨by omega, by omega, by omega, q4.1, q5.1, qm, p3, p4⟩
  simp (disch := first | with_reducible assumption | omega) only [push_cast, x_blk, x_cd, ↓reduceIte, Nat.reduceEqDiff, List.map_cons, List.map_nil, Int.reduceEq, Int.lt_irrefl, decide_eq_true qm, k3.m0 ty_ag_3, k1.jS, eq_true p3, k3.m1 ty_ag_3, k1.jE, eq_true p4, k1.j1]
  refine call_of (row_Is (ha.up bb).seen a.cp p.m.events (by omega)) ?_
  rintro v w7 ⟨rfl, s7⟩
  replace k1 := k1.same s7
  replace k3 := k3.same s7
  replace bb := bb.trans (s7.below _)
  by_cases r1 : IsRow p.seen p.m.events
  case neg =>
    simp (disch := first | with_reducible assumption | omega) only [push_cast, x_blk, x_cd, ↓reduceIte, Nat.reduceEqDiff, List.map_cons, List.map_nil, Int.reduceEq, Int.lt_irrefl, decide_eq_false r1]
    exact fin_1 (hQ _ _ ⟨⟨false, (by simp only [push_cast, ↓reduceIte, Nat.reduceEqDiff, Int.reduceEq]), ⟨fun h => (by cases h), fun hh => absurd hh.r1 (by assumption)⟩⟩, bb⟩)
  simp (disch := first | with_reducible assumption | omega) only [push_cast, x_blk, x_cd, ↓reduceIte, Nat.reduceEqDiff, List.map_cons, List.map_nil, Int.reduceEq, Int.lt_irrefl, decide_eq_true r1, k3.m1 ty_ag_3, k1.j2]
  refine call_of (row_Is (ha.up bb).free a.cf p.m.events (by omega)) ?_
  rintro v w8 ⟨rfl, s8⟩
  replace k1 := k1.same s8
  replace k3 := k3.same s8
  replace bb := bb.trans (s8.below _)
  by_cases r2 : IsRow p.free p.m.events
  case neg =>
    simp (disch := first | with_reducible assumption | omega) only [push_cast, x_blk, x_cd, ↓reduceIte, Nat.reduceEqDiff, List.map_cons, List.map_nil, Int.reduceEq, Int.lt_irrefl, decide_eq_false r2]
    exact fin_1 (hQ _ _ ⟨⟨false, (by simp only [push_cast, ↓reduceIte, Nat.reduceEqDiff, Int.reduceEq]), ⟨fun h => (by cases h), fun hh => absurd hh.r2 (by assumption)⟩⟩, bb⟩)
  simp (disch := first | with_reducible assumption | omega) only [push_cast, x_blk, x_cd, ↓reduceIte, Nat.reduceEqDiff, List.map_cons, List.map_nil, Int.reduceEq, Int.lt_irrefl, decide_eq_true r2, k3.m1 ty_ag_3, k1.j3]
  refine call_of (row_Is (ha.up bb).faults a.cu p.m.events (by omega)) ?_
  rintro v w9 ⟨rfl, s9⟩
  replace k1 := k1.same s9
  replace k3 := k3.same s9
  replace bb := bb.trans (s9.below _)
  by_cases r3 : IsRow p.faults p.m.events
  case neg =>
    simp (disch := first | with_reducible assumption | omega) only [push_cast, x_blk, x_cd, ↓reduceIte, Nat.reduceEqDiff, List.map_cons, List.map_nil, Int.reduceEq, Int.lt_irrefl, decide_eq_false r3]
    exact fin_1 (hQ _ _ ⟨⟨false, (by simp only [push_cast, ↓reduceIte, Nat.reduceEqDiff, Int.reduceEq]), ⟨fun h => (by cases h), fun hh => absurd hh.r3 (by assumption)⟩⟩, bb⟩)
  simp (disch := first | with_reducible assumption | omega) only [push_cast, x_blk, x_cd, ↓reduceIte, Nat.reduceEqDiff, List.map_cons, List.map_nil, Int.reduceEq, Int.lt_irrefl, decide_eq_true r3, k3.m0 ty_ag_3, k1.j4]
  refine call_of (row_Is (ha.up bb).secret a.cq p.m.states (by omega)) ?_
  rintro v w10 ⟨rfl, s10⟩
  replace bb := bb.trans (s10.below _)
  by_cases r4 : IsRow p.secret p.m.states
  case neg =>
    simp (disch := first | with_reducible assumption | omega) only [push_cast, x_blk, x_cd, ↓reduceIte, Nat.reduceEqDiff, List.map_cons, List.map_nil, Int.reduceEq, Int.lt_irrefl, decide_eq_false r4]
    exact fin_1 (hQ _ _ ⟨⟨false, (by simp only [push_cast, ↓reduceIte, Nat.reduceEqDiff, Int.reduceEq]), ⟨fun h => (by cases h), fun hh => absurd hh.r4 (by assumption)⟩⟩, bb⟩)
  simp (disch := first | with_reducible assumption | omega) only [push_cast, x_blk, x_cd, ↓reduceIte, Nat.reduceEqDiff, List.map_cons, List.map_nil, Int.reduceEq, Int.lt_irrefl, decide_eq_true r4]
  exact fin_1 (hQ _ _ ⟨⟨true, (by simp only [push_cast, ↓reduceIte, Nat.reduceEqDiff, Int.reduceEq]), ⟨fun _ => ⟨m1, r1, r2, r3, r4⟩, fun _ => rfl⟩⟩, bb⟩)
end Go.Proofs.YtpinjiikiaakaaaDoor

/-
  The reference's text of a project: by its contract.
-/
namespace Go.Proofs.YtpinjiikiaakaaaDoor
set_option linter.unusedSimpArgs false
set_option linter.unusedVariables false
set_option linter.unusedSectionVars false
open Go.RowKit

def nm (names : List ByteArray) (x : Int) : ByteArray := names.getD x.toNat ⟨#[]⟩
theorem nm_at {names : List ByteArray} {x : Int} (h0 : 0 ≤ x) (h1 : x < names.length) : names[x.toNat]? = some (nm names x) := by
  unfold nm
  rw [List.getD_eq_getElem?_getD, List.getElem?_eq_getElem (by omega)]; rfl
/-- Words, a blank ahead of each. -/
def sp (W : List ByteArray) : List UInt8 := W.flatMap fun s => 32 :: s.data.toList
theorem sp_len {W : List ByteArray} (h : ∀ s ∈ W, s.data.toList.length ≤ 16) : (sp W).length ≤ 17 * W.length := by
  induction W with
  | nil => simp [sp]
  | cons s W ih =>
    have h1 := h s List.mem_cons_self
    have h2 := ih fun s hs => h s (List.mem_cons_of_mem _ hs)
    unfold sp at *
    rw [List.flatMap_cons, List.length_append, List.length_cons, List.length_cons]
    omega
def SmallN (names : List ByteArray) : Prop := ∀ s ∈ names, s.data.toList.length ≤ 16
def nms (names : List ByteArray) (l : List Int) : List ByteArray := l.map (nm names)
theorem nms_small {names : List ByteArray} {l : List Int} (hn : SmallN names) (hl : ∀ x ∈ l, 0 ≤ x ∧ x < names.length) : ∀ s ∈ nms names l, s.data.toList.length ≤ 16 := fun s hs => by
  obtain ⟨x, hx, rfl⟩ := List.mem_map.1 hs
  exact hn _ (List.mem_of_getElem? (nm_at (hl x hx).1 (hl x hx).2))
end Go.Proofs.YtpinjiikiaakaaaDoor

/-
  The reference's text of a project, whole: by its contract.
-/
namespace Go.Proofs.YtpinjiikiaakaaaDoor
set_option linter.unusedSimpArgs false
set_option linter.unusedVariables false
set_option linter.unusedSectionVars false
open Go.RowKit

abbrev stB : List UInt8 := [115, 116, 97, 116, 101, 115]
abbrev evB : List UInt8 := [101, 118, 101, 110, 116, 115]
abbrev snB : List UInt8 := [115, 101, 101, 110]
abbrev frB : List UInt8 := [102, 114, 101, 101]
abbrev fuB : List UInt8 := [102, 97, 117, 108, 116, 115]
abbrev scB : List UInt8 := [115, 101, 99, 114, 101, 116]
abbrev saB : List UInt8 := [115, 116, 97, 114, 116, 115]
abbrev enB : List UInt8 := [101, 110, 100, 115]
abbrev arB : List UInt8 := [97, 114, 114, 111, 119, 115]
abbrev semiB : List UInt8 := [32, 59, 32]
def arW (p : Pj) (i : Nat) (a : Arr) : List ByteArray := (if 0 < i then [⟨#[44]⟩] else []) ++ [nm p.S a.frm, nm p.E a.evt, nm p.S a.to_]
def arTo (p : Pj) : Nat → List ByteArray
  | 0 => []
  | k + 1 => arTo p k ++ arW p k (p.m.arrows.getD k default)
theorem row_lenN {l : List Int} {b : Int} (h : IsRow l b) : l.length ≤ b.toNat := by
  have key : ∀ i, i < l.length → (i : Int) ≤ l.getD i 0 := by
    intro i
    induction i with
    | zero => intro hi; have := (h 0 hi).1; omega
    | succ i ih =>
      intro hi
      have h1 := ih (by omega)
      have h2 := (h (i + 1) hi).2.2.2 (by omega)
      rw [show i + 1 - 1 = i by omega] at h2
      omega
  rcases Nat.eq_zero_or_pos l.length with c | c
  · omega
  · have h1 := key (l.length - 1) (by omega)
    have h2 := (h (l.length - 1) (by omega)).2.1
    omega
def listB (pt : List UInt8) (names : List ByteArray) (l : List Int) : List UInt8 := pt ++ sp (nms names l) ++ semiB
/-- The text of a project up to the arrows. -/
def headB (p : Pj) : List UInt8 := stB ++ sp p.S ++ ([32, 59, 32] ++ evB) ++ sp p.E ++ semiB ++ listB snB p.E p.seen ++ listB frB p.E p.free ++ listB fuB p.E p.faults ++ listB scB p.S p.secret ++ listB saB p.S p.m.starts ++ listB enB p.S p.m.ends ++ arB
def txt (p : Pj) : List UInt8 := headB p ++ sp (arTo p p.m.arrows.length) ++ [32, 59]
open Classical in
noncomputable def prOut (p : Pj) : Value := if p.May then (if 4000 < (txt p).length then .tuple #[.string ⟨#[]⟩, .int .i64 1] else .tuple #[.string ⟨(txt p).toArray⟩, .int .i64 0]) else .tuple #[.string ⟨#[]⟩, .int .i64 2]
theorem ba_size (l : List UInt8) : (⟨l.toArray⟩ : ByteArray).size = l.length := by simp [ByteArray.size]
theorem size_list (s : ByteArray) : s.size = s.data.toList.length := by rw [Array.length_toList]; rfl
theorem NamesOk.small {l : List ByteArray} (h : NamesOk l) : SmallN l := fun s hs => by
  obtain ⟨i, hi⟩ := List.mem_iff_getElem?.1 hs
  have := (h i s hi).1.2.2.1
  rw [size_list] at this; exact this
theorem row_in {l : List Int} {b : Int} (h : IsRow l b) : ∀ x ∈ l, 0 ≤ x ∧ x < b := fun x hx => ⟨(h.mem hx).1, (h.mem hx).2.1⟩
theorem Pj.May.arr {p : Pj} (h : p.May) {k : Nat} (hk : k < p.m.arrows.length) : (0 ≤ (p.m.arrows.getD k default).frm ∧ (p.m.arrows.getD k default).frm < p.S.length) ∧ (0 ≤ (p.m.arrows.getD k default).evt ∧ (p.m.arrows.getD k default).evt < p.E.length) ∧ (0 ≤ (p.m.arrows.getD k default).to_ ∧ (p.m.arrows.getD k default).to_ < p.S.length) := by
  have h1 := (h.m.2.2.2.2.2.2.2 k hk).1
  have h2 := h.st
  have h3 := h.ev
  obtain ⟨⟨a1, a2⟩, ⟨a3, a4⟩, a5, a6⟩ := h1
  refine ⟨⟨a1, by omega⟩, ⟨a5, by omega⟩, a3, by omega⟩
theorem arTo_ok {p : Pj} (h : p.May) : ∀ k, k ≤ p.m.arrows.length → (arTo p k).length ≤ 4 * k ∧ ∀ s ∈ arTo p k, s.data.toList.length ≤ 16
  | 0, _ => ⟨by simp [arTo], fun s hs => by simp [arTo] at hs⟩
  | k + 1, hk => by
    obtain ⟨h1, h2⟩ := arTo_ok h k (by omega)
    obtain ⟨e1, e2, e3⟩ := h.arr (show k < p.m.arrows.length by omega)
    unfold arTo arW
    refine ⟨?_, fun s hs => ?_⟩
    · rw [List.length_append, List.length_append]
      split <;> simp <;> omega
    · rcases List.mem_append.1 hs with hs | hs
      · exact h2 s hs
      · rcases List.mem_append.1 hs with hs | hs
        · split at hs
          · rw [List.mem_singleton.1 hs]; decide
          · simp at hs
        · simp only [List.mem_cons, List.not_mem_nil, or_false] at hs
          rcases hs with rfl | rfl | rfl
          · exact h.nS.small _ (List.mem_of_getElem? (nm_at e1.1 e1.2))
          · exact h.nE.small _ (List.mem_of_getElem? (nm_at e2.1 e2.2))
          · exact h.nS.small _ (List.mem_of_getElem? (nm_at e3.1 e3.2))
theorem listB_len {pt : List UInt8} {names : List ByteArray} {l : List Int} (hn : SmallN names) (hl : ∀ x ∈ l, 0 ≤ x ∧ x < names.length) (h6 : l.length ≤ 256) (hp : pt.length ≤ 10) : (listB pt names l).length ≤ 5000 := by
  have := sp_len (nms_small hn hl)
  have e : (nms names l).length = l.length := by unfold nms; rw [List.length_map]
  unfold listB
  rw [List.length_append, List.length_append]
  simp only [List.length_cons, List.length_nil]
  omega
end Go.Proofs.YtpinjiikiaakaaaDoor

/-
  Chapter 2: the program's sets of states: Of, Add, Has: by their contracts.
  Chapter 2: the value of a set of states as a function of a list of its numbers; the program's Of, Has, Add over it.
  Chapter 2: where states lead to, at an event: the program's Step and the reference's, by their contracts.
  Chapter 2: whether two sets meet; the reference's Step, Word: by their contracts.
-/
namespace Go.Proofs.YtpinjiikiaakaaaDoor
set_option linter.unusedSimpArgs false
set_option linter.unusedVariables false
set_option linter.unusedSectionVars false
section
open Go.RowKit

def setCells (ws : List Nat) : List Value := ws.map fun (x : Nat) => .int .u64 (x : Int)
abbrev setVal (ws : List Nat) : Value := .agg (setCells ws).toArray
/-- Four words. -/
def Words (ws : List Nat) : Prop := ws.length = 4 ∧ ∀ i, ws.getD i 0 < 2 ^ 64
def setHas (ws : List Nat) (n : Nat) : Bool := (ws.getD (n / 64) 0).testBit (n % 64)
def setAdd (ws : List Nat) (n : Nat) : List Nat := ws.set (n / 64) (ws.getD (n / 64) 0 ||| 2 ^ (n % 64))
theorem setCells_len (ws : List Nat) : (setCells ws).length = ws.length := by simp [setCells]
theorem Words.add {ws : List Nat} (h : Words ws) {n : Nat} (hn : n < 256) : Words (setAdd ws n) := by
  refine ⟨by simp [setAdd, h.1], fun i => ?_⟩
  unfold setAdd
  rw [getD_set _ _ _ _ _ (by rw [h.1]; omega)]
  split
  · exact Nat.or_lt_two_pow (h.2 _) (Nat.pow_lt_pow_right (by decide) (Nat.mod_lt _ (by decide)))
  · exact h.2 i
theorem setHas_add {ws : List Nat} (h : Words ws) {n : Nat} (hn : n < 256) (k : Nat) : setHas (setAdd ws n) k = (setHas ws k || decide (k = n)) := by
  unfold setHas setAdd
  rw [getD_set _ _ _ _ _ (by rw [h.1]; omega)]
  split
  · rename_i e
    rw [Nat.testBit_or, Nat.testBit_two_pow, e]
    congr 1
    exact decide_eq_decide.2 ⟨fun h => by omega, fun h => by omega⟩
  · rename_i e
    have : ¬ k = n := fun h => e (by rw [h])
    simp [this]
theorem setHas_nil (n : Nat) : setHas [0, 0, 0, 0] n = false := by
  unfold setHas
  have : ([0, 0, 0, 0] : List Nat).getD (n / 64) 0 = 0 := by
    match n / 64 with
    | 0 => rfl
    | 1 => rfl
    | 2 => rfl
    | 3 => rfl
    | k + 4 => simp [List.getD_eq_getElem?_getD]
  rw [this, Nat.zero_testBit]
section
variable {P : Program} {K : Fr → World → Prop} {u w w' : World} {f : Fr} {d : Option Nat} {g t ty : Nat} {ws : List Nat}
theorem Blk.word (h : Blk u g t (setCells ws)) (hw : Words ws) (ht : tyAgg P ty = some false) (j : Nat) (hj : j < 4) :
    Val1 P K (Instr.loadAt ty (.pointer (some ⟨g, j, none⟩))) u f d w = K (updO f d (.int .u64 (ws.getD j 0 : Nat))) w := by
  have hl : j < (setCells ws).length := by rw [setCells_len, hw.1]; exact hj
  have := h.ld (P := P) (K := K) (f := f) (d := d) (w := w) ht j hl
  have e : (setCells ws).getD j undef = .int .u64 ((ws.getD j 0 : Nat) : Int) := getD_map _ _ _ _ _ (by rw [hw.1]; exact hj)
  rw [e] at this
  exact this
end

theorem fin_cell {P : Program} {Rc : Value → World → Prop} {a t t' g : Nat} {cs : List Value} {f : Fr} {w : World} (hk : Blk w g t' cs) (ht : tyAgg P t = some true) (hs : tySize P t = some cs.length)
    (hf : f a = .pointer (some ⟨g, 0, none⟩)) (h : Rc (.agg cs.toArray) w) : FinX P #[.cell a t] Rc f w := by
  refine ⟨.agg cs.toArray, fun fn tmps hr hf' => ?_, h⟩
  have e : tmps.getD a undef = .pointer (some ⟨g, 0, none⟩) := by rw [hf', hf]
  have e2 : tmps[a]?.getD undef = .pointer (some ⟨g, 0, none⟩) := by simpa using e
  unfold tyAgg at ht
  unfold tySize at hs
  cases hu : P.underlying t with
  | none => simp [hu] at ht
  | some de =>
    cases hi : P.info? t with
    | none => simp [hi] at hs
    | some ie =>
      simp only [hi, Option.map_some, Option.some.injEq] at hs
      simp only [hu, Option.map_some, Option.some.injEq] at ht
      have hr' := run_loadCells_list (P := P) w ⟨g, 0, none⟩ cs (fun j v hv => by rw [addr_add, Nat.zero_add, hk.cell, hv])
      cases de <;> simp at ht <;> simp [results, hr, e2, asAddr, loadVar, isAgg, run_underlying hu, sizeOf, typeInfo, hi, hs, hr']

end

section
open Go.RowKit

/-- The four words of a list's numbers (those below 256). -/
def wordsOf (l : List Int) : List Nat := l.foldr (fun x ws => if 0 ≤ x ∧ x < 256 then setAdd ws x.toNat else ws) [0, 0, 0, 0]
abbrev setV (l : List Int) : Value := setVal (wordsOf l)
theorem words0 : Words [0, 0, 0, 0] := ⟨rfl, fun i => by match i with | 0 => decide | 1 => decide | 2 => decide | 3 => decide | j + 4 => simp [List.getD_eq_getElem?_getD]⟩
theorem wordsOf_words : ∀ l : List Int, Words (wordsOf l)
  | [] => words0
  | x :: l => by
    have ih := wordsOf_words l
    show Words (if 0 ≤ x ∧ x < 256 then setAdd (wordsOf l) x.toNat else wordsOf l)
    split
    · exact ih.add (by omega)
    · exact ih
theorem wordsOf_has : ∀ (l : List Int) (n : Nat), n < 256 → setHas (wordsOf l) n = decide ((n : Int) ∈ l)
  | [], n, _ => by rw [show wordsOf [] = [0, 0, 0, 0] from rfl, setHas_nil]; simp
  | x :: l, n, hn => by
    have ih := wordsOf_has l n hn
    show setHas (if 0 ≤ x ∧ x < 256 then setAdd (wordsOf l) x.toNat else wordsOf l) n = _
    split
    · rename_i h
      rw [setHas_add (wordsOf_words l) (by omega), ih]
      by_cases e : n = x.toNat
      · have q : (n : Int) = x := by omega
        rw [decide_eq_true e, Bool.or_true]
        exact (decide_eq_true (q ▸ List.mem_cons_self ..)).symm
      · have : ¬ (n : Int) = x := by omega
        simp [e, this]
    · rename_i h
      have : ¬ (n : Int) = x := by omega
      rw [ih]; simp [this]
theorem words_ext {ws ws' : List Nat} (h : Words ws) (h' : Words ws') (he : ∀ n, n < 256 → setHas ws n = setHas ws' n) : ws = ws' := by
  refine ext_getD 0 (h.1.trans h'.1.symm) fun k hk => ?_
  rw [h.1] at hk
  refine Nat.eq_of_testBit_eq fun i => ?_
  by_cases hi : i < 64
  · have := he (64 * k + i) (by omega)
    unfold setHas at this
    rwa [show (64 * k + i) / 64 = k by omega, show (64 * k + i) % 64 = i by omega] at this
  · have p : 2 ^ 64 ≤ 2 ^ i := Nat.pow_le_pow_right (by decide) (by omega)
    rw [Nat.testBit_lt_two_pow (Nat.lt_of_lt_of_le (h.2 k) p), Nat.testBit_lt_two_pow (Nat.lt_of_lt_of_le (h'.2 k) p)]
theorem wordsOf_ext {l l' : List Int} (h : ∀ x : Int, 0 ≤ x → x < 256 → (x ∈ l ↔ x ∈ l')) : wordsOf l = wordsOf l' :=
  words_ext (wordsOf_words l) (wordsOf_words l') fun n hn => by
    rw [wordsOf_has l n hn, wordsOf_has l' n hn]
    exact decide_eq_decide.2 (h n (by omega) (by omega))
theorem wordsOf_mem {l l' : List Int} (h : wordsOf l = wordsOf l') {x : Int} (h0 : 0 ≤ x) (h1 : x < 256) : x ∈ l ↔ x ∈ l' := by
  have e1 := wordsOf_has l x.toNat (by omega)
  have e2 := wordsOf_has l' x.toNat (by omega)
  rw [h] at e1
  rw [show ((x.toNat : Nat) : Int) = x by omega] at e1 e2
  rw [e1] at e2
  exact decide_eq_decide.1 e2
/-- Numbers of states. -/
def Small (l : List Int) : Prop := ∀ x ∈ l, 0 ≤ x ∧ x < 256
theorem Small.nil : Small [] := fun x h => absurd h (by simp)
theorem Small.snoc {l : List Int} (h : Small l) {x : Int} (hx : 0 ≤ x ∧ x < 256) : Small (l ++ [x]) := fun y hy => by
  rcases List.mem_append.1 hy with e | e
  · exact h y e
  · rw [List.mem_singleton.1 e]; exact hx
theorem Small.sorted {l : List Int} (h : Small l) : Small (sortedL l) := fun x hx => h x (((sortedL_spec l).2 x).1 hx)
theorem IsRow.small {l : List Int} {b : Int} (h : IsRow l b) (hb : b ≤ 256) : Small l := fun x hx => by have := h.mem hx; omega

end

section
open Go.RowKit

/-- Where states lead to, at an event, as the arrows stand. -/
def stepT (m : Mach) (l : List Int) (e : Int) : List Int := (m.arrows.filter fun a => decide (a.evt = e) && decide (a.frm ∈ l)).map (·.to_)
theorem May.arr {m : Mach} (hm : m.May) {y : Arr} (h : y ∈ m.arrows) : m.ArrOk y := by
  obtain ⟨i, hi, rfl⟩ := (mem_iff_getD m.arrows default y).1 h
  exact (hm.2.2.2.2.2.2.2 i hi).1
/-- The row of where states lead to. -/
def stepL (m : Mach) (l : List Int) (e : Int) : List Int := sortedL (stepT m l e)
end

section
open Go.RowKit

def MeetL (a b : List Int) : Prop := ∃ x ∈ a, x ∈ b
instance (a b : List Int) : Decidable (MeetL a b) := by unfold MeetL; exact inferInstance
end
section
open Go.RowKit
theorem IsRow.more {l : List Int} {a b : Int} (h : IsRow l a) (hab : a ≤ b) : IsRow l b := fun i hi => by
  have := h i hi
  exact ⟨this.1, by have := this.2.1; omega, this.2.2.1, this.2.2.2⟩
end
end Go.Proofs.YtpinjiikiaakaaaDoor

/-
  The number of the lowest bit that is set: the library's TrailingZeros64, by its contract, where its table reads as it is laid.
  Chapter 2: the program's All goes over a set's numbers, rising: by its contract.
  Chapter 2: the program's Row: by its contract; After, Accepts.
  Chapter 2: which words are accepted: the program's Accepts, the reference's Word, After, Accepts: by their contracts.
-/
namespace Go.Proofs.YtpinjiikiaakaaaDoor
set_option linter.unusedSimpArgs false
set_option linter.unusedVariables false
set_option linter.unusedSectionVars false
section
open Go.RowKit

section
variable {P : Program} {K : Fr → World → Prop} {u : World} {f : Fr} {d : Option Nat} {w : World} {t ty : Nat} {xo yo : Operand}
theorem e_conv (s : TypeId) (o : Operand) : EffX P K (.convert s t o) ty f d w = Eff1 P K (convert s t (ev f o)) f d w := propext Iff.rfl
end

end

section
open Go.RowKit Go.Shelf

attribute [local go_sem] Oper.semAt_some

theorem Same.grown {w w' : World} (h : Same w w') : w.grownBy w' none := ⟨h.os, h.tape, h.output, by rw [h.heap]; exact Nat.le_refl _, fun k _ _ => by rw [h.heap]⟩

end

section
open Go.RowKit

/-- A word. -/
def IsWord (m : Mach) (l : List Int) : Prop := ∀ i, i < l.length → 0 ≤ l.getD i 0 ∧ l.getD i 0 < m.events
instance (m : Mach) (l : List Int) : Decidable (IsWord m l) := by unfold IsWord; exact inferInstance
/-- Where runs of a word end. -/
def afterL (m : Mach) (l : List Int) (word : List Int) : List Int := word.foldl (stepL m) l
end

section
open Go.RowKit

def AcceptsL (m : Mach) (word : List Int) : Prop := MeetL (afterL m m.starts word) m.ends
instance (m : Mach) (word : List Int) : Decidable (AcceptsL m word) := by unfold AcceptsL; exact inferInstance
theorem may_starts {m : Mach} (hm : m.May) : IsRow m.starts m.states := hm.2.2.2.2.2.1
theorem may_ends {m : Mach} (hm : m.May) : IsRow m.ends m.states := hm.2.2.2.2.2.2.1
end
end Go.Proofs.YtpinjiikiaakaaaDoor

/-
  What edges lead to: sets that are picked by a property, closures, passes over edges; equality of sets of states. Plain but for the last part.
  Chapter 3, in plain Lean: the machine of some states alone; it accepts what the machine accepts, if the states are those of use. No program in sight.
  Chapters 5 and 9, in plain Lean: what unseen events lead to; the machine of what is seen; what is seen of a word that is accepted is accepted by it. No program in sight.
-/
namespace Go.Proofs.YtpinjiikiaakaaaDoor
set_option linter.unusedSimpArgs false
set_option linter.unusedVariables false
set_option linter.unusedSectionVars false
section
open Go.RowKit

/-- The row of the numbers below 256 with a property. -/
noncomputable def pick (p : Int → Prop) : List Int := ((List.range 256).filter fun (n : Nat) => @decide (p (n : Int)) (Classical.propDecidable _)).map fun (n : Nat) => (n : Int)
theorem mem_pick {p : Int → Prop} {x : Int} : x ∈ pick p ↔ (0 ≤ x ∧ x < 256) ∧ p x := by
  unfold pick
  simp only [List.mem_map, List.mem_filter, List.mem_range, decide_eq_true_eq]
  constructor
  · rintro ⟨n, ⟨hn, h⟩, rfl⟩; exact ⟨⟨by omega, by omega⟩, h⟩
  · rintro ⟨⟨h0, h1⟩, h⟩
    exact ⟨x.toNat, ⟨by omega, by rw [show ((x.toNat : Nat) : Int) = x by omega]; exact h⟩, by omega⟩
theorem words_pick {p : Int → Prop} {l : List Int} (h : ∀ x, 0 ≤ x → x < 256 → (x ∈ l ↔ p x)) : wordsOf l = wordsOf (pick p) :=
  wordsOf_ext fun x h0 h1 => by rw [h x h0 h1, mem_pick]; exact ⟨fun hp => ⟨⟨h0, h1⟩, hp⟩, fun hp => hp.2⟩
theorem setV_pick {p : Int → Prop} {l : List Int} (h : ∀ x, 0 ≤ x → x < 256 → (x ∈ l ↔ p x)) : setV l = setV (pick p) := by unfold setV; rw [words_pick h]
/-- How many of the states are not in the list. -/
def miss (l : List Int) : Nat := (List.range 256).countP fun (n : Nat) => !decide ((n : Int) ∈ l)
/-- What edges lead to. -/
inductive Clos (es : List (Int × Int)) (l : List Int) : Int → Prop
  | base (x : Int) (h : x ∈ l) : Clos es l x
  | step (p : Int × Int) (hp : p ∈ es) (h : Clos es l p.1) : Clos es l p.2
theorem Clos.trans {es : List (Int × Int)} {l m : List Int} (h : ∀ x ∈ m, Clos es l x) {x : Int} (hx : Clos es m x) : Clos es l x := by
  induction hx with
  | base x hm => exact h x hm
  | step p hp _ ih => exact .step p hp ih
theorem Clos.mono {es : List (Int × Int)} {l m : List Int} (h : ∀ x ∈ l, x ∈ m) {x : Int} (hx : Clos es l x) : Clos es m x := Clos.trans (fun x hx => .base x (h x hx)) hx
theorem Clos.within {es : List (Int × Int)} {l m : List Int} (h0 : ∀ x ∈ l, x ∈ m) (h : ∀ p ∈ es, p.1 ∈ m → p.2 ∈ m) {x : Int} (hx : Clos es l x) : x ∈ m := by
  induction hx with
  | base x hl => exact h0 x hl
  | step p hp _ ih => exact h p hp ih
theorem Clos.all {es : List (Int × Int)} {l : List Int} {p : Int → Prop} (h0 : ∀ x ∈ l, p x) (h : ∀ e ∈ es, p e.1 → p e.2) {x : Int} (hx : Clos es l x) : p x := by
  induction hx with
  | base x hl => exact h0 x hl
  | step e he _ ih => exact h e he ih
/-- One pass over the edges. -/
def passL (es : List (Int × Int)) (l : List Int) : List Int := es.foldl (fun l p => if p.1 ∈ l then l ++ [p.2] else l) l
theorem passL_append (es fs : List (Int × Int)) (l : List Int) : passL (es ++ fs) l = passL fs (passL es l) := by unfold passL; rw [List.foldl_append]
theorem passL_sub : ∀ (es : List (Int × Int)) (l : List Int), ∀ x ∈ l, x ∈ passL es l
  | [], _, _, h => h
  | p :: es, l, x, h => by
    show x ∈ passL es (if p.1 ∈ l then l ++ [p.2] else l)
    refine passL_sub es _ x ?_
    split
    · exact List.mem_append_left _ h
    · exact h
theorem passL_clos : ∀ (es : List (Int × Int)) (l : List Int), ∀ x ∈ passL es l, Clos es l x
  | [], _, x, h => .base x h
  | p :: es, l, x, h => by
    have ih := passL_clos es _ x h
    have hm : ∀ {l : List Int} {y : Int}, Clos es l y → Clos (p :: es) l y := fun {l y} hy => by
      induction hy with
      | base x h => exact .base x h
      | step q hq _ ih => exact .step q (List.mem_cons_of_mem _ hq) ih
    refine Clos.trans (fun y hy => ?_) (hm ih)
    replace hy : y ∈ (if p.1 ∈ l then l ++ [p.2] else l) := hy
    split at hy
    · rename_i h1
      rcases List.mem_append.1 hy with hy | hy
      · exact .base y hy
      · rw [List.mem_singleton.1 hy]; exact .step p (List.mem_cons_self ..) (.base _ h1)
    · exact .base y hy
theorem passL_closed {es : List (Int × Int)} {l : List Int} (h : ∀ x ∈ passL es l, x ∈ l) : ∀ p ∈ es, p.1 ∈ l → p.2 ∈ l := by
  intro p hp h1
  obtain ⟨a, b, rfl⟩ := List.append_of_mem hp
  refine h _ ?_
  rw [passL_append]
  show p.2 ∈ passL b (if p.1 ∈ passL a l then passL a l ++ [p.2] else passL a l)
  rw [if_pos (passL_sub a l _ h1)]
  exact passL_sub b _ _ (by simp)
theorem passL_small {es : List (Int × Int)} (he : ∀ p ∈ es, 0 ≤ p.2 ∧ p.2 < 256) : ∀ {l : List Int}, Small l → Small (passL es l) := by
  intro l hl x hx
  exact (passL_clos es l x hx).all hl fun e h _ => he e h
/-- The edges of some arrows, forward or backward. -/
def eds (p : Arr → Bool) (rev : Bool) (ar : List Arr) : List (Int × Int) := (ar.filter p).map fun a => if rev then (a.to_, a.frm) else (a.frm, a.to_)
theorem mem_eds {p : Arr → Bool} {rev : Bool} {ar : List Arr} {e : Int × Int} : e ∈ eds p rev ar ↔ ∃ a ∈ ar, p a = true ∧ e = (if rev then (a.to_, a.frm) else (a.frm, a.to_)) := by
  unfold eds
  simp only [List.mem_map, List.mem_filter]
  exact ⟨fun ⟨a, ⟨h1, h2⟩, h3⟩ => ⟨a, h1, h2, h3.symm⟩, fun ⟨a, h1, h2, h3⟩ => ⟨a, ⟨h1, h2⟩, h3.symm⟩⟩
/-- What passes come to: the state of the loops 'until nothing new comes'. -/
structure Spread (es : List (Int × Int)) (l0 was l : List Int) : Prop where
  small : Small l
  sub : ∀ x ∈ l0, x ∈ l
  clos : ∀ x ∈ l, Clos es l0 x
  closed : wordsOf was = wordsOf l → ∀ p ∈ es, p.1 ∈ l → p.2 ∈ l
theorem small_sub {was l : List Int} (h : wordsOf was = wordsOf l) (hl : Small l) : ∀ x ∈ l, x ∈ was := fun x hx => (wordsOf_mem h (hl x hx).1 (hl x hx).2).2 hx
theorem Spread.start (es : List (Int × Int)) {l : List Int} (hl : Small l) : Spread es l [] l :=
  ⟨hl, fun _ h => h, fun x h => .base x h, fun h p _ hp => absurd (small_sub h hl _ hp) (by simp)⟩
theorem Spread.next {es : List (Int × Int)} {l0 was l : List Int} (h : Spread es l0 was l) (he : ∀ p ∈ es, 0 ≤ p.2 ∧ p.2 < 256) : Spread es l0 l (passL es l) := by
  have hs := passL_small he h.small
  refine ⟨hs, fun x hx => passL_sub es l x (h.sub x hx), fun x hx => Clos.trans h.clos (passL_clos es l x hx), fun hw p hp h1 => ?_⟩
  have hsub := small_sub hw hs
  exact passL_sub es l _ (passL_closed hsub p hp (hsub _ h1))
theorem Spread.done {es : List (Int × Int)} {l0 was l : List Int} (h : Spread es l0 was l) (hw : wordsOf was = wordsOf l) : setV l = setV (pick (Clos es l0)) :=
  setV_pick fun x _ _ => ⟨h.clos x, fun hc => Clos.within h.sub (h.closed hw) hc⟩
/-- How many rounds are left, at most. -/
def left (was l : List Int) : Nat := 2 * miss l + if wordsOf was = wordsOf l then 0 else 1
section
variable {K : Fr → World → Prop} {u w : World} {f : Fr} {d : Option Nat} {xo yo : Operand}
end
end

section
open Go.RowKit

/-- A number's place in a list. -/
def ix (x : Int) : List Int → Nat
  | [] => 0
  | y :: l => if y = x then 0 else ix x l + 1
theorem ix_at {x : Int} : ∀ {l : List Int}, x ∈ l → l.getD (ix x l) 0 = x
  | [], h => absurd h (by simp)
  | y :: l, h => by
    unfold ix
    by_cases e : y = x
    · rw [if_pos e]; exact e
    · rw [if_neg e, List.getD_cons_succ]
      exact ix_at (l := l) ((List.mem_cons.1 h).resolve_left fun h => e h.symm)
theorem ix_inj {l : List Int} {x y : Int} (hx : x ∈ l) (hy : y ∈ l) (h : ix x l = ix y l) : x = y := by rw [← ix_at hx, ← ix_at hy, h]
/-- Those of a list's numbers that stand in a row, by their places. -/
def numL (B l : List Int) : List Int := (l.filter fun x => decide (x ∈ B)).map fun x => (ix x B : Int)
/-- The arrows between some states, by their places. -/
def trimA (B : List Int) (ar : List Arr) : List Arr := (ar.filter fun a => decide (a.frm ∈ B) && decide (a.to_ ∈ B)).map fun a => ⟨ix a.frm B, a.evt, ix a.to_ B⟩
theorem mem_trimA {B : List Int} {ar : List Arr} {b : Arr} : b ∈ trimA B ar ↔ ∃ a ∈ ar, a.frm ∈ B ∧ a.to_ ∈ B ∧ b = ⟨ix a.frm B, a.evt, ix a.to_ B⟩ := by
  unfold trimA
  simp only [List.mem_map, List.mem_filter, Bool.and_eq_true, decide_eq_true_eq]
  exact ⟨fun ⟨a, ⟨h1, h2, h3⟩, h4⟩ => ⟨a, h1, h2, h3, h4.symm⟩, fun ⟨a, h1, h2, h3, h4⟩ => ⟨a, ⟨h1, h2, h3⟩, h4.symm⟩⟩
/-- Arrows in order. -/
def OrdA (l : List Arr) : Prop := l.Pairwise Arr.lt
theorem Arr.lt_trans {a b c : Arr} (h : a.lt b) (k : b.lt c) : a.lt c := by unfold Arr.lt at *; omega
theorem OrdA.of_step : ∀ {l : List Arr}, (∀ i, i < l.length → 0 < i → (l.getD (i - 1) default).lt (l.getD i default)) → OrdA l
  | [], _ => List.Pairwise.nil
  | [a], _ => by simp [OrdA]
  | a :: b :: l, h => by
    have ih : OrdA (b :: l) := OrdA.of_step fun i hi h0 => by
      have := h (i + 1) (by simpa using hi) (by omega)
      rw [Nat.add_sub_cancel] at this
      match i, h0 with
      | i + 1, _ => simpa using this
    have hab : a.lt b := by have := h 1 (by simp) (by omega); simpa using this
    refine List.Pairwise.cons (fun c hc => ?_) ih
    rcases List.mem_cons.1 hc with rfl | hc
    · exact hab
    · exact Arr.lt_trans hab ((List.pairwise_cons.1 ih).1 c hc)
theorem May.ord {m : Mach} (h : m.May) : OrdA m.arrows := OrdA.of_step fun i hi h0 => (h.2.2.2.2.2.2.2 i hi).2 h0
theorem OrdA.at_ {l : List Arr} (h : OrdA l) {i j : Nat} (hij : i < j) (hj : j < l.length) : (l.getD i default).lt (l.getD j default) := by
  have := List.pairwise_iff_getElem.1 h i j (by omega) hj hij
  simpa [List.getD_eq_getElem?_getD, hj, show i < l.length by omega] using this
/-- The machine of some states alone. -/
def trimM (m : Mach) (B : List Int) : Mach := ⟨max (B.length : Int) 1, m.events, numL B m.starts, trimA B m.arrows, numL B m.ends⟩
abbrev allA : Arr → Bool := fun _ => true
def ReachP (m : Mach) (x : Int) : Prop := Clos (eds allA false m.arrows) m.starts x
def LiveP (m : Mach) (x : Int) : Prop := Clos (eds allA true m.arrows) m.ends x
theorem ReachP.step {m : Mach} {a : Arr} (ha : a ∈ m.arrows) (h : ReachP m a.frm) : ReachP m a.to_ := Clos.step (a.frm, a.to_) (mem_eds.2 ⟨a, ha, rfl, rfl⟩) h
theorem LiveP.step {m : Mach} {a : Arr} (ha : a ∈ m.arrows) (h : LiveP m a.to_) : LiveP m a.frm := Clos.step (a.to_, a.frm) (mem_eds.2 ⟨a, ha, rfl, rfl⟩) h
theorem ReachP.lt {m : Mach} (hm : m.May) {x : Int} (h : ReachP m x) : 0 ≤ x ∧ x < m.states := by
  refine Clos.all (p := fun x => 0 ≤ x ∧ x < m.states) (fun x hx => by have := (may_starts hm).mem hx; exact ⟨this.1, this.2.1⟩) (fun e he _ => ?_) h
  obtain ⟨a, ha, _, rfl⟩ := mem_eds.1 he
  exact (May.arr hm ha).2.1
theorem LiveP.lt {m : Mach} (hm : m.May) {x : Int} (h : LiveP m x) : 0 ≤ x ∧ x < m.states := by
  refine Clos.all (p := fun x => 0 ≤ x ∧ x < m.states) (fun x hx => by have := (may_ends hm).mem hx; exact ⟨this.1, this.2.1⟩) (fun e he _ => ?_) h
  obtain ⟨a, ha, _, rfl⟩ := mem_eds.1 he
  exact (May.arr hm ha).1
noncomputable def reachL (m : Mach) : List Int := pick (ReachP m)
noncomputable def liveL (m : Mach) : List Int := pick (LiveP m)
noncomputable def bothL (m : Mach) : List Int := onlyL (reachL m) (liveL m) true
theorem mem_onlyT {l k : List Int} {x : Int} : x ∈ onlyL l k true ↔ x ∈ l ∧ x ∈ k := by unfold onlyL; simp [List.mem_filter]
theorem mem_both {m : Mach} (hm : m.May) {x : Int} : x ∈ bothL m ↔ ReachP m x ∧ LiveP m x := by
  have h256 : m.states ≤ 256 := hm.2.1
  unfold bothL
  rw [mem_onlyT, reachL, liveL, mem_pick, mem_pick]
  exact ⟨fun h => ⟨h.1.2, h.2.2⟩, fun h => by have := h.1.lt hm; exact ⟨⟨⟨by omega, by omega⟩, h.1⟩, ⟨⟨by omega, by omega⟩, h.2⟩⟩⟩
theorem mem_stepL {m : Mach} {l : List Int} {e x : Int} : x ∈ stepL m l e ↔ ∃ a ∈ m.arrows, a.evt = e ∧ a.frm ∈ l ∧ a.to_ = x := by
  unfold stepL stepT
  rw [(sortedL_spec _).2]
  simp only [List.mem_map, List.mem_filter, Bool.and_eq_true, decide_eq_true_eq]
  exact ⟨fun ⟨a, ⟨h1, h2, h3⟩, h4⟩ => ⟨a, h1, h2, h3, h4⟩, fun ⟨a, h1, h2, h3, h4⟩ => ⟨a, ⟨h1, h2, h3⟩, h4⟩⟩
/-- Two places of the two machines. -/
def TrimR (m : Mach) (l l' : List Int) : Prop := (∀ x ∈ l, ReachP m x) ∧ ∀ i, i ∈ l' ↔ ∃ x ∈ l, x ∈ bothL m ∧ (ix x (bothL m) : Int) = i
theorem TrimR.step {m : Mach} (hm : m.May) {l l' : List Int} (h : TrimR m l l') (e : Int) : TrimR m (stepL m l e) (stepL (trimM m (bothL m)) l' e) := by
  refine ⟨fun x hx => ?_, fun i => ?_⟩
  · obtain ⟨a, ha, _, hf, rfl⟩ := mem_stepL.1 hx
    exact (h.1 _ hf).step ha
  · rw [mem_stepL]
    constructor
    · rintro ⟨b, hb, he, hf, rfl⟩
      obtain ⟨a, ha, h1, h2, rfl⟩ := mem_trimA.1 hb
      obtain ⟨x, hx, hxb, hix⟩ := (h.2 _).1 hf
      obtain rfl := ix_inj hxb h1 (Int.ofNat.inj hix)
      exact ⟨a.to_, mem_stepL.2 ⟨a, ha, he, hx, rfl⟩, h2, rfl⟩
    · rintro ⟨x, hx, hxb, rfl⟩
      obtain ⟨a, ha, he, hf, rfl⟩ := mem_stepL.1 hx
      have hfb : a.frm ∈ bothL m := (mem_both hm).2 ⟨h.1 _ hf, ((mem_both hm).1 hxb).2.step ha⟩
      exact ⟨_, mem_trimA.2 ⟨a, ha, hfb, hxb, rfl⟩, he, (h.2 _).2 ⟨_, hf, hfb, rfl⟩, rfl⟩
theorem TrimR.after {m : Mach} (hm : m.May) : ∀ (word : List Int) {l l' : List Int}, TrimR m l l' → TrimR m (afterL m l word) (afterL (trimM m (bothL m)) l' word)
  | [], _, _, h => h
  | e :: word, _, _, h => TrimR.after hm word (h.step hm e)
end

section
open Go.RowKit

end
end Go.Proofs.YtpinjiikiaakaaaDoor
