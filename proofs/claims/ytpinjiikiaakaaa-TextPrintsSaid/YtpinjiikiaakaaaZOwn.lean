/-
  Rows of integers of one's own; lists; slices of slices' tails. No program in sight.
  Ways that meet again: a statement may be gone through up to a relation, and what follows once from there. No program in sight.
  A loop whose rounds are told by a number that falls; least numbers. No program in sight.
  New blocks, and variables of several cells. No program in sight.
  Arithmetic of bits: the operators on unsigned words. No program in sight.
  Rows of records (elements of several cells): read, appended to; variables of several cells read in part; built values. No program in sight.
-/
import Derived.Test.YtpinjiikiaakaaaZLaws
import Derived.Laws.Tables
namespace Go.Proofs.Ytpinjiikiaakaaa
set_option linter.unusedSimpArgs false
set_option linter.unusedVariables false
set_option linter.unusedSectionVars false
section
open Go.RowKit

theorem take_snoc {α : Type} (l : List α) (d : α) (k : Nat) (h : k < l.length) : l.take (k + 1) = l.take k ++ [l.getD k d] := by
  rw [List.take_succ_eq_append_getElem h]
  simp [List.getD_eq_getElem?_getD, h]
theorem getD_map {α β : Type} (g : α → β) (l : List α) (d : α) (e : β) (k : Nat) (h : k < l.length) : (l.map g).getD k e = g (l.getD k d) := by
  simp [List.getD_eq_getElem?_getD, h]
theorem getD_mem {α : Type} (l : List α) (d : α) (k : Nat) (h : k < l.length) : l.getD k d ∈ l := by
  simp [List.getD_eq_getElem?_getD, h]
theorem mem_iff_getD {α : Type} (l : List α) (d x : α) : x ∈ l ↔ ∃ k, k < l.length ∧ l.getD k d = x := by
  constructor
  · intro h
    obtain ⟨k, hk, rfl⟩ := List.getElem_of_mem h
    exact ⟨k, hk, by simp [List.getD_eq_getElem?_getD, hk]⟩
  · rintro ⟨k, hk, rfl⟩; exact getD_mem l d k hk
theorem getD_set {α : Type} (l : List α) (d x : α) (i k : Nat) (h : i < l.length) : (l.set i x).getD k d = if k = i then x else l.getD k d := by
  simp only [List.getD_eq_getElem?_getD, List.getElem?_set]
  by_cases e : k = i
  · subst e; simp [h]
  · rw [if_neg (fun h => e h.symm), if_neg e]

abbrev iv (l : List Int) : List Value := l.map (Value.int .i64)
abbrev OwnI (B e : Nat) (w : World) (A : Option Addr) (c : Nat) (l : List Int) : Prop := Own B e 1 w A c l.length (iv l)
section
variable {P : Program} {K : Fr → World → Prop} {f : Fr} {d : Option Nat} {u w w' : World} {B e bytes t ty : Nat} {A A2 : Option Addr} {c c2 n : Nat} {l m : List Int} {ok : Nat → Prop}
theorem Ints.rd (h : Ints ok w A l) : Rd w A (iv l) :=
  ⟨fun hl => h.isSome (by simpa using hl), fun j v hv => by
    have hj : j < l.length := by
      rcases Nat.lt_or_ge j l.length with h | h
      · exact h
      · rw [List.getElem?_eq_none (by simpa using h)] at hv; cases hv
    rw [h.cell j hj]
    simp only [List.getElem?_map, List.getElem?_eq_getElem hj, Option.map_some, Option.some.injEq] at hv
    rw [← hv]; simp [List.getD_eq_getElem?_getD, hj]⟩
theorem Ints.of_rd (h : Rd w A (iv l)) (hb : 0 < l.length → ok (A.getD default).block) : Ints ok w A l :=
  ⟨fun hl => h.isSome (by simpa using hl), hb, fun i hi => h.cell i _ (by simp [List.getD_eq_getElem?_getD, hi])⟩
theorem OwnI.ints (h : OwnI B e w A c l) : Ints (fun b => B ≤ b ∧ A.map (·.block) = some b) w A l :=
  Ints.of_rd (h.rd (by decide)) fun hl => by
    have hs := h.isSome hl
    refine ⟨(h.block hs).1, ?_⟩
    cases A with
    | none => cases hs
    | some a => rfl
/-- append(x, v) -/
theorem app_int (hT : SlT P t e 1 8) (hown : OwnI B e w A c l) (x : Int) (hl : l.length + 1 ≤ 17592186044416) (hB : B ≤ w.heap.size)
    (hk : ∀ A' c' w', OwnI B e w' A' c' (l ++ [x]) → Grew w w' A → (A'.map (·.block) = A.map (·.block) ∨ ∃ g, A'.map (·.block) = some g ∧ w.heap.size ≤ g) → A'.isSome = true → w.heap.size ≤ w'.heap.size → K (updO f d (.slice A' (l.length + 1) c')) w') :
    Eff1 P K (Builtin.append_ #[t, t] ty #[.slice A l.length c, .slice (some ⟨w.heap.size, 0, none⟩) 1 1]) f d (w.alloc (.cells [.int .i64 x].toArray e)) := by
  refine append_own hT ty (hown.alloc _) (rd_new w [.int .i64 x] e) rfl (by intro u hu; simp at hu; subst hu; rfl) (by omega) (by omega) (by simp; omega) ?_
  intro A' c' w' ho hg hA hs hz
  have hz' : w.heap.size ≤ w'.heap.size := by have : (w.alloc (.cells [.int .i64 x].toArray e)).heap.size = w.heap.size + 1 := by simp
                                              omega
  refine hk A' c' w' ?_ ⟨⟨hg.by_.os, hg.by_.tape, hg.by_.output, hz', fun k hk hne => ?_⟩⟩ ?_ (hs (by decide)) hz'
  · unfold OwnI; simpa using ho
  · rw [hg.by_.block k (by simp; omega) hne, Below.heap_alloc w _ k hk]
  · rcases hA with h | h
    · exact .inl h
    · exact .inr ⟨_, h, by simp⟩
theorem v_slice (o : Operand) (lo hi mx : Option Operand) : ValX P K (.slice t o lo hi mx) ty u f d w = Val1 P K (Instr.sliceAt t (ev f o) (lo.map (ev f)) (hi.map (ev f)) (mx.map (ev f))) u f d w := propext Iff.rfl
theorem ext_2_0 (a b : Value) : Val1 P K (Instr.extract (.tuple #[a, b]) 0) u f d w = K (updO f d a) w := ext_tuple u f d w _ 0 (by simp)
theorem ext_2_1 (a b : Value) : Val1 P K (Instr.extract (.tuple #[a, b]) 1) u f d w = K (updO f d b) w := ext_tuple u f d w _ 1 (by simp)
theorem ext_3_0 (a b c : Value) : Val1 P K (Instr.extract (.tuple #[a, b, c]) 0) u f d w = K (updO f d a) w := ext_tuple u f d w _ 0 (by simp)
theorem ext_3_1 (a b c : Value) : Val1 P K (Instr.extract (.tuple #[a, b, c]) 1) u f d w = K (updO f d b) w := ext_tuple u f d w _ 1 (by simp)
theorem ext_3_2 (a b c : Value) : Val1 P K (Instr.extract (.tuple #[a, b, c]) 2) u f d w = K (updO f d c) w := ext_tuple u f d w _ 2 (by simp)
theorem ext_4_0 (x0 x1 x2 x3 : Value) : Val1 P K (Instr.extract (.tuple #[x0, x1, x2, x3]) 0) u f d w = K (updO f d x0) w := ext_tuple u f d w _ 0 (by simp)
theorem ext_4_1 (x0 x1 x2 x3 : Value) : Val1 P K (Instr.extract (.tuple #[x0, x1, x2, x3]) 1) u f d w = K (updO f d x1) w := ext_tuple u f d w _ 1 (by simp)
theorem ext_4_2 (x0 x1 x2 x3 : Value) : Val1 P K (Instr.extract (.tuple #[x0, x1, x2, x3]) 2) u f d w = K (updO f d x2) w := ext_tuple u f d w _ 2 (by simp)
theorem ext_4_3 (x0 x1 x2 x3 : Value) : Val1 P K (Instr.extract (.tuple #[x0, x1, x2, x3]) 3) u f d w = K (updO f d x3) w := ext_tuple u f d w _ 3 (by simp)
end
attribute [push_cast] ext_2_0 ext_2_1 ext_3_0 ext_3_1 ext_3_2 ext_4_0 ext_4_1 ext_4_2 ext_4_3 v_slice Option.map_some Option.map_none
end

section
open Go.RowKit
section
variable {P : Program} {R : Rx} {pn : List PanicEntry → World → Prop}
theorem x_base (n : Nat) (k : List It) (b b' : World) (f : Fr) (w : World) (h : x P R n [] k b f w) : x P R n [] k b' f w := by
  cases n with
  | zero => exact h
  | succ n => cases k with
    | nil => exact h
    | cons i k => cases i <;> exact h
theorem stepI_mono {K K' : Fr → World → Prop} (hK : ∀ f w, K f w → K' f w) : ∀ (i : I) (u : World) (f : Fr) (w : World), stepI P pn K i u f w → stepI P pn K' i u f w
  | .mv _ _, _, _, _, h => hK _ _ h
  | .pick _ _ _ _, _, _, _, ⟨t, ht, h⟩ => ⟨t, ht, hK _ _ h⟩
  | .nilc _ _, _, _, _, ⟨h0, h⟩ => ⟨h0, hK _ _ h⟩
  | .val d o ty, u, f, w, h => by
    have h' : ValX P K o ty u f d w := h
    show ValX P K' o ty u f d w
    unfold ValX at *
    cases hv : valOf (ev f) ty o with
    | none => simp [hv] at h'
    | some s => simp only [hv] at h' ⊢; obtain ⟨v, hr, hk⟩ := h'; exact ⟨v, hr, hK _ _ hk⟩
  | .eff d o ty, _, f, w, h => by
    have h' : EffX P K o ty f d w := h
    show EffX P K' o ty f d w
    unfold EffX at *
    cases hv : valOf (ev f) ty o with
    | none => simp [hv] at h'
    | some s => simp only [hv] at h' ⊢; obtain ⟨v, w', hr, hk⟩ := h'; exact ⟨v, w', hr, hK _ _ hk⟩
  | .call _ _ _, _, _, _, ⟨h0, h⟩ => ⟨h0, h.mono fun _ _ hh => hh.elim (fun ⟨v, he, hk⟩ => .inl ⟨v, he, hK _ _ hk⟩) .inr⟩
  | .callv _ _ _, _, _, _, ⟨g, p, q, hg, h0, h⟩ => ⟨g, p, q, hg, h0, h.mono fun _ _ hh => hh.elim (fun ⟨v, he, hk⟩ => .inl ⟨v, he, hK _ _ hk⟩) .inr⟩
  | .gd s b d i, u, f, w, h => by
    simp only [stepI] at h ⊢
    split
    · rename_i t ht
      simp only [ht] at h
      split
      · rename_i hb; rw [if_pos hb] at h; exact stepI_mono hK i u f w h
      · rename_i hb; rw [if_neg hb] at h; exact hK _ _ h
    · rename_i hne
      split at h
      · rename_i t ht; exact absurd ht (hne t)
      · exact hK _ _ h
  | .adr d o ty, _, f, w, h => by
    simp only [stepI, AdrX] at h ⊢
    split
    · rename_i s hs
      rw [hs] at h
      obtain ⟨v, hr, hk⟩ := h
      exact ⟨v, hr, hK _ _ hk⟩
    · rename_i hs; rw [hs] at h; exact h
  | .q _, _, _, _, h => h.elim
  | .chk, _, _, _, h => h.elim
  | .qx _ _, _, _, _, h => h.elim
  | .chkx _, _, _, _, h => h.elim
  | .rb, _, _, _, h => h.elim
  | .bad, _, _, _, h => h.elim
theorem stepE_mono {P : Program} {K K' : Fr → World → Prop} (hK : ∀ f w, K f w → K' f w) (t : TypeId) : ∀ (i : I) (u : World) (f : Fr) (w : World), stepE P K t i u f w → stepE P K' t i u f w
  | .mv _ _, _, _, _, h => hK _ _ h
  | .pick _ _ _ _, _, _, _, ⟨t, ht, h⟩ => ⟨t, ht, hK _ _ h⟩
  | .nilc _ _, _, _, _, ⟨hn, h⟩ => ⟨hn, hK _ _ h⟩
  | .val d o ty, u, f, w, h => by
    simp only [stepE, ValXE] at h ⊢
    split
    · rename_i s hs
      rw [hs] at h
      obtain ⟨v, hr, hk⟩ := h
      exact ⟨v, hr, hK _ _ hk⟩
    · rename_i hs; rw [hs] at h; exact h
  | .eff _ _ _, _, _, _, h => h.elim
  | .adr _ _ _, _, _, _, h => h.elim
  | .call _ _ _, _, _, _, h => h.elim
  | .callv _ _ _, _, _, _, h => h.elim
  | .gd _ _ _ _, _, _, _, h => h.elim
  | .q _, _, _, _, h => h.elim
  | .chk, _, _, _, h => h.elim
  | .qx _ _, _, _, _, h => h.elim
  | .chkx _, _, _, _, h => h.elim
  | .rb, _, _, _, h => h.elim
  | .bad, _, _, _, h => h.elim
theorem stepS_mono {P : Program} {K K' : Fr → World → Prop} {S : World → Prop} (hK : ∀ f w, K f w → K' f w) : ∀ (i : I) (f : Fr) (w : World), stepS P K S i f w → stepS P K' S i f w
  | .mv _ _, _, _, h => hK _ _ h
  | .pick _ _ _ _, _, _, ⟨t, ht, h⟩ => ⟨t, ht, hK _ _ h⟩
  | .nilc _ _, _, _, ⟨hn, h⟩ => ⟨hn, hK _ _ h⟩
  | .val d o ty, f, w, h => by
    simp only [stepS, ValXS] at h ⊢
    split
    · rename_i s hs
      rw [hs] at h
      obtain ⟨v, hr, hk⟩ := h
      exact ⟨v, hr, hK _ _ hk⟩
    · rename_i hs; rw [hs] at h; exact h
  | .eff _ _ _, _, _, h => h.elim
  | .adr _ _ _, _, _, h => h.elim
  | .call _ _ _, _, _, h => h.elim
  | .callv _ _ _, _, _, h => h.elim
  | .gd _ _ _ _, _, _, h => h.elim
  | .q _, _, _, h => h.elim
  | .chk, _, _, h => h.elim
  | .qx _ _, _, _, h => h.elim
  | .chkx _, _, _, h => h.elim
  | .rb, _, _, h => h.elim
  | .bad, _, _, h => h.elim
theorem xs_mono {K K' : Fr → World → Prop} {S : World → Prop} (hK : ∀ f w, K f w → K' f w) : ∀ (l : List I) (f : Fr) (w : World), xs P pn S K l f w → xs P pn S K' l f w
  | [], f, w, h => hK f w h
  | i :: l, f, w, h => by
    have ih := xs_mono (S := S) hK l
    have hs : ∀ f w, (S w ∧ xs P pn S K l f w) → (S w ∧ xs P pn S K' l f w) := fun f w hh => ⟨hh.1, ih f w hh.2⟩
    cases i with
    | q i => exact stepS_mono ih i f w h
    | adr d o ty => exact stepI_mono (pn := pn) ih (.adr d o ty) w f w h
    | chk => exact h.elim
    | rb => exact h.elim
    | qx t i => exact h.elim
    | chkx t => exact h.elim
    | mv d o => exact hs _ w h
    | pick d c o p => exact stepI_mono (pn := pn) hs (.pick d c o p) w f w h
    | nilc d o => exact stepI_mono (pn := pn) hs (.nilc d o) w f w h
    | val d o ty => exact stepI_mono (pn := pn) hs (.val d o ty) w f w h
    | eff d o ty => exact stepI_mono (pn := pn) hs (.eff d o ty) w f w h
    | call d g args => exact stepI_mono (pn := pn) hs (.call d g args) w f w h
    | callv d g args => exact stepI_mono (pn := pn) hs (.callv d g args) w f w h
    | gd s bb d i => exact stepI_mono (pn := pn) hs (.gd s bb d i) w f w h
    | bad => exact h.elim
theorem popTo_cut (id : Nat) (E : Fr → World → Prop) (k2 : List It) : ∀ (k1 : List It) (k' : List It), popTo id (k1 ++ .lp E :: k2) = some k' →
    (∃ k3, k' = k3 ++ .lp E :: k2 ∧ popTo id (k1 ++ k2) = some (k3 ++ k2)) ∨ popTo id (k1 ++ k2) = some k'
  | [], k', h => .inr (by simpa [popTo] using h)
  | .c _ :: k1, k', h => popTo_cut id E k2 k1 k' h
  | .lp _ :: k1, k', h => popTo_cut id E k2 k1 k' h
  | .sc :: k1, k', h => popTo_cut id E k2 k1 k' h
  | .t _ _ :: k1, k', h => popTo_cut id E k2 k1 k' h
  | .tn _ :: k1, k', h => popTo_cut id E k2 k1 k' h
  | .bl j :: k1, k', h => by
    simp only [List.cons_append, popTo] at h ⊢
    by_cases hj : id = j
    · rw [if_pos hj] at h ⊢
      injection h with h
      exact .inl ⟨k1, h.symm, rfl⟩
    · rw [if_neg hj] at h ⊢
      exact popTo_cut id E k2 k1 k' h
theorem x_fuel : ∀ (n : Nat) (l : List I) (k : List It) (b : World) (f : Fr) (w : World), x P R n l k b f w → x P R (n + 1) l k b f w
  | 0, _, _, _, _, _, h => h.elim
  | n + 1, [], [], _, _, _, h => h
  | n + 1, [], .bl _ :: k, _, f, w, h => x_fuel n [] k w f w h
  | n + 1, [], .sc :: k, _, f, w, h => x_fuel n [] k w f w h
  | n + 1, [], .lp _ :: _, _, _, _, h => h
  | n + 1, [], .t b0 t :: k, b, f, w, h => by
    cases t with
    | nil => exact x_fuel n [] k w f w h
    | q i t => exact x_fuel n [.q i] (.t b0 t :: k) b0 f w h
    | act i t => exact x_fuel n [i, .chk] (.t b0 t :: k) b0 f w h
    | cut i t => exact x_fuel n [i] (.tn t :: k) b0 f w h
    | two t u =>
      have h' : x P R n [] (.t b0 t :: k) b0 f w ∧ x P R n [] (.t b0 u :: k) b0 f w := h
      exact ⟨x_fuel n [] (.t b0 t :: k) b0 f w h'.1, x_fuel n [] (.t b0 u :: k) b0 f w h'.2⟩
  | n + 1, [], .tn t :: k, _, f, w, h => x_fuel n [] (.t w t :: k) w f w h
  | n + 1, [], .c c :: k, b, f, w, h => by
    cases c with
    | sk => exact x_fuel n [] k w f w h
    | sq a d => exact x_fuel n [] (.c a :: .c d :: k) w f w h
    | op l => exact x_fuel n l k w f w h
    | dr l => exact x_fuel n l k w.drew f w.drew h
    | drt t => exact x_fuel n [] (.t w.drew t :: k) w.drew f w.drew h
    | drz l =>
      obtain ⟨S, hS, h'⟩ := h
      exact ⟨S, hS, xs_mono (fun f' w' hh => x_fuel n [] k w' f' w' hh) l f w.drew h'⟩
    | cd c a d =>
      obtain ⟨t, ht, hh⟩ := h
      refine ⟨t, ht, ?_⟩
      cases t
      · exact x_fuel n [] (.c d :: k) w f w hh
      · exact x_fuel n [] (.c a :: k) w f w hh
    | bl id c => exact x_fuel n [] (.c c :: .bl id :: k) w f w h
    | lo c =>
      obtain ⟨J, μ, h0, hr⟩ := h
      exact ⟨J, μ, h0, fun f' w' hJ => x_fuel n _ _ w' f' w' (hr f' w' hJ)⟩
    | ex id =>
      have h' : (match popTo id k with | some k' => x P R n [] k' w f w | none => False) := h
      show (match popTo id k with | some k' => x P R (n + 1) [] k' w f w | none => False)
      cases hp : popTo id k with
      | none => rw [hp] at h'; exact h'.elim
      | some k' => rw [hp] at h'; exact x_fuel n [] k' w f w h'
    | sc c => exact x_fuel n [] (.c c :: .sc :: k) w f w h
    | rt => exact h
    | rf _ _ _ _ => exact h.elim
    | bad => exact h.elim
  | n + 1, i :: l, k, b, f, w, h => by
    cases i with
    | q i => exact stepI_mono (fun f w hh => x_fuel n l k b f w hh) i b f w h
    | chk => exact ⟨h.1, x_fuel n l k b f w h.2⟩
    | qx t i => exact stepE_mono (fun f w hh => x_fuel n l k b f w hh) t i b f w h
    | chkx t => exact ⟨h.1, x_fuel n l k b f w h.2⟩
    | rb => exact x_fuel n l k w f w h
    | mv d o => exact x_fuel n l k b _ w h
    | pick d c o p => exact stepI_mono (fun f w hh => x_fuel n l k b f w hh) (.pick d c o p) w f w h
    | nilc d o => exact stepI_mono (fun f w hh => x_fuel n l k b f w hh) (.nilc d o) w f w h
    | val d o ty => exact stepI_mono (fun f w hh => x_fuel n l k b f w hh) (.val d o ty) w f w h
    | adr d o ty => exact stepI_mono (fun f w hh => x_fuel n l k b f w hh) (.adr d o ty) w f w h
    | eff d o ty => exact stepI_mono (fun f w hh => x_fuel n l k b f w hh) (.eff d o ty) w f w h
    | call d g args => exact stepI_mono (fun f w hh => x_fuel n l k b f w hh) (.call d g args) w f w h
    | callv d g args => exact stepI_mono (fun f w hh => x_fuel n l k b f w hh) (.callv d g args) w f w h
    | gd s bb d i => exact stepI_mono (fun f w hh => x_fuel n l k b f w hh) (.gd s bb d i) w f w h
    | bad => exact h.elim
theorem x_more {n m : Nat} (h : n ≤ m) {l : List I} {k : List It} {b : World} {f : Fr} {w : World} (hx : x P R n l k b f w) : x P R m l k b f w := by
  obtain ⟨d, rfl⟩ := Nat.le.dest h
  clear h
  induction d with
  | zero => exact hx
  | succ d ih => exact x_fuel _ _ _ _ _ _ ih
theorem x_cut (E : Fr → World → Prop) (m : Nat) (k2 : List It) (hE : ∀ f w, E f w → x P R m [] k2 w f w) : ∀ (n : Nat) (l : List I) (k1 : List It) (b : World) (f : Fr) (w : World),
    x P R n l (k1 ++ .lp E :: k2) b f w → x P R (n + m) l (k1 ++ k2) b f w
  | 0, _, _, _, _, _, h => h.elim
  | n + 1, [], [], b, f, w, h => x_more (by omega) (x_base _ _ _ b _ _ (hE f w h))
  | n + 1, [], .bl _ :: k, _, f, w, h => by rw [show n + 1 + m = n + m + 1 by omega]; exact x_cut E m k2 hE n [] k w f w h
  | n + 1, [], .sc :: k, _, f, w, h => by rw [show n + 1 + m = n + m + 1 by omega]; exact x_cut E m k2 hE n [] k w f w h
  | n + 1, [], .lp _ :: _, _, _, _, h => by rw [show n + 1 + m = n + m + 1 by omega]; exact h
  | n + 1, [], .t b0 t :: k, b, f, w, h => by
    rw [show n + 1 + m = n + m + 1 by omega]
    cases t with
    | nil => exact x_cut E m k2 hE n [] k w f w h
    | q i t => exact x_cut E m k2 hE n [.q i] (.t b0 t :: k) b0 f w h
    | act i t => exact x_cut E m k2 hE n [i, .chk] (.t b0 t :: k) b0 f w h
    | cut i t => exact x_cut E m k2 hE n [i] (.tn t :: k) b0 f w h
    | two t u =>
      have h' : x P R n [] (.t b0 t :: (k ++ .lp E :: k2)) b0 f w ∧ x P R n [] (.t b0 u :: (k ++ .lp E :: k2)) b0 f w := h
      exact ⟨x_cut E m k2 hE n [] (.t b0 t :: k) b0 f w h'.1, x_cut E m k2 hE n [] (.t b0 u :: k) b0 f w h'.2⟩
  | n + 1, [], .tn t :: k, _, f, w, h => by rw [show n + 1 + m = n + m + 1 by omega]; exact x_cut E m k2 hE n [] (.t w t :: k) w f w h
  | n + 1, [], .c c :: k, b, f, w, h => by
    rw [show n + 1 + m = n + m + 1 by omega]
    cases c with
    | sk => exact x_cut E m k2 hE n [] k w f w h
    | sq a d => exact x_cut E m k2 hE n [] (.c a :: .c d :: k) w f w h
    | op l => exact x_cut E m k2 hE n l k w f w h
    | dr l => exact x_cut E m k2 hE n l k w.drew f w.drew h
    | drt t => exact x_cut E m k2 hE n [] (.t w.drew t :: k) w.drew f w.drew h
    | drz l =>
      obtain ⟨S, hS, h'⟩ := h
      exact ⟨S, hS, xs_mono (fun f' w' hh => x_cut E m k2 hE n [] k w' f' w' hh) l f w.drew h'⟩
    | cd c a d =>
      obtain ⟨t, ht, hh⟩ := h
      refine ⟨t, ht, ?_⟩
      cases t
      · exact x_cut E m k2 hE n [] (.c d :: k) w f w hh
      · exact x_cut E m k2 hE n [] (.c a :: k) w f w hh
    | bl id c => exact x_cut E m k2 hE n [] (.c c :: .bl id :: k) w f w h
    | lo c =>
      obtain ⟨J, μ, h0, hr⟩ := h
      exact ⟨J, μ, h0, fun f' w' hJ => x_cut E m k2 hE n [] (.c c :: .lp _ :: k) w' f' w' (hr f' w' hJ)⟩
    | ex id =>
      have h' : (match popTo id (k ++ .lp E :: k2) with | some k' => x P R n [] k' w f w | none => False) := h
      show (match popTo id (k ++ k2) with | some k' => x P R (n + m) [] k' w f w | none => False)
      cases hp : popTo id (k ++ .lp E :: k2) with
      | none => rw [hp] at h'; exact h'.elim
      | some k' =>
        rw [hp] at h'
        rcases popTo_cut id E k2 k k' hp with ⟨k3, rfl, h3⟩ | h3
        · rw [h3]; exact x_cut E m k2 hE n [] k3 w f w h'
        · rw [h3]; exact x_more (by omega) h'
    | sc c => exact x_cut E m k2 hE n [] (.c c :: .sc :: k) w f w h
    | rt => exact h
    | rf _ _ _ _ => exact h.elim
    | bad => exact h.elim
  | n + 1, i :: l, k, b, f, w, h => by
    rw [show n + 1 + m = n + m + 1 by omega]
    have K : ∀ f w, x P R n l (k ++ .lp E :: k2) b f w → x P R (n + m) l (k ++ k2) b f w := fun f w hh => x_cut E m k2 hE n l k b f w hh
    cases i with
    | q i => exact stepI_mono K i b f w h
    | chk => exact ⟨h.1, K f w h.2⟩
    | qx t i => exact stepE_mono K t i b f w h
    | chkx t => exact ⟨h.1, K f w h.2⟩
    | rb => exact x_cut E m k2 hE n l k w f w h
    | mv d o => exact K _ w h
    | pick d c o p => exact stepI_mono K (.pick d c o p) w f w h
    | nilc d o => exact stepI_mono K (.nilc d o) w f w h
    | val d o ty => exact stepI_mono K (.val d o ty) w f w h
    | adr d o ty => exact stepI_mono K (.adr d o ty) w f w h
    | eff d o ty => exact stepI_mono K (.eff d o ty) w f w h
    | call d g args => exact stepI_mono K (.call d g args) w f w h
    | callv d g args => exact stepI_mono K (.callv d g args) w f w h
    | gd s bb d i => exact stepI_mono K (.gd s bb d i) w f w h
    | bad => exact h.elim
/-- Go through the next statement up to the relation E, and on from there once. -/
theorem cut (E : Fr → World → Prop) (n m : Nat) {N : Nat} (hN : n + m ≤ N) {c : C} {k : List It} {b : World} {f : Fr} {w : World}
    (h1 : ∀ E' : Fr → World → Prop, (∀ f w, E f w → E' f w) → x P R n [] (.c c :: .lp E' :: k) w f w) (h2 : ∀ f w, E f w → x P R m [] k w f w) : x P R N [] (.c c :: k) b f w :=
  x_more hN (x_base _ _ _ b _ _ (x_cut E m k h2 n [] [.c c] w f w (h1 E fun _ _ h => h)))
end
end

section
open Go.RowKit

end

section
open Go.RowKit

section
variable {P : Program} {K : Fr → World → Prop} {f : Fr} {d : Option Nat} {u w w' : World} {g : Nat} {t ty : TypeId} {cs old : List Value}
theorem blk_of {s : Sem Value} {v : Value} (he : Eff1 P K s f d w = K (updO f d v) (w.alloc (.cells cs.toArray t)))
    (h : ∀ w', Blk w' w.heap.size t cs → Below w.heap.size w w' → w'.heap.size = w.heap.size + 1 → K (updO f d v) w') : Eff1 P K s f d w := by
  rw [he]
  exact h _ (Blk.new w t cs) ((Below.refl _ _).alloc (Nat.le_refl _) _) (by simp)
theorem box_agg (t : TypeId) (cs : List Value) : Eff1 P K (Instr.box t (.agg cs.toArray)) f d w = K (updO f d (.pointer (some ⟨w.heap.size, 0, none⟩))) (w.alloc (.cells cs.toArray t)) := box_eq t _
/-- v = x, of several cells -/
theorem sto_blk (hk : Blk w g t old) (hty : tySize P ty = some cs.length) (ho : old.length = cs.length) (h1 : cs.all (·.oneCell') = true)
    (h : ∀ w', Blk w' g t cs → Grew w w' (some ⟨g, 0, none⟩) → w'.heap.size = w.heap.size → K (updO f d undef) w') :
    Eff1 P K (do Instr.storeAt ty (.pointer (some ⟨g, 0, none⟩)) (.agg cs.toArray); pure undef) f d w := by
  have hr := run_storeVar_row (P := P) w g t ty old.toArray cs.toArray hk (by simpa [tySize] using hty) (by simpa using ho) (by simpa using h1)
  have hs : (w.setRow g cs.toArray).heap.size = w.heap.size := by simp [World.setRow]
  refine ⟨undef, w.setRow g cs.toArray, ?_, h _ ?_ ⟨⟨rfl, rfl, rfl, by rw [hs]; exact Nat.le_refl _, fun k hk hne => ?_⟩⟩ hs⟩
  · simp [Instr.storeAt, Instr.sureAddr, hr]
  · exact setRow_heap w g _ _ _ _ hk
  · exact setRow_other w g k _ (by simpa using hne)
theorem drawn {B : Nat} (h : Below B w w') : Below B w w'.drew := ⟨h.os, h.tape, h.output, h.size, h.block⟩
theorem fill_3 (x y z : Value) (a b c : Int) : Instr.fill (fun i => some (i * 1, 1)) #[x, y, z] [(0, .int .i64 a), (1, .int .i64 b), (2, .int .i64 c)] = some #[.int .i64 a, .int .i64 b, .int .i64 c] := by
  simp [Instr.fill, Value.cells]
theorem bsl3_eq {e bytes : Nat} (hT : SlT P t e 1 bytes) (a b c : Int) :
    Eff1 P K (Instr.buildSlice t 3 #[(0, .int .i64 a), (1, .int .i64 b), (2, .int .i64 c)]) f d w = K (updO f d (.slice (some ⟨w.heap.size, 0, none⟩) 3 3)) (w.alloc (.cells [.int .i64 a, .int .i64 b, .int .i64 c].toArray e)) := by
  obtain ⟨i, z, hi, hz, hs, hb, hc⟩ := hT.get
  refine eff1_of ?_
  have hz3 : (Array.range 3).map (z.cells[· % z.cells.size]!) = #[z.cells[0 % z.cells.size]!, z.cells[1 % z.cells.size]!, z.cells[2 % z.cells.size]!] := by
    apply Array.ext'; simp [List.range_succ]
  have hf := fill_3 (z.cells[0 % z.cells.size]!) (z.cells[1 % z.cells.size]!) (z.cells[2 % z.cells.size]!) a b c
  rw [← hz3] at hf
  simp only [Instr.buildSlice, run_underlying hT.under, sizeOf, typeInfo, Sem.run_bind, Result.andThen_ok]
  simp only [Nat.mul_one] at hf
  simp [hi, hs, zeroValue, typeInfo, hz, newRow, hf]
def arrCells (a : Arr) : List Value := [.int .i64 a.frm, .int .i64 a.evt, .int .i64 a.to_]
abbrev arrVal (a : Arr) : Value := .agg (arrCells a).toArray
theorem Arrs.ldA {ok : Nat → Prop} {A : Option Addr} {l : List Arr} (h : Arrs ok u A l) (ht : tyAgg P ty = some true) (hs : tySize P ty = some 3) (i : Nat) (hi : i < l.length) :
    Val1 P K (Instr.loadAt ty (.pointer (some (eA A (i * 3))))) u f d w = K (updO f d (arrVal (l.getD i default))) w :=
  load_agg_of ht hs rfl fun j v hv => by
    have hj : j < 3 := by
      rcases Nat.lt_or_ge j 3 with h | h
      · exact h
      · rw [List.getElem?_eq_none (by simpa [arrCells] using h)] at hv; cases hv
    have hc := h.cell i hi j hj
    have hA := h.isSome (by omega)
    cases A with
    | none => cases hA
    | some a =>
      rw [eA_some] at hc ⊢
      rw [add_add, hc]
      match j, hj with
      | 0, _ => simpa [arrCells, Arr.cell] using hv
      | 1, _ => simpa [arrCells, Arr.cell] using hv
      | 2, _ => simpa [arrCells, Arr.cell] using hv
theorem Blk.a0 {a : Arr} (h : Blk u g t (arrCells a)) (ht : tyAgg P ty = some false) : Val1 P K (Instr.loadAt ty (.pointer (some ⟨g, 0, none⟩))) u f d w = K (updO f d (.int .i64 a.frm)) w := h.ld ht 0 (by simp [arrCells])
theorem Blk.a1 {a : Arr} (h : Blk u g t (arrCells a)) (ht : tyAgg P ty = some false) : Val1 P K (Instr.loadAt ty (.pointer (some ⟨g, 1, none⟩))) u f d w = K (updO f d (.int .i64 a.evt)) w := h.ld ht 1 (by simp [arrCells])
theorem Blk.a2 {a : Arr} (h : Blk u g t (arrCells a)) (ht : tyAgg P ty = some false) : Val1 P K (Instr.loadAt ty (.pointer (some ⟨g, 2, none⟩))) u f d w = K (updO f d (.int .i64 a.to_)) w := h.ld ht 2 (by simp [arrCells])
theorem Blk.aA {a : Arr} (h : Blk u g t (arrCells a)) (ht : tyAgg P ty = some true) (hs : tySize P ty = some 3) : Val1 P K (Instr.loadAt ty (.pointer (some ⟨g, 0, none⟩))) u f d w = K (updO f d (arrVal a)) w := h.ldAll ht hs
theorem Blk.m0 {a : MV} {m : Mach} (h : Blk u g t (a.cells m)) (ht : tyAgg P ty = some false) : Val1 P K (Instr.loadAt ty (.pointer (some ⟨g, 0, none⟩))) u f d w = K (updO f d (.int .i64 m.states)) w := h.ld ht 0 (by simp)
theorem Blk.m1 {a : MV} {m : Mach} (h : Blk u g t (a.cells m)) (ht : tyAgg P ty = some false) : Val1 P K (Instr.loadAt ty (.pointer (some ⟨g, 1, none⟩))) u f d w = K (updO f d (.int .i64 m.events)) w := h.ld ht 1 (by simp)
theorem Blk.m2 {a : MV} {m : Mach} (h : Blk u g t (a.cells m)) (ht : tyAgg P ty = some false) : Val1 P K (Instr.loadAt ty (.pointer (some ⟨g, 2, none⟩))) u f d w = K (updO f d (.slice a.As m.starts.length a.cs)) w := h.ld ht 2 (by simp)
theorem Blk.m3 {a : MV} {m : Mach} (h : Blk u g t (a.cells m)) (ht : tyAgg P ty = some false) : Val1 P K (Instr.loadAt ty (.pointer (some ⟨g, 3, none⟩))) u f d w = K (updO f d (.slice a.Aa m.arrows.length a.ca)) w := h.ld ht 3 (by simp)
theorem Blk.m4 {a : MV} {m : Mach} (h : Blk u g t (a.cells m)) (ht : tyAgg P ty = some false) : Val1 P K (Instr.loadAt ty (.pointer (some ⟨g, 4, none⟩))) u f d w = K (updO f d (.slice a.Ae m.ends.length a.ce)) w := h.ld ht 4 (by simp)
theorem Blk.mA {a : MV} {m : Mach} (h : Blk u g t (a.cells m)) (ht : tyAgg P ty = some true) (hs : tySize P ty = some 5) : Val1 P K (Instr.loadAt ty (.pointer (some ⟨g, 0, none⟩))) u f d w = K (updO f d (a.val m)) w := h.ldAll ht hs
end
attribute [push_cast] Nat.zero_add List.getD_cons_zero List.getD_cons_succ
end

section
open Go.RowKit

section
variable {P : Program} {K : Fr → World → Prop} {u : World} {f : Fr} {d : Option Nat} {w w' : World} {t ty g : Nat} {xo yo : Operand}
end
end

section
open Go.RowKit

/-- How an element lies in its cells. -/
structure Enc {α : Type} (enc : α → List Value) (sz : Nat) : Prop where
  len : ∀ a, (enc a).length = sz
  one : ∀ a, ∀ u ∈ enc a, u.oneCell' = true
theorem flatMap_at {α : Type} {enc : α → List Value} {sz : Nat} (E : Enc enc sz) : ∀ (l : List α) (i : Nat) (a : α) (j : Nat), l[i]? = some a → j < sz → (l.flatMap enc)[i * sz + j]? = (enc a)[j]?
  | [], i, a, j, h, _ => by simp at h
  | b :: l, 0, a, j, h, hj => by
    simp only [List.getElem?_cons_zero, Option.some.injEq] at h
    subst h
    rw [List.flatMap_cons, Nat.zero_mul, Nat.zero_add, List.getElem?_append_left (by rw [E.len]; exact hj)]
  | b :: l, i + 1, a, j, h, hj => by
    simp only [List.getElem?_cons_succ] at h
    rw [List.flatMap_cons, List.getElem?_append_right (by rw [E.len, Nat.succ_mul]; omega), E.len, show (i + 1) * sz + j - sz = i * sz + j by rw [Nat.succ_mul]; omega]
    exact flatMap_at E l i a j h hj
/-- A row of records that can be read in 'w'. -/
structure Recs {α : Type} (enc : α → List Value) (sz : Nat) (ok : Nat → Prop) (w : World) (A : Option Addr) (l : List α) : Prop where
  isSome : 0 < l.length → A.isSome = true
  block : 0 < l.length → ok (A.getD default).block
  cell : ∀ i a, l[i]? = some a → ∀ j v, (enc a)[j]? = some v → w.cell? (eA A (i * sz + j)) = some v
abbrev OwnR {α : Type} (enc : α → List Value) (B e sz : Nat) (w : World) (A : Option Addr) (c : Nat) (l : List α) : Prop := Own B e sz w A c l.length (l.flatMap enc)
section
variable {α : Type} {enc : α → List Value} {sz : Nat} {P : Program} {K : Fr → World → Prop} {u w w' : World} {f : Fr} {d : Option Nat} {ok ok' : Nat → Prop} {A : Option Addr} {l : List α} {B e bytes t ty c : Nat}
theorem Recs.nil (ok : Nat → Prop) (w : World) (A : Option Addr) : Recs enc sz ok w A [] := ⟨fun h => absurd h (by simp), fun h => absurd h (by simp), fun i a h => by simp at h⟩
theorem Recs.mono (h : Recs enc sz ok u A l) (hk : ∀ b, ok b → ok' b) : Recs enc sz ok' u A l := ⟨h.isSome, fun hl => hk _ (h.block hl), h.cell⟩
theorem Recs.keep (h : Recs enc sz ok u A l) (hk : ∀ b, ok b → w.heap[b]? = u.heap[b]?) : Recs enc sz ok w A l :=
  ⟨h.isSome, h.block, fun i a hi j v hv => by
    rw [← h.cell i a hi j v hv]
    exact World.cell?_of_block (by rw [eA_block]; exact hk _ (h.block (by rcases Nat.lt_or_ge i l.length with h1 | h1; omega; rw [List.getElem?_eq_none h1] at hi; cases hi)))⟩
theorem Recs.below (h : Recs enc sz (· < B) u A l) (hb : Below B u w) : Recs enc sz (· < B) w A l := h.keep fun b hlt => hb.block b hlt
theorem Recs.same (h : Recs enc sz ok u A l) (k : Same u w) : Recs enc sz ok w A l := h.keep fun b _ => by rw [k.heap]
theorem OwnR.recs (h : OwnR enc B e sz w A c l) (E : Enc enc sz) (hs : 0 < sz) : Recs enc sz (fun b => B ≤ b ∧ A.map (·.block) = some b) w A l := by
  have hr := h.rd hs
  refine ⟨fun hl => h.isSome hl, fun hl => ?_, fun i a hi j v hv => ?_⟩
  · have hA := h.isSome hl
    refine ⟨(h.block hA).1, ?_⟩
    cases A with
    | none => cases hA
    | some a => rfl
  · refine hr.cell _ v ?_
    have hj : j < sz := by
      rcases Nat.lt_or_ge j sz with h1 | h1
      · exact h1
      · rw [List.getElem?_eq_none (by rw [E.len]; exact h1)] at hv; cases hv
    rw [flatMap_at E l i a j hi hj, hv]
theorem Recs.ld (h : Recs enc sz ok u A l) (ht : tyAgg P ty = some false) {i : Nat} {a : α} (hi : l[i]? = some a) {j : Nat} {v : Value} (hv : (enc a)[j]? = some v) :
    Val1 P K (Instr.loadAt ty (.pointer (some (eA A (i * sz + j))))) u f d w = K (updO f d v) w := load_one_of u f d w ht (h.cell i a hi j v hv)
theorem Recs.ld0 (h : Recs enc sz ok u A l) (ht : tyAgg P ty = some false) {i : Nat} {a : α} (hi : l[i]? = some a) {v : Value} (hv : (enc a)[0]? = some v) :
    Val1 P K (Instr.loadAt ty (.pointer (some (eA A (i * sz))))) u f d w = K (updO f d v) w := h.ld ht hi (j := 0) hv
/-- a part of an element -/
theorem Recs.ldA (h : Recs enc sz ok u A l) (ht : tyAgg P ty = some true) {i : Nat} {a : α} (hi : l[i]? = some a) (j : Nat) {vs : List Value} (hs : tySize P ty = some vs.length) (hv : ∀ k v, vs[k]? = some v → (enc a)[j + k]? = some v) :
    Val1 P K (Instr.loadAt ty (.pointer (some (eA A (i * sz + j))))) u f d w = K (updO f d (.agg vs.toArray)) w :=
  load_agg_of ht hs rfl fun k v hk => by
    have := h.cell i a hi (j + k) v (hv k v hk)
    cases A with
    | none =>
      have hA := h.isSome (by rcases Nat.lt_or_ge i l.length with h1 | h1; omega; rw [List.getElem?_eq_none h1] at hi; cases hi)
      cases hA
    | some ad => rw [eA_some] at this ⊢; rw [add_add, Nat.add_assoc, this]
theorem Recs.ldAll (h : Recs enc sz ok u A l) (E : Enc enc sz) (ht : tyAgg P ty = some true) {i : Nat} {a : α} (hi : l[i]? = some a) (hs : tySize P ty = some sz) :
    Val1 P K (Instr.loadAt ty (.pointer (some (eA A (i * sz))))) u f d w = K (updO f d (.agg (enc a).toArray)) w :=
  h.ldA ht hi 0 (by rw [E.len]; exact hs) fun k v hk => by rwa [Nat.zero_add]
/-- append(x, v) -/
theorem app_rec (E : Enc enc sz) (hT : SlT P t e sz bytes) (hown : OwnR enc B e sz w A c l) (x : α) (hl : (l.length + 1) * bytes ≤ 140737488355328) (h63 : l.length + 1 ≤ 9223372036854775807) (hB : B ≤ w.heap.size)
    (hk : ∀ A' c' w', OwnR enc B e sz w' A' c' (l ++ [x]) → Grew w w' A → (A'.map (·.block) = A.map (·.block) ∨ ∃ g, A'.map (·.block) = some g ∧ w.heap.size ≤ g) → A'.isSome = true → w.heap.size ≤ w'.heap.size → K (updO f d (.slice A' (l.length + 1) c')) w') :
    Eff1 P K (Builtin.append_ #[t, t] ty #[.slice A l.length c, .slice (some ⟨w.heap.size, 0, none⟩) 1 1]) f d (w.alloc (.cells (enc x).toArray e)) := by
  refine append_own hT ty (hown.alloc _) (rd_new w (enc x) e) (by rw [E.len, Nat.one_mul]) (E.one x) hl h63 (by simp; omega) ?_
  intro A' c' w' ho hg hA hs hz
  have hz' : w.heap.size ≤ w'.heap.size := by have : (w.alloc (.cells (enc x).toArray e)).heap.size = w.heap.size + 1 := by simp
                                              omega
  refine hk A' c' w' ?_ ⟨⟨hg.by_.os, hg.by_.tape, hg.by_.output, hz', fun k hk hne => ?_⟩⟩ ?_ (hs (by decide)) hz'
  · unfold OwnR
    rw [List.flatMap_append, List.flatMap_cons, List.flatMap_nil, List.append_nil, List.length_append, List.length_cons, List.length_nil, Nat.zero_add]
    exact ho
  · rw [hg.by_.block k (by simp; omega) hne, Below.heap_alloc w _ k hk]
  · rcases hA with h | h
    · exact .inl h
    · exact .inr ⟨_, h, by simp⟩
/-- a part of a variable of several cells -/
theorem Blk.ldSub {g : Nat} {cs : List Value} (h : Blk u g t cs) (ht : tyAgg P ty = some true) (j : Nat) {vs : List Value} (hs : tySize P ty = some vs.length) (hv : ∀ k v, vs[k]? = some v → cs[j + k]? = some v) :
    Val1 P K (Instr.loadAt ty (.pointer (some ⟨g, j, none⟩))) u f d w = K (updO f d (.agg vs.toArray)) w :=
  load_agg_of ht hs rfl fun k v hk => by rw [addr_add, h.cell, hv k v hk]
end

def putL (zs : List Value) (off : Nat) (vs : List Value) : List Value := zs.take off ++ vs ++ zs.drop (off + vs.length)
section
variable {P : Program} {K : Fr → World → Prop} {u w : World} {f : Fr} {d : Option Nat} {t ty : Nat}
theorem v_makeFunc (g : FuncId) (first cap : Array Operand) : ValX P K (.makeFunc (.func g) first cap) ty u f d w = K (updO f d (.func (.func g) (first.map (ev f)) (cap.map (ev f)))) w :=
  (show ValX P K (.makeFunc (.func g) first cap) ty u f d w = Val1 P K (Instr.makeFunc (.func g) (first.map (ev f)) (cap.map (ev f))) u f d w from propext Iff.rfl).trans (val1_of u f d w fun w' _ => by simp [Instr.makeFunc])
theorem v_build (parts : Array (Nat × Operand)) : ValX P K (.build t parts) ty u f d w = Val1 P K (Instr.build t (parts.map fun (i, x) => (i, ev f x))) u f d w := propext Iff.rfl
end
attribute [push_cast] v_makeFunc v_build List.map_toArray
end
end Go.Proofs.Ytpinjiikiaakaaa
