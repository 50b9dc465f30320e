/-
  Chapter 13's reference: Twins, Delay: by their contracts.
-/
import Derived.Test.YtfckamjbeplceaaZRef13
namespace Go.Proofs.Ytfckamjbeplceaa
set_option linter.unusedSimpArgs false
set_option linter.unusedVariables false
set_option linter.unusedSectionVars false
open Go.RowKit

structure TwI (m : Mach) (seen faults : List Int) (l : List Tw) (k i : Nat) (es : List Eg) : Prop where
  nodup : l.Nodup
  wk : ∀ x ∈ l, ∃ n, Wk (StW m) (EdW m seen faults) x n
  st : ∀ x, StW m x → x ∈ l
  is : ∀ q ∈ es, ∃ x y, l[q.1]? = some x ∧ l[q.2.1]? = some y ∧ EdW m seen faults x y (cnt q.2.2)
  all : ∀ (j : Nat) (x y : Tw) (c : Nat), j < k → l[j]? = some x → EdW m seen faults x y c → ∃ q ∈ es, q.1 = j ∧ l[q.2.1]? = some y ∧ cnt q.2.2 = c
  done : ∀ (j : Nat) (x : Tw) (p : Tw × Bool), j < i → l[k]? = some x → (leadsL m seen faults x m.events.toNat)[j]? = some p → ∃ q ∈ es, q.1 = k ∧ l[q.2.1]? = some p.1 ∧ q.2.2 = p.2
  len : es.length ≤ 288 * k + i
section
variable {m : Mach} {seen faults : List Int} {l : List Tw} {k i : Nat} {es : List Eg}
theorem get_snoc {α : Type} {l : List α} {j : Nat} {x : α} (h : l[j]? = some x) (y : α) : (l ++ [y])[j]? = some x := by
  rw [List.getElem?_append_left (lt_of_some h)]; exact h
theorem TwI.add (h : TwI m seen faults l k i es) {x : Tw} (hx : l[k]? = some x) {y : Tw} {b : Bool} (hy : (leadsL m seen faults x m.events.toNat)[i]? = some (y, b)) {n : Nat} (hn : l[n]? = some y) : TwI m seen faults l k (i + 1) (es ++ [(k, n, b)]) := by
  have he : EdW m seen faults x y (cnt b) := ⟨b, List.mem_of_getElem? hy, rfl⟩
  refine ⟨h.nodup, h.wk, h.st, fun q hq => ?_, fun j x' y' c hj hx' hc => ?_, fun j x' p hj hx' hp => ?_, by rw [List.length_append, List.length_singleton]; have := h.len; omega⟩
  · rcases List.mem_append.1 hq with hq | hq
    · exact h.is q hq
    · rw [List.mem_singleton.1 hq]; exact ⟨x, y, hx, hn, he⟩
  · obtain ⟨q, hq, h1⟩ := h.all j x' y' c hj hx' hc
    exact ⟨q, List.mem_append_left _ hq, h1⟩
  · by_cases e : j = i
    · subst e
      rw [hx] at hx'
      obtain rfl := Option.some.inj hx'
      rw [hy] at hp
      obtain rfl := Option.some.inj hp
      exact ⟨_, List.mem_append_right _ (List.mem_singleton.2 rfl), rfl, hn, rfl⟩
    · obtain ⟨q, hq, h1⟩ := h.done j x' p (by omega) hx' hp
      exact ⟨q, List.mem_append_left _ hq, h1⟩
theorem TwI.more (h : TwI m seen faults l k i es) (hk : k < l.length) {y : Tw} (hy : y ∉ l) {n : Nat} (hw : Wk (StW m) (EdW m seen faults) y n) : TwI m seen faults (l ++ [y]) k i es := by
  refine ⟨?_, fun z hz => ?_, fun z hz => List.mem_append_left _ (h.st z hz), fun q hq => ?_, fun j x' y' c hj hx' hc => ?_, fun j x' p hj hx' hp => ?_, h.len⟩
  · rw [List.nodup_append]
    refine ⟨h.nodup, by simp, fun a ha b hb => ?_⟩
    rw [List.mem_singleton.1 hb]
    exact fun e => hy (e ▸ ha)
  · rcases List.mem_append.1 hz with hz | hz
    · exact h.wk z hz
    · rw [List.mem_singleton.1 hz]; exact ⟨n, hw⟩
  · obtain ⟨x, z, h1, h2, h3⟩ := h.is q hq
    exact ⟨x, z, get_snoc h1 y, get_snoc h2 y, h3⟩
  · rw [List.getElem?_append_left (by omega)] at hx'
    obtain ⟨q, hq, h1, h2, h3⟩ := h.all j x' y' c hj hx' hc
    exact ⟨q, hq, h1, get_snoc h2 y, h3⟩
  · rw [List.getElem?_append_left hk] at hx'
    obtain ⟨q, hq, h1, h2, h3⟩ := h.done j x' p hj hx' hp
    exact ⟨q, hq, h1, get_snoc h2 y, h3⟩
theorem TwI.next (h : TwI m seen faults l k i es) {x : Tw} (hx : l[k]? = some x) (hi : i = (leadsL m seen faults x m.events.toNat).length) (h288 : i ≤ 288) : TwI m seen faults l (k + 1) 0 es := by
  refine ⟨h.nodup, h.wk, h.st, h.is, fun j x' y' c hj hx' hc => ?_, fun j x' p hj => absurd hj (by omega), by have := h.len; omega⟩
  by_cases e : j = k
  · subst e
    rw [hx] at hx'
    obtain rfl := Option.some.inj hx'
    obtain ⟨b, hb, rfl⟩ := hc
    obtain ⟨i', hi', hix⟩ := List.getElem_of_mem hb
    obtain ⟨q, hq, h1, h2, h3⟩ := h.done i' x (y', b) (by omega) hx (by rw [List.getElem?_eq_getElem hi', hix])
    exact ⟨q, hq, h1, h2, by rw [h3]⟩
  · exact h.all j x' y' c (by omega) hx' hc
theorem TwI.few (hm : m.May) (h6 : m.states ≤ 6) (h : TwI m seen faults l k i es) : l.length ≤ 72 := by
  have := nodup_nat_len (2 * m.states.toNat * m.states.toNat) (l.map (codeW m.states.toNat)) (by
    rw [List.nodup_iff_pairwise_ne, List.pairwise_map]
    refine (List.nodup_iff_pairwise_ne.1 h.nodup).imp_of_mem fun {x y} hx hy hxy e => hxy ?_
    obtain ⟨n, hn⟩ := h.wk x hx
    obtain ⟨n', hn'⟩ := h.wk y hy
    exact codeW_inj (wkW_in hm hn) (wkW_in hm hn') e) fun c hc => by
    obtain ⟨x, hx, rfl⟩ := List.mem_map.1 hc
    obtain ⟨n, hn⟩ := h.wk x hx
    exact codeW_lt (wkW_in hm hn)
  rw [List.length_map] at this
  have h1 : m.states.toNat ≤ 6 := by omega
  have h2 : 2 * m.states.toNat * m.states.toNat ≤ 2 * 6 * 6 := Nat.mul_le_mul (by omega) h1
  omega
theorem TwI.end_ (h : TwI m seen faults l l.length 0 es) : TwL (StW m) (EdW m seen faults) l ∧ EdOk (EdW m seen faults) l l.length es := ⟨⟨h.nodup, h.wk, h.st⟩, ⟨h.is, h.all⟩⟩
end
/-- The twins at first. -/
def stRow (m : Mach) (s : Int) : List Tw := m.starts.map fun t => (s, t, false)
def stUp (m : Mach) (i k : Nat) : List Tw := (m.starts.take i).flatMap (stRow m) ++ (m.starts.take k).map fun t => (m.starts.getD i 0, t, false)
theorem stUp_succ {m : Mach} {i k : Nat} (h : k < m.starts.length) : stUp m i (k + 1) = stUp m i k ++ [(m.starts.getD i 0, m.starts.getD k 0, false)] := by
  unfold stUp
  rw [take_snoc m.starts 0 k h, List.map_append, List.append_assoc]; rfl
theorem stUp_next {m : Mach} {i : Nat} (h : i < m.starts.length) : stUp m i m.starts.length = stUp m (i + 1) 0 := by
  unfold stUp
  rw [take_snoc m.starts 0 i h, List.flatMap_append, List.take_length]
  simp [stRow]
theorem stUp_len (m : Mach) (i k : Nat) : (stUp m i k).length ≤ i * m.starts.length + k := by
  unfold stUp
  have : ∀ l : List Int, (l.flatMap (stRow m)).length = l.length * m.starts.length := fun l => by
    induction l with
    | nil => simp
    | cons a l ih => rw [List.flatMap_cons, List.length_append, ih, List.length_cons, Nat.succ_mul]; simp [stRow]; omega
  rw [List.length_append, this, List.length_map, List.length_take, List.length_take]
  have : min i m.starts.length * m.starts.length ≤ i * m.starts.length := Nat.mul_le_mul_right _ (Nat.min_le_left _ _)
  omega
theorem mem_stUp {m : Mach} {x : Tw} : x ∈ stUp m m.starts.length 0 ↔ StW m x := by
  unfold stUp
  rw [List.take_length]
  simp only [List.take_zero, List.map_nil, List.append_nil, List.mem_flatMap, stRow, List.mem_map]
  constructor
  · rintro ⟨s, hs, t, ht, rfl⟩; exact ⟨hs, ht, rfl⟩
  · rintro ⟨h1, h2, h3⟩; exact ⟨x.1, h1, x.2.1, h2, by obtain ⟨a, b, c⟩ := x; simp only at h3; rw [h3]⟩
theorem nodup_flat {α β : Type} (f : α → List β) : ∀ l : List α, l.Nodup → (∀ a ∈ l, (f a).Nodup) → (∀ a ∈ l, ∀ b ∈ l, a ≠ b → ∀ x ∈ f a, x ∉ f b) → (l.flatMap f).Nodup
  | [], _, _, _ => by simp
  | a :: l, hn, h1, h2 => by
      rw [List.flatMap_cons, List.nodup_append]
      refine ⟨h1 a List.mem_cons_self, nodup_flat f l (List.nodup_cons.1 hn).2 (fun b hb => h1 b (List.mem_cons_of_mem _ hb)) (fun b hb c hc => h2 b (List.mem_cons_of_mem _ hb) c (List.mem_cons_of_mem _ hc)), fun x hx y hy e => ?_⟩
      subst e
      obtain ⟨b, hb, hxb⟩ := List.mem_flatMap.1 hy
      exact h2 a List.mem_cons_self b (List.mem_cons_of_mem _ hb) (fun e => (List.nodup_cons.1 hn).1 (e ▸ hb)) x hx hxb
theorem stUp_nodup {m : Mach} (hm : m.May) : (stUp m m.starts.length 0).Nodup := by
  have hn : m.starts.Nodup := List.Pairwise.imp (R := (· < ·)) (S := (· ≠ ·)) (fun h => by omega) (may_starts hm).strict
  unfold stUp
  rw [List.take_length]
  simp only [List.take_zero, List.map_nil, List.append_nil]
  refine nodup_flat _ _ hn (fun a _ => ?_) (fun a _ b _ hab x hx hx' => ?_)
  · unfold stRow
    rw [List.nodup_iff_pairwise_ne, List.pairwise_map]
    exact (List.nodup_iff_pairwise_ne.1 hn).imp fun h e => h (by simpa using e)
  · obtain ⟨t, _, rfl⟩ := List.mem_map.1 hx
    obtain ⟨t', _, e⟩ := List.mem_map.1 hx'
    exact hab (by simpa using (congrArg (·.1) e).symm)
theorem twI_first {m : Mach} (hm : m.May) (seen faults : List Int) : TwI m seen faults (stUp m m.starts.length 0) 0 0 [] :=
  ⟨stUp_nodup hm, fun x hx => ⟨0, Wk.start (mem_stUp.1 hx)⟩, fun x hx => mem_stUp.2 hx, fun q hq => absurd hq (by simp), fun j x y c hj => absurd hj (by omega), fun j x p hj => absurd hj (by omega), Nat.zero_le _⟩

abbrev egC (q : Eg) : List Value := [.int .i64 (q.1 : Int), .int .i64 (q.2.1 : Int), .bool q.2.2]
theorem egEnc : Enc egC 3 := ⟨fun _ => rfl, fun q u hu => by
  rcases List.mem_cons.1 hu with rfl | hu
  · rfl
  · rcases List.mem_cons.1 hu with rfl | hu
    · rfl
    · rw [List.mem_singleton.1 hu]; rfl⟩
theorem blt_eg : builtPl Try.prog 59 = some ([(0, 1), (1, 1), (2, 1)], [.int .i64 0, .int .i64 0, .bool false]) := by kernel_rfl
theorem bl_eg {K : Fr → World → Prop} {u : World} {f : Fr} {d : Option Nat} {w : World} (x y : Nat) (b : Bool) :
    Val1 Try.prog K (Instr.build 59 #[(0, .int .i64 (x : Int)), (1, .int .i64 (y : Int)), (2, .bool b)]) u f d w = K (updO f d (.agg (egC (x, y, b)).toArray)) w := by
  have := bld_3 (P := Try.prog) (K := K) (u := u) (f := f) (d := d) (w := w) blt_eg rfl rfl rfl rfl (v0 := .int .i64 (x : Int)) (v1 := .int .i64 (y : Int)) (v2 := .bool b) rfl rfl rfl
  rw [this]; rfl
def TwRes (m : Mach) (seen faults : List Int) (w : World) (v : Value) (w' : World) : Prop :=
  ∃ (l : List Tw) (es : List Eg) (A D : Option Addr) (ca cd : Nat), v = .tuple #[.slice A l.length ca, .slice D es.length cd] ∧ OwnR twC w.heap.size 61 3 w' A ca l ∧ OwnR egC w.heap.size 59 3 w' D cd es ∧ Below w.heap.size w w' ∧ TwI m seen faults l l.length 0 es
set_option maxHeartbeats 1000000 in
theorem ref13_Twins {w : World} {a : MV} {m : Mach} (h : IsM (· < w.heap.size) w a m) (hf : m.Fits) (p1 : m.May) (p3 : m.states ≤ 6) {A1 : Option Addr} {c1 : Nat} {seen : List Int} (h1 : Ints (· < w.heap.size) w A1 seen) (n1 : seen.length ≤ 17592186043904)
    {A2 : Option Addr} {c2 : Nat} {faults : List Int} (h2 : Ints (· < w.heap.size) w A2 faults) (n2 : faults.length ≤ 17592186043904) :
    Cal Try.prog 22 [a.val m, .slice A1 seen.length c1, .slice A2 faults.length c2] w (TwRes m seen faults w) := by
  have ev0 : 0 ≤ m.events := p1.2.2.1
  have ev8 : m.events ≤ 8 := p1.2.2.2.1
  have hst6 := row_lenM ((may_starts p1).more p3)
  refine cal_ref13_Twins (by simp) 100000 fun Q hQ => ?_
  simp (disch := first | with_reducible assumption | omega) only [push_cast, x_blk, x_cd, ↓reduceIte, Nat.reduceEqDiff, List.map_cons, List.map_nil, Int.reduceEq, Int.lt_irrefl, F_ref13_Twins]
  refine blk_of (box_agg _ (a.cells m)) ?_
  intro w1 k1 b1 z1
  have l1 := k1.lt
  simp (disch := first | with_reducible assumption | omega) only [push_cast, x_blk, x_cd, ↓reduceIte, Nat.reduceEqDiff, List.map_cons, List.map_nil, Int.reduceEq, Int.lt_irrefl]
  refine loop_rule (fun f w' => ∃ (i : Nat) (A : Option Addr) (ca : Nat), i ≤ m.starts.length ∧ (f 1 = .slice A1 seen.length c1 ∧ f 2 = .slice A2 faults.length c2 ∧ f 3 = .pointer (some ⟨w.heap.size, 0, none⟩) ∧ f 8 = .slice A (stUp m i 0).length ca ∧ f 9 = .slice none 0 0 ∧ f 10 = .int .i64 i) ∧
      OwnR twC w1.heap.size 61 3 w' A ca (stUp m i 0) ∧ Below w1.heap.size w1 w')
    (fun f _ => m.starts.length - (intOf (f 10)).toNat) ⟨0, none, 0, Nat.zero_le _, ⟨rfl, rfl, rfl, rfl, rfl, rfl⟩, Own.nil _ _ _ _, Below.refl _ _⟩ ?_
  rintro f w2 ⟨i, A, ca, hi, fr, o, b2⟩ J hJ
  have k2 := k1.below b2 l1
  have hmu : (intOf (f 10)).toNat = i := by rw [fr.2.2.2.2.2]; simp [intOf]
  by_cases hil : i < m.starts.length
  case pos =>
    simp (disch := first | with_reducible assumption | omega) only [push_cast, x_blk, x_cd, ↓reduceIte, Nat.reduceEqDiff, List.map_cons, List.map_nil, Int.reduceEq, Int.lt_irrefl, L_ref13_Twins_3, fr, hil, k2.m2 ty_ag_22]
    refine loop_rule (fun f' w' => ∃ (k : Nat) (A : Option Addr) (ca : Nat), k ≤ m.starts.length ∧ (f' 1 = .slice A1 seen.length c1 ∧ f' 2 = .slice A2 faults.length c2 ∧ f' 3 = .pointer (some ⟨w.heap.size, 0, none⟩) ∧ f' 8 = .slice A (stUp m i k).length ca ∧ f' 9 = .slice none 0 0 ∧ f' 10 = .int .i64 i ∧ f' 11 = .int .i64 k) ∧
        OwnR twC w1.heap.size 61 3 w' A ca (stUp m i k) ∧ Below w1.heap.size w1 w')
      (fun f' _ => m.starts.length - (intOf (f' 11)).toNat) ⟨0, A, ca, Nat.zero_le _, (by simp only [push_cast, ↓reduceIte, Nat.reduceEqDiff, true_and, and_true, and_self, eq_self, fr, fr]), o, b2⟩ ?_
    clear o b2 fr k2 A ca
    rintro f w3 ⟨k, A, ca, hk, fr, o, b3⟩ J2 hJ2
    have k3 := k1.below b3 l1
    have hmu2 : (intOf (f 11)).toNat = k := by rw [fr.2.2.2.2.2.2]; simp [intOf]
    by_cases hkl : k < m.starts.length
    case neg =>
      obtain rfl : k = m.starts.length := by omega
      rw [stUp_next hil] at o fr
      simp (disch := first | with_reducible assumption | omega) only [push_cast, x_blk, x_cd, ↓reduceIte, Nat.reduceEqDiff, List.map_cons, List.map_nil, Int.reduceEq, Int.lt_irrefl, L_ref13_Twins_2, fr, Nat.lt_irrefl, k3.m2 ty_ag_22]
      exact hJ _ _ ⟨i + 1, A, ca, by omega, (by simp only [push_cast, ↓reduceIte, Nat.reduceEqDiff, true_and, and_true, and_self, eq_self, fr]), o, b3⟩ (by rw [hmu]; simp only [push_cast, ↓reduceIte, Nat.reduceEqDiff, intOf, fr]; omega)
    have hlen := stUp_len m i k
    have hl36 : i * m.starts.length ≤ 6 * 6 := Nat.mul_le_mul (by omega) (by omega)
    have hsucc := stUp_succ (i := i) hkl
    have dd : Same w3 w3.drew := (Same.refl w3).drew
    have od := o.same dd
    have k3d := k3.same dd
    have bd := b3.trans (dd.below _)
    generalize hud : w3.drew = u at *
    have hS := (h.up (b1.trans (bd.mono b1.size))).starts
    have sS := hS.isSome (by omega)
    have li := fun {K : Fr → World → Prop} {f : Fr} {d : Option Nat} {w : World} => hS.ld (P := Try.prog) (K := K) (f := f) (d := d) (w := w) ty_ag_3 i hil
    have lk := fun {K : Fr → World → Prop} {f : Fr} {d : Option Nat} {w : World} => hS.ld (P := Try.prog) (K := K) (f := f) (d := d) (w := w) ty_ag_3 k hkl
    have hbs1 := fun {K : Fr → World → Prop} {f : Fr} {d : Option Nat} {w : World} => bs_rec (P := Try.prog) (K := K) (f := f) (d := d) (w := w) arrEnc slT_54 ⟨m.starts.getD i 0, m.starts.getD k 0, 0⟩ (by decide)
    simp (disch := first | with_reducible assumption | omega) only [push_cast, x_blk, x_cd, ↓reduceIte, Nat.reduceEqDiff, List.map_cons, List.map_nil, Int.reduceEq, Int.lt_irrefl, L_ref13_Twins_2, fr, hkl, hil, hud, k3.m2 ty_ag_22, k3d.m2 ty_ag_22, li, lk, bl_tw, hbs1]
    refine ⟨(Below.refl _ _).alloc (Nat.le_refl _) _, ?_⟩
    refine app_rec twEnc slT_54 od (m.starts.getD i 0, m.starts.getD k 0, false) (by omega) (by omega) bd.size ?_
    intro A' ca' w4 o4 g4 hA4 hs4 hz4
    have b4 := g4.below bd bd.size od.geB
    simp (disch := first | with_reducible assumption | omega) only [push_cast, x_blk, x_cd, ↓reduceIte, Nat.reduceEqDiff, List.map_cons, List.map_nil, Int.reduceEq, Int.lt_irrefl, fr]
    exact hJ2 _ _ ⟨k + 1, A', ca', by omega, (by simp only [push_cast, ↓reduceIte, Nat.reduceEqDiff, true_and, and_true, and_self, eq_self, fr, hsucc, List.length_append, List.length_cons, List.length_nil]), by rw [hsucc]; exact o4, b4⟩ (by rw [hmu2]; simp only [push_cast, ↓reduceIte, Nat.reduceEqDiff, intOf, fr]; omega)
  obtain rfl : i = m.starts.length := by omega
  simp (disch := first | with_reducible assumption | omega) only [push_cast, x_blk, x_cd, ↓reduceIte, Nat.reduceEqDiff, List.map_cons, List.map_nil, Int.reduceEq, Int.lt_irrefl, L_ref13_Twins_3, fr, Nat.lt_irrefl, k2.m2 ty_ag_22]
  have hfst := twI_first p1 seen faults
  refine loop_rule (fun f' w' => ∃ (k : Nat) (l : List Tw) (es : List Eg) (A D : Option Addr) (ca cd : Nat), k ≤ l.length ∧ (f' 1 = .slice A1 seen.length c1 ∧ f' 2 = .slice A2 faults.length c2 ∧ f' 3 = .pointer (some ⟨w.heap.size, 0, none⟩) ∧ f' 8 = .slice A l.length ca ∧ f' 9 = .slice D es.length cd ∧ f' 12 = .int .i64 k) ∧ TwI m seen faults l k 0 es ∧
      OwnR twC w1.heap.size 61 3 w' A ca l ∧ OwnR egC w1.heap.size 59 3 w' D cd es ∧ Below w1.heap.size w1 w')
    (fun f' _ => 73 - (intOf (f' 12)).toNat) ⟨0, _, [], A, none, ca, 0, Nat.zero_le _, (by simp only [push_cast, ↓reduceIte, Nat.reduceEqDiff, true_and, and_true, and_self, eq_self, fr, fr, List.length_nil]), hfst, o, Own.nil _ _ _ _, b2⟩ ?_
  clear o b2 fr k2 hJ hfst hmu hil A ca
  rintro f w2 ⟨k, l, es, A, D, ca, cd, hk, fr, hI, o, oe, b2⟩ J hJ
  have k2 := k1.below b2 l1
  have few := hI.few p1 p3
  have hmu : (intOf (f 12)).toNat = k := by rw [fr.2.2.2.2.2]; simp [intOf]
  by_cases hkl : k < l.length
  case neg =>
    obtain rfl : k = l.length := by omega
    simp (disch := first | with_reducible assumption | omega) only [push_cast, x_blk, x_cd, ↓reduceIte, Nat.reduceEqDiff, List.map_cons, List.map_nil, Int.reduceEq, Int.lt_irrefl, L_ref13_Twins_1, fr, Nat.lt_irrefl]
    exact fin_2 (hQ _ _ ⟨l, es, A, D, ca, cd, (by simp only [push_cast, ↓reduceIte, Nat.reduceEqDiff, Int.reduceEq, fr]), o.base b1.size, oe.base b1.size, b1.trans (b2.mono b1.size), hI⟩)
  obtain ⟨x, hx⟩ : ∃ x, l[k]? = some x := ⟨_, List.getElem?_eq_getElem hkl⟩
  have dd : Same w2 w2.drew := (Same.refl w2).drew
  have od := o.same dd
  have oed := oe.same dd
  have k2d := k2.same dd
  have bd := b2.trans (dd.below _)
  generalize hud : w2.drew = u at *
  have hR := Recs.lt twEnc (by decide) (OwnR.recs od twEnc (by decide))
  have sA := od.isSome (by omega)
  have lx := fun {K : Fr → World → Prop} {f : Fr} {d : Option Nat} {w' : World} => hR.ldAll (P := Try.prog) (K := K) (f := f) (d := d) (w := w') twEnc ty_ag_61 hx ty_sz_61
  have bbd := b1.trans (bd.mono b1.size)
  simp (disch := first | with_reducible assumption | omega) only [push_cast, x_blk, x_cd, ↓reduceIte, Nat.reduceEqDiff, List.map_cons, List.map_nil, Int.reduceEq, Int.lt_irrefl, L_ref13_Twins_1, fr, hkl, hud, k2d.mA ty_ag_25 ty_sz_25, lx]
  refine call_of (ref13_leads (h.up bbd) hf p1 p3 (h1.up bbd) n1 (h2.up bbd) n2 x) ?_
  rintro v w3 ⟨T, C, ct, cc, rfl, q, b3⟩
  simp (disch := first | with_reducible assumption | omega) only [push_cast, x_blk, x_cd, ↓reduceIte, Nat.reduceEqDiff, List.map_cons, List.map_nil, Int.reduceEq, Int.lt_irrefl]
  refine ⟨b3, ?_⟩
  have hls := leadsL_len p1 p3 seen faults x m.events.toNat
  have hIn : ∀ p ∈ leadsL m seen faults x m.events.toNat, EdW m seen faults x p.1 (cnt p.2) := fun p hp => ⟨p.2, hp, rfl⟩
  have hwx := hI.wk x (List.mem_of_getElem? hx)
  have hfar : T = none ∨ T.map (·.block) ≠ A.map (·.block) := by
    cases T with
    | none => exact .inl rfl
    | some tt =>
      refine .inr fun e => ?_
      have h3 := q.a.geB tt rfl
      have := od.ltB (b := tt.block) (by simpa using e)
      omega
  have hl0 : leadsL m seen faults x m.events.toNat = leadsL m seen faults x m.events.toNat := rfl
  generalize hlg : leadsL m seen faults x m.events.toNat = ls at *
  have o3 := od.below b3 (Nat.le_refl _)
  have oe3 := oed.below b3 (Nat.le_refl _)
  have bd3 := bd.trans (b3.mono bd.size)
  have hub := bd.size
  have q3 : LQ w1.heap.size w3 T C ct cc ls := ⟨q.a.base hub, q.c.base hub⟩
  clear od oed lx hR sA dd k2d bbd q hl0 o oe
  refine loop_rule (fun f' w' => ∃ (i : Nat) (l : List Tw) (es : List Eg) (A D : Option Addr) (ca cd : Nat), i ≤ ls.length ∧ (f' 1 = .slice A1 seen.length c1 ∧ f' 2 = .slice A2 faults.length c2 ∧ f' 3 = .pointer (some ⟨w.heap.size, 0, none⟩) ∧ f' 8 = .slice A l.length ca ∧ f' 9 = .slice D es.length cd ∧ f' 12 = .int .i64 k ∧ f' 13 = .slice T (ls.map (·.1)).length ct ∧ f' 14 = .slice C (ls.map (·.2)).length cc ∧ f' 15 = .int .i64 i) ∧ TwI m seen faults l k i es ∧ l[k]? = some x ∧
      OwnR twC w1.heap.size 61 3 w' A ca l ∧ OwnR egC w1.heap.size 59 3 w' D cd es ∧ LQ w1.heap.size w' T C ct cc ls ∧ (T = none ∨ T.map (·.block) ≠ A.map (·.block)) ∧ Below w1.heap.size w1 w')
    (fun f' _ => ls.length - (intOf (f' 15)).toNat) ⟨0, l, es, A, D, ca, cd, Nat.zero_le _, (by simp only [push_cast, ↓reduceIte, Nat.reduceEqDiff, true_and, and_true, and_self, eq_self, fr, fr]), hI, hx, o3, oe3, q3, hfar, bd3⟩ ?_
  clear o3 oe3 bd3 fr hI hx q3 hfar hk hkl few b2 bd k2 b3 hub l es A D ca cd
  rintro f w4 ⟨i, l, es, A, D, ca, cd, hi, fr, hI, hx, o, oe, q, hfar, b4⟩ J2 hJ2
  have few := hI.few p1 p3
  have hmu2 : (intOf (f 15)).toNat = i := by rw [fr.2.2.2.2.2.2.2.2]; simp [intOf]
  have helen := hI.len
  have hkl := getElem?_lt hx
  by_cases hil : i < ls.length
  case neg =>
    obtain rfl : i = ls.length := by omega
    have hfr13 : ¬ ls.length < (ls.map (·.1)).length := by simp
    have hI' := hI.next hx (by rw [hlg]) (by omega)
    simp (disch := first | with_reducible assumption | omega) only [push_cast, x_blk, x_cd, ↓reduceIte, Nat.reduceEqDiff, List.map_cons, List.map_nil, Int.reduceEq, Int.lt_irrefl, L_ref13_Twins_0, fr, hfr13]
    exact hJ _ _ ⟨k + 1, l, es, A, D, ca, cd, hkl, (by simp only [push_cast, ↓reduceIte, Nat.reduceEqDiff, true_and, and_true, and_self, eq_self, fr]), hI', o, oe, b4⟩ (by rw [hmu]; simp only [push_cast, ↓reduceIte, Nat.reduceEqDiff, intOf, fr]; omega)
  obtain ⟨⟨y, b⟩, hy⟩ : ∃ p, ls[i]? = some p := ⟨_, List.getElem?_eq_getElem hil⟩
  have hyT : (ls.map (·.1))[i]? = some y := by rw [List.getElem?_map, hy]; rfl
  have hyC : (ls.map (·.2))[i]? = some b := by rw [List.getElem?_map, hy]; rfl
  have hi1 : i < (ls.map (·.1)).length := by simpa using hil
  have hi2 : i < (ls.map (·.2)).length := by simpa using hil
  have sT := q.a.isSome (by omega)
  have sC := q.c.isSome (by omega)
  have rT := fun {w' : World} (qa : OwnR twC w1.heap.size 61 3 w' T ct (ls.map (·.1))) {K : Fr → World → Prop} {f : Fr} {d : Option Nat} {w2 : World} => (Recs.lt twEnc (by decide) (OwnR.recs qa twEnc (by decide))).ldAll (P := Try.prog) (K := K) (f := f) (d := d) (w := w2) twEnc ty_ag_61 hyT ty_sz_61
  simp (disch := first | with_reducible assumption | omega) only [push_cast, x_blk, x_cd, ↓reduceIte, Nat.reduceEqDiff, List.map_cons, List.map_nil, Int.reduceEq, Int.lt_irrefl, L_ref13_Twins_0, fr, hi1, rT q.a]
  refine call_of (ref13_find (Recs.lt twEnc (by decide) (OwnR.recs o twEnc (by decide))) (by omega) y) ?_
  rintro v w5 ⟨n, rfl, hn, b5⟩
  replace o := o.below b5 (Nat.le_refl _)
  replace oe := oe.below b5 (Nat.le_refl _)
  replace q := q.below b5
  replace b4 := b4.trans (b5.mono b4.size)
  clear b5
  rcases hn with ⟨rfl, hnin⟩ | hn
  · -- it is new
    obtain ⟨nx, hnx⟩ := hwx
    have hI2 := (hI.more hkl hnin (hnx.step (hIn (y, b) (List.mem_of_getElem? hy)))).add (get_snoc hx y) (by rw [hlg]; exact hy) (n := l.length) (by rw [List.getElem?_append_right (Nat.le_refl _)]; simp)
    simp (disch := first | with_reducible assumption | omega) only [push_cast, x_blk, x_cd, ↓reduceIte, Nat.reduceEqDiff, List.map_cons, List.map_nil, Int.reduceEq, Int.lt_irrefl, fr, eq_self, hi1, rT q.a, bs_rec twEnc slT_54 _ (by decide)]
    refine app_rec twEnc slT_54 o y (by omega) (by omega) b4.size ?_
    intro A' ca' w6 o6 g6 hA6 hs6 hz6
    have oe6 := oe.grew g6 (Own.apart oe o (by decide))
    have q6 : LQ w1.heap.size w6 T C ct cc ls := ⟨q.a.grew g6 hfar, q.c.grew g6 (Own.apart q.c o (by decide))⟩
    have hfar6 := Own.far q.a o hfar hA6
    have b6 := g6.below b4 b4.size o.geB
    have lC := fun {K : Fr → World → Prop} {f : Fr} {d : Option Nat} {w2 : World} => (Recs.lt boEnc (by decide) (OwnR.recs q6.c boEnc (by decide))).ld0 (P := Try.prog) (K := K) (f := f) (d := d) (w := w2) ty_ag_4 hyC (v := .bool b) rfl
    simp only [Nat.mul_one] at lC
    have hln : (l ++ [y]).length = l.length + 1 := by simp
    simp (disch := first | with_reducible assumption | omega) only [push_cast, x_blk, x_cd, ↓reduceIte, Nat.reduceEqDiff, List.map_cons, List.map_nil, Int.reduceEq, Int.lt_irrefl, fr, hi2, lC, bl_eg, bs_rec egEnc slT_55 _ (by decide)]
    refine app_rec egEnc slT_55 oe6 (k, l.length, b) (by omega) (by omega) b6.size ?_
    intro D' cd' w7 oe7 g7 hD7 hs7 hz7
    have o7 := o6.grew g7 (Own.apart o6 oe6 (by decide))
    have q7 : LQ w1.heap.size w7 T C ct cc ls := ⟨q6.a.grew g7 (Own.apart q6.a oe6 (by decide)), q6.c.grew g7 (Own.apart q6.c oe6 (by decide))⟩
    have b7 := g7.below b6 b6.size oe6.geB
    simp (disch := first | with_reducible assumption | omega) only [push_cast, x_blk, x_cd, ↓reduceIte, Nat.reduceEqDiff, List.map_cons, List.map_nil, Int.reduceEq, Int.lt_irrefl, fr]
    exact hJ2 _ _ ⟨i + 1, l ++ [y], es ++ [(k, l.length, b)], A', D', ca', cd', by omega, (by simp only [push_cast, ↓reduceIte, Nat.reduceEqDiff, true_and, and_true, and_self, eq_self, fr, List.length_append, List.length_cons, List.length_nil]), hI2, get_snoc hx y, o7, oe7, q7, hfar6, b7⟩ (by rw [hmu2]; simp only [push_cast, ↓reduceIte, Nat.reduceEqDiff, intOf, fr]; omega)
  · -- it was there
    have hnl := getElem?_lt hn
    have hne : ¬ (n : Int) = (l.length : Int) := by omega
    have hI2 := hI.add hx (by rw [hlg]; exact hy) hn
    have lC := fun {K : Fr → World → Prop} {f : Fr} {d : Option Nat} {w2 : World} => (Recs.lt boEnc (by decide) (OwnR.recs q.c boEnc (by decide))).ld0 (P := Try.prog) (K := K) (f := f) (d := d) (w := w2) ty_ag_4 hyC (v := .bool b) rfl
    simp only [Nat.mul_one] at lC
    simp (disch := first | with_reducible assumption | omega) only [push_cast, x_blk, x_cd, ↓reduceIte, Nat.reduceEqDiff, List.map_cons, List.map_nil, Int.reduceEq, Int.lt_irrefl, fr, hne, hi2, lC, bl_eg, bs_rec egEnc slT_55 _ (by decide)]
    refine app_rec egEnc slT_55 oe (k, n, b) (by omega) (by omega) b4.size ?_
    intro D' cd' w7 oe7 g7 hD7 hs7 hz7
    have o7 := o.grew g7 (Own.apart o oe (by decide))
    have q7 : LQ w1.heap.size w7 T C ct cc ls := ⟨q.a.grew g7 (Own.apart q.a oe (by decide)), q.c.grew g7 (Own.apart q.c oe (by decide))⟩
    have b7 := g7.below b4 b4.size oe.geB
    simp (disch := first | with_reducible assumption | omega) only [push_cast, x_blk, x_cd, ↓reduceIte, Nat.reduceEqDiff, List.map_cons, List.map_nil, Int.reduceEq, Int.lt_irrefl, fr]
    exact hJ2 _ _ ⟨i + 1, l, es ++ [(k, n, b)], A, D', ca, cd', by omega, (by simp only [push_cast, ↓reduceIte, Nat.reduceEqDiff, true_and, and_true, and_self, eq_self, fr, List.length_append, List.length_cons, List.length_nil]), hI2, hx, o7, oe7, q7, hfar, b7⟩ (by rw [hmu2]; simp only [push_cast, ↓reduceIte, Nat.reduceEqDiff, intOf, fr]; omega)
end Go.Proofs.Ytfckamjbeplceaa
