/-
  The laws TopFound, DelayHolds: they return true.
-/
import Derived.Test.YtfckamjbeplceaaZDiaC
import Derived.Test.YtfckamjbeplceaaZDelL
import Derived.Test.YtfckamjbeplceaaZRef9
namespace Go.Proofs.Ytfckamjbeplceaa
set_option linter.unusedSimpArgs false
set_option linter.unusedVariables false
set_option linter.unusedSectionVars false
open Go.RowKit

theorem firstF_is (faults : List Int) : ∀ (w : List Int) (k : Nat), k ≤ w.length → (∀ j, j < k → w.getD j 0 ∉ faults) → (k = w.length ∨ w.getD k 0 ∈ faults) → firstF faults w = k
  | [], k, hk, _, _ => by simp at hk; subst hk; rfl
  | e :: w, 0, _, _, h => by
      rcases h with h | h
      · simp at h
      · unfold firstF; rw [if_pos (by simpa using h)]
  | e :: w, k + 1, hk, h0, h => by
      have he : e ∉ faults := by simpa using h0 0 (by omega)
      unfold firstF
      rw [if_neg he, firstF_is faults w k (by simpa using hk) (fun j hj => by simpa using h0 (j + 1) (by omega)) (by simpa using h)]
theorem after_run {m : Mach} : ∀ (word S : List Int) (y : Int), y ∈ afterL m S word → ∃ x ∈ S, Rn m x word y
  | [], S, y, h => ⟨y, h, .nil y⟩
  | e :: w, S, y, h => by
      have h' : y ∈ afterL m (stepL m S e) w := h
      obtain ⟨z, hz, hr⟩ := after_run w _ y h'
      obtain ⟨a, ha, he, hf, ht⟩ := mem_stepL.1 hz
      subst he ht
      exact ⟨a.frm, hf, .cons a w y ha hr⟩
theorem only_obs (word seen : List Int) : onlyL word seen true = obs seen word := by
  unfold onlyL obs
  refine List.filter_congr fun x _ => ?_
  simp
theorem blt_plt_d : builtPl Try.prog 37 = some ([(0, 5), (5, 1), (6, 1)], [.int .i64 0, .int .i64 0, .slice none 0 0, .slice none 0 0, .slice none 0 0, .slice none 0 0, .slice none 0 0]) := by kernel_rfl
theorem bl_plt_d {K : Fr → World → Prop} {u : World} {f : Fr} {d : Option Nat} {w : World} (a : MV) (m : Mach) (A : Option Addr) (l : List Int) (c : Nat) :
    Val1 Try.prog K (Instr.build 37 #[(0, a.val m), (1, .slice A l.length c)]) u f d w = K (updO f d (.agg (PV.cells ⟨a, A, c, none, 0⟩ ⟨m, l, []⟩).toArray)) w := by
  refine bld_of ?_
  rw [built_of blt_plt_d]
  rw [fill_cons (off := 0) (size := 5) rfl rfl (by decide), fill_cons (off := 5) (size := 1) rfl rfl (by simp [putL, Value.cells, MV.cells]), fill_nil]
  simp [putL, Value.cells, MV.cells, PV.cells]
theorem law_DelayHolds {w : World} {a0 : MV} {m0 : Mach} (h : IsM (· < w.heap.size) w a0 m0) (hf : m0.Fits) {A1 : Option Addr} {c1 : Nat} {l1 : List Int} (h1 : Ints (· < w.heap.size) w A1 l1) (hI1 : ∀ x ∈ l1, I64 x) (n1 : l1.length ≤ 17592186043904) (_ : l1.length ≤ c1)
    {A2 : Option Addr} {c2 : Nat} {l2 : List Int} (h2 : Ints (· < w.heap.size) w A2 l2) (_ : ∀ x ∈ l2, I64 x) (n2 : l2.length ≤ 17592186043904) (_ : l2.length ≤ c2)
    {A3 : Option Addr} {c3 : Nat} {l3 : List Int} (h3 : Ints (· < w.heap.size) w A3 l3) (_ : ∀ x ∈ l3, I64 x) (n3 : l3.length ≤ 17592186043904) (_ : l3.length ≤ c3) :
    Cal Try.prog 4 [a0.val m0, .slice A1 l1.length c1, .slice A2 l2.length c2, .slice A3 l3.length c3] w fun v w' => v = .bool true ∧ Below w.heap.size w w' := by
  refine cal_law_DelayHolds (by simp) 100000 fun Q hQ => ?_
  simp (disch := first | with_reducible assumption | omega) only [push_cast, x_blk, x_cd, ↓reduceIte, Nat.reduceEqDiff, List.map_cons, List.map_nil, Int.reduceEq, Int.lt_irrefl, F_law_DelayHolds]
  refine blk_of (box_agg _ (a0.cells m0)) ?_
  intro w1 k1 b1 z1
  simp (disch := first | with_reducible assumption | omega) only [push_cast, x_blk, x_cd, ↓reduceIte, Nat.reduceEqDiff, List.map_cons, List.map_nil, Int.reduceEq, Int.lt_irrefl, k1.mA ty_ag_25 ty_sz_25]
  refine call_of (ref2_May (h.up b1) hf) ?_
  rintro v w2 ⟨rfl, b2⟩
  have l1k := k1.lt
  replace k1 := k1.below b2 k1.lt
  have bb := b1.trans (b2.mono b1.size)
  by_cases p1 : m0.May
  case neg =>
    simp (disch := first | with_reducible assumption | omega) only [push_cast, x_blk, x_cd, ↓reduceIte, Nat.reduceEqDiff, List.map_cons, List.map_nil, Int.reduceEq, Int.lt_irrefl, p1]
    refine fin_1 (hQ _ _ ⟨?_, bb⟩)
    first | rfl | (rw [upd_at, if_pos rfl])
  by_cases p4 : m0.states ≤ 6
  case neg =>
    have q4 : 6 < m0.states := by omega
    simp (disch := first | with_reducible assumption | omega) only [push_cast, x_blk, x_cd, ↓reduceIte, Nat.reduceEqDiff, List.map_cons, List.map_nil, Int.reduceEq, Int.lt_irrefl, p1, k1.m0 ty_ag_3, q4]
    refine fin_1 (hQ _ _ ⟨?_, bb⟩)
    first | rfl | (rw [upd_at, if_pos rfl])
  have q4 : ¬ 6 < m0.states := by omega
  simp (disch := first | with_reducible assumption | omega) only [push_cast, x_blk, x_cd, ↓reduceIte, Nat.reduceEqDiff, List.map_cons, List.map_nil, Int.reduceEq, Int.lt_irrefl, p1, k1.m0 ty_ag_3, q4, k1.m1 ty_ag_3]
  refine call_of (ref1_Is (h1.up bb) c1 m0.events (by omega)) ?_
  rintro v w3 ⟨rfl, s3⟩
  replace k1 := k1.same s3
  replace bb := bb.trans (s3.below _)
  by_cases p2 : IsRow l1 m0.events
  case neg =>
    simp (disch := first | with_reducible assumption | omega) only [push_cast, x_blk, x_cd, ↓reduceIte, Nat.reduceEqDiff, List.map_cons, List.map_nil, Int.reduceEq, Int.lt_irrefl, p2]
    refine fin_1 (hQ _ _ ⟨?_, bb⟩)
    first | rfl | (rw [upd_at, if_pos rfl])
  simp (disch := first | with_reducible assumption | omega) only [push_cast, x_blk, x_cd, ↓reduceIte, Nat.reduceEqDiff, List.map_cons, List.map_nil, Int.reduceEq, Int.lt_irrefl, p2, k1.m1 ty_ag_3]
  refine call_of (ref1_Is (h2.up bb) c2 m0.events (by omega)) ?_
  rintro v w4 ⟨rfl, s4⟩
  replace k1 := k1.same s4
  replace bb := bb.trans (s4.below _)
  by_cases p3 : IsRow l2 m0.events
  case neg =>
    simp (disch := first | with_reducible assumption | omega) only [push_cast, x_blk, x_cd, ↓reduceIte, Nat.reduceEqDiff, List.map_cons, List.map_nil, Int.reduceEq, Int.lt_irrefl, p3]
    refine fin_1 (hQ _ _ ⟨?_, bb⟩)
    first | rfl | (rw [upd_at, if_pos rfl])
  simp (disch := first | with_reducible assumption | omega) only [push_cast, x_blk, x_cd, ↓reduceIte, Nat.reduceEqDiff, List.map_cons, List.map_nil, Int.reduceEq, Int.lt_irrefl, p3, k1.mA ty_ag_25 ty_sz_25]
  refine call_of (ref2_Word (h3.up bb) c3 (by omega)) ?_
  rintro v w5 ⟨rfl, b5⟩
  replace k1 := k1.below b5 k1.lt
  replace bb := bb.trans (b5.mono bb.size)
  by_cases p5 : IsWord m0 l3
  case neg =>
    simp (disch := first | with_reducible assumption | omega) only [push_cast, x_blk, x_cd, ↓reduceIte, Nat.reduceEqDiff, List.map_cons, List.map_nil, Int.reduceEq, Int.lt_irrefl, p5]
    refine fin_1 (hQ _ _ ⟨?_, bb⟩)
    first | rfl | (rw [upd_at, if_pos rfl])
  simp (disch := first | with_reducible assumption | omega) only [push_cast, x_blk, x_cd, ↓reduceIte, Nat.reduceEqDiff, List.map_cons, List.map_nil, Int.reduceEq, Int.lt_irrefl, p5, k1.mA ty_ag_25 ty_sz_25]
  refine call_of (diagnose_Delay (h.up bb) hf (h1.up bb) n1 (h2.up bb) n2) ?_
  rintro v w6 ⟨d, e, rfl, hd, b6⟩
  replace k1 := k1.below b6 k1.lt
  replace bb := bb.trans (b6.mono bb.size)
  rcases hd with ⟨h2, _⟩ | ⟨_, h2, _⟩ | ⟨_, _, rfl, hd⟩
  · exact absurd ⟨p1, p2, p3⟩ h2
  · exact absurd p4 h2
  clear b1 b2 s3 s4 b5 b6 z1
  simp (disch := first | with_reducible assumption | omega) only [push_cast, x_blk, x_cd, ↓reduceIte, Nat.reduceEqDiff, List.map_cons, List.map_nil, Int.reduceEq, Int.lt_irrefl]
  refine loop_rule (fun f w' => ∃ k : Nat, k ≤ l3.length ∧ (f 1 = .slice A1 l1.length c1 ∧ f 2 = .slice A2 l2.length c2 ∧ f 3 = .slice A3 l3.length c3 ∧ f 4 = .pointer (some ⟨w.heap.size, 0, none⟩) ∧ f 8 = .bool false ∧ f 9 = .int .i64 d ∧ f 10 = .int .i64 0 ∧ f 11 = .int .i64 k) ∧ (∀ j, j < k → l3.getD j 0 ∉ l2) ∧
      Blk w' w.heap.size 25 (a0.cells m0) ∧ Below w.heap.size w w')
    (fun f _ => l3.length - (intOf (f 11)).toNat) ⟨0, Nat.zero_le _, ⟨rfl, rfl, rfl, rfl, rfl, rfl, rfl, rfl⟩, fun j hj => absurd hj (by omega), k1, bb⟩ ?_
  clear k1 bb
  rintro f w7 ⟨k, hk, fr, hno, k1, bb⟩ J hJ
  have hmu : (intOf (f 11)).toNat = k := by rw [fr.2.2.2.2.2.2.2]; simp [intOf]
  have hI3 := (h3.up bb)
  have hmain : (k = l3.length ∨ l3.getD k 0 ∈ l2) → firstF l2 l3 = k := fun hh => firstF_is l2 l3 k hk hno hh
  -- behind the first fault
  have rest : ∀ (F : Fr), (F 1 = .slice A1 l1.length c1 ∧ F 2 = .slice A2 l2.length c2 ∧ F 3 = .slice A3 l3.length c3 ∧ F 4 = .pointer (some ⟨w.heap.size, 0, none⟩) ∧ F 8 = .bool false ∧ F 9 = .int .i64 d ∧ F 10 = .int .i64 0 ∧ F 11 = .int .i64 k) → True := fun _ _ => trivial
  by_cases hlt : k < l3.length
  case pos =>
    have hA3 := hI3.isSome (by omega)
    have ld := fun {K : Fr → World → Prop} {f : Fr} {d : Option Nat} {w : World} => hI3.ld (P := Try.prog) (K := K) (f := f) (d := d) (w := w) ty_ag_3 k hlt
    have hnk := hmain
    have hn2 := hno
    generalize hek : l3.getD k 0 = ek at *
    simp (disch := first | with_reducible assumption | omega) only [push_cast, x_blk, x_cd, ↓reduceIte, Nat.reduceEqDiff, List.map_cons, List.map_nil, Int.reduceEq, Int.lt_irrefl, L_law_DelayHolds_0, fr, hlt, ld]
    refine call_of (ref1_Has (h2.up bb) c2 ek (by omega)) ?_
    rintro v w8 ⟨rfl, s8⟩
    have k18 := k1.same s8
    have bb8 := bb.trans (s8.below _)
    by_cases q : ek ∈ l2
    case neg =>
      simp (disch := first | with_reducible assumption | omega) only [push_cast, x_blk, x_cd, ↓reduceIte, Nat.reduceEqDiff, List.map_cons, List.map_nil, Int.reduceEq, Int.lt_irrefl, decide_eq_false q, fr]
      exact hJ _ _ ⟨k + 1, by omega, (by simp only [push_cast, ↓reduceIte, Nat.reduceEqDiff, true_and, and_true, and_self, eq_self, fr]), fun j hj => by
        by_cases e : j = k
        · subst e; rw [hek]; exact q
        · exact hno j (by omega), k18, bb8⟩ (by simp only [push_cast, ↓reduceIte, Nat.reduceEqDiff, intOf, fr]; omega)
    have hfk := hmain (.inr q)
    clear ld
    simp (disch := first | with_reducible assumption | omega) only [push_cast, x_blk, x_cd, ↓reduceIte, Nat.reduceEqDiff, List.map_cons, List.map_nil, Int.reduceEq, Int.lt_irrefl, decide_eq_true q, fr, k18.mA ty_ag_25 ty_sz_25, k18.m2 ty_ag_22]
    refine call_of (ref2_After (h.up bb8) hf p1 (h.up bb8).starts (h3.up bb8) (may_starts p1) n3) ?_
    rintro v w9 ⟨Ax, cx, rfl, ox, b9⟩
    have k19 := k18.below b9 k18.lt
    have bb9 := bb8.trans (b9.mono bb8.size)
    have hkl : ¬ (k : Int) = (l3.length : Int) := by omega
    by_cases q1 : (afterL m0 m0.starts l3).length = 0
    case pos =>
      have q1' : ((afterL m0 m0.starts l3).length : Int) = 0 := by omega
      simp (disch := first | with_reducible assumption | omega) only [push_cast, x_blk, x_cd, ↓reduceIte, Nat.reduceEqDiff, List.map_cons, List.map_nil, Int.reduceEq, Int.lt_irrefl, fr, hkl, q1']
      refine fin_1 (hQ _ _ ⟨?_, bb9⟩)
      first | rfl | (rw [upd_at, if_pos rfl])
    have q1' : ¬ ((afterL m0 m0.starts l3).length : Int) = 0 := by omega
    by_cases q2 : d < 0
    case pos =>
      simp (disch := first | with_reducible assumption | omega) only [push_cast, x_blk, x_cd, ↓reduceIte, Nat.reduceEqDiff, List.map_cons, List.map_nil, Int.reduceEq, Int.lt_irrefl, fr, hkl, q1', q2]
      refine fin_1 (hQ _ _ ⟨?_, bb9⟩)
      first | rfl | (rw [upd_at, if_pos rfl])
    by_cases q3 : (l3.length : Int) - k - 1 < d
    case pos =>
      simp (disch := first | with_reducible assumption | omega) only [push_cast, x_blk, x_cd, ↓reduceIte, Nat.reduceEqDiff, List.map_cons, List.map_nil, Int.reduceEq, Int.lt_irrefl, fr, hkl, q1', q2, q3]
      refine fin_1 (hQ _ _ ⟨?_, bb9⟩)
      first | rfl | (rw [upd_at, if_pos rfl])
    have hA4 : m0.arrows.length ≤ 4096 := p1.2.2.2.2.1
    simp (disch := first | with_reducible assumption | omega) only [push_cast, x_blk, x_cd, ↓reduceIte, Nat.reduceEqDiff, List.map_cons, List.map_nil, Int.reduceEq, Int.lt_irrefl, fr, hkl, q1', q2, q3, k19.mA ty_ag_25 ty_sz_25]
    refine call_of (ref12_Low (h.up bb9) hf (by omega) (h2.up bb9) n2) ?_
    rintro v w10 ⟨a', rfl, hL, b10⟩
    have bb10 := bb9.trans (b10.mono bb9.size)
    simp (disch := first | with_reducible assumption | omega) only [push_cast, x_blk, x_cd, ↓reduceIte, Nat.reduceEqDiff, List.map_cons, List.map_nil, Int.reduceEq, Int.lt_irrefl]
    refine blk_of (cs := mv0.cells mach0) al_25 ?_
    intro w11 k11 b11 z11
    have bb11 := bb10.trans (b11.mono bb10.size)
    simp (disch := first | with_reducible assumption | omega) only [push_cast, x_blk, x_cd, ↓reduceIte, Nat.reduceEqDiff, List.map_cons, List.map_nil, Int.reduceEq, Int.lt_irrefl]
    refine sto_mach k11 rfl a' (lowM m0 l2) ?_
    intro w12 k12 g12 z12
    have b12 := g12.below b11 b11.size (by intro a ha; injection ha with ha; subst ha; exact Nat.le_refl _)
    have bb12 := bb10.trans (b12.mono bb10.size)
    simp (disch := first | with_reducible assumption | omega) only [push_cast, x_blk, x_cd, ↓reduceIte, Nat.reduceEqDiff, List.map_cons, List.map_nil, Int.reduceEq, Int.lt_irrefl, fr, k12.mA ty_ag_25 ty_sz_25, bl_plt_d]
    refine blk_of (cs := PV.cells ⟨mv0, none, 0, none, 0⟩ ⟨mach0, [], []⟩) al_37 ?_
    intro w13 k13 b13 z13
    simp (disch := first | with_reducible assumption | omega) only [push_cast, x_blk, x_cd, ↓reduceIte, Nat.reduceEqDiff, List.map_cons, List.map_nil, Int.reduceEq, Int.lt_irrefl]
    refine sto_blk (cs := PV.cells ⟨a', A1, c1, none, 0⟩ ⟨lowM m0 l2, l1, []⟩) k13 (by simpa using ty_sz_37) (by simp) rfl ?_
    intro w14 k14 g14 z14
    have b14 := g14.below b13 b13.size (by intro a ha; injection ha with ha; subst ha; exact Nat.le_refl _)
    have bb14 := bb12.trans (b14.mono bb12.size)
    have hL14 := (hL.up b12).up b14
    have hlm := low_may p1 l2
    have hf' : (lowM m0 l2).Fits := by
      have hA : (lowM m0 l2).arrows = m0.arrows.filter fun a => decide (a.evt ∉ l2) := by
        show lowUp m0 l2 m0.arrows.length = _
        unfold lowUp; rw [List.take_length]
      exact ⟨hf.states, hf.events, hf.starts, hf.ends, fun a ha => hf.arrows a (List.mem_filter.1 (hA ▸ ha)).1, hf.lenS, hf.lenE, by rw [hA]; exact Nat.le_trans (List.length_filter_le _ _) hf.lenA⟩
    simp (disch := first | with_reducible assumption | omega) only [push_cast, x_blk, x_cd, ↓reduceIte, Nat.reduceEqDiff, List.map_cons, List.map_nil, Int.reduceEq, Int.lt_irrefl, fr]
    refine call_of (ref5_Seen (h3.up bb14) c3 (h1.up bb14) c1 n3 (by omega)) ?_
    rintro v w15 ⟨Aq, cq, rfl, oq, b15⟩
    have bb15 := bb14.trans (b15.mono bb14.size)
    have k15 := k14.below b15 k14.lt
    have hol := only_obs l3 l1
    have hql : (obs l1 l3).length ≤ 17592186043904 := Nat.le_trans (List.length_filter_le _ _) n3
    rw [hol] at oq
    have iq := Ints.lt (OwnI.ints oq)
    rw [hol]
    have hP : IsP (· < w15.heap.size) w15 ⟨a', A1, c1, none, 0⟩ ⟨lowM m0 l2, l1, []⟩ := ⟨hL14.up b15, h1.up bb15, Ints.nil _ _ _⟩
    simp (disch := first | with_reducible assumption | omega) only [push_cast, x_blk, x_cd, ↓reduceIte, Nat.reduceEqDiff, List.map_cons, List.map_nil, Int.reduceEq, Int.lt_irrefl, k15.pA']
    refine call_of (ref9_Estimate hP ⟨hf', hI1, fun x hx => absurd hx (by simp), n1, by simp⟩ hlm iq hql) ?_
    rintro v w16 ⟨Ae, ce, rfl, oe, b16⟩
    have hest : estL ⟨lowM m0 l2, l1, []⟩ (obs l1 l3) = [] := by
      obtain ⟨y, hy⟩ : ∃ y, y ∈ afterL m0 m0.starts l3 := by
        cases ha : afterL m0 m0.starts l3 with
        | nil => rw [ha] at q1; exact absurd rfl q1
        | cons y _ => exact ⟨y, List.mem_cons_self⟩
      obtain ⟨x, hx, hr⟩ := after_run l3 m0.starts y hy
      exact delay_holds p1 hd (by omega) hx hr (by rw [hfk]; exact hlt) (by rw [hfk]; omega)
    simp (disch := first | with_reducible assumption | omega) only [push_cast, x_blk, x_cd, ↓reduceIte, Nat.reduceEqDiff, List.map_cons, List.map_nil, Int.reduceEq, Int.lt_irrefl, hest, List.length_nil]
    refine fin_1 (hQ _ _ ⟨?_, bb15.trans (b16.mono bb15.size)⟩)
    first | rfl | (rw [upd_at, if_pos rfl])
  case neg =>
    obtain rfl : k = l3.length := by omega
    simp (disch := first | with_reducible assumption | omega) only [push_cast, x_blk, x_cd, ↓reduceIte, Nat.reduceEqDiff, List.map_cons, List.map_nil, Int.reduceEq, Int.lt_irrefl, L_law_DelayHolds_0, fr, hlt, k1.mA ty_ag_25 ty_sz_25, k1.m2 ty_ag_22]
    refine call_of (ref2_After (h.up bb) hf p1 (h.up bb).starts hI3 (may_starts p1) n3) ?_
    rintro v w8 ⟨Ax, cx, rfl, ox, b8⟩
    simp (disch := first | with_reducible assumption | omega) only [push_cast, x_blk, x_cd, ↓reduceIte, Nat.reduceEqDiff, List.map_cons, List.map_nil, Int.reduceEq, Int.lt_irrefl, fr]
    refine fin_1 (hQ _ _ ⟨?_, bb.trans (b8.mono bb.size)⟩)
    first | rfl | (rw [upd_at, if_pos rfl])
end Go.Proofs.Ytfckamjbeplceaa
