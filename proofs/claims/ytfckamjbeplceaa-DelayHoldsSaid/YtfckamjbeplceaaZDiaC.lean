/-
  Chapter 13: the program's Delay: by its contract.
-/
import Derived.Test.YtfckamjbeplceaaZDiaB
import Derived.Test.YtfckamjbeplceaaZRef13B
namespace Go.Proofs.Ytfckamjbeplceaa
set_option linter.unusedSimpArgs false
set_option linter.unusedVariables false
set_option linter.unusedSectionVars false
open Go.RowKit

abbrev hd0 : Hd := ⟨none, 0, []⟩
def tos0 : List Hd := List.replicate 48 hd0
theorem blt_wat : builtPl Try.prog 49 = some ([(0, 5), (5, 1), (6, 1), (7, 48), (55, 1), (56, 1)], [.int .i64 0, .int .i64 0, .slice none 0 0, .slice none 0 0, .slice none 0 0, .slice none 0 0, .slice none 0 0] ++ (List.replicate 48 (.slice none 0 0) ++ [.map none, .slice none 0 0])) := by kernel_rfl
theorem bl_wat {K : Fr → World → Prop} {u : World} {f : Fr} {d : Option Nat} {w : World} (v : WV) (gm : Nat) :
    Val1 Try.prog K (Instr.build 49 #[(0, v.a.val v.m), (1, .slice v.A1 v.seen.length v.c1), (2, .slice v.A2 v.faults.length v.c2), (4, .map (some gm))]) u f d w = K (updO f d (.agg (wCells v tos0 gm none 0 0).toArray)) w := by
  refine bld_of ?_
  rw [built_of blt_wat]
  rw [fill_cons (off := 0) (size := 5) rfl rfl (by decide), fill_cons (off := 5) (size := 1) rfl rfl (by simp [putL, Value.cells, MV.cells]), fill_cons (off := 6) (size := 1) rfl rfl (by simp [putL, Value.cells, MV.cells]), fill_cons (off := 55) (size := 1) rfl rfl (by simp [putL, Value.cells, MV.cells]), fill_nil]
  rfl
/-- Where states and events lead to, by the first i arrows: each row one's own. -/
structure TS (B : Nat) (w : World) (m : Mach) (tos : List Hd) (i : Nat) : Prop where
  t48 : tos.length = 48
  own : ∀ (k : Nat) (h : Hd), tos[k]? = some h → OwnI B 3 w h.A h.c h.l
  far : ∀ (k k2 : Nat) (h h2 : Hd), k ≠ k2 → tos[k]? = some h → tos[k2]? = some h2 → h.A = none ∨ h.A.map (·.block) ≠ h2.A.map (·.block)
  val : ∀ s e : Nat, s < 6 → e < 8 → ∃ h : Hd, tos[s * 8 + e]? = some h ∧ h.l = toUpto m (s : Int) (e : Int) i
theorem TS.zero (B : Nat) (w : World) (m : Mach) : TS B w m tos0 0 := by
  have h0 : ∀ (k : Nat) (h : Hd), tos0[k]? = some h → h = hd0 := fun k h hk => by
    unfold tos0 at hk
    rw [List.getElem?_replicate] at hk
    split at hk
    · exact (Option.some.inj hk).symm
    · cases hk
  refine ⟨List.length_replicate, fun k h hk => ?_, fun k k2 h h2 _ hk _ => ?_, fun s e hs he => ⟨hd0, ?_, rfl⟩⟩
  · rw [h0 k h hk]; exact Own.nil _ _ _ _
  · rw [h0 k h hk]; exact .inl rfl
  · unfold tos0
    rw [List.getElem?_replicate, if_pos (by omega)]
theorem TS.below {B : Nat} {w w' : World} {m : Mach} {tos : List Hd} {i : Nat} (h : TS B w m tos i) (b : Below w.heap.size w w') : TS B w' m tos i := ⟨h.t48, fun k x hx => (h.own k x hx).below b (Nat.le_refl _), h.far, h.val⟩
theorem TS.grewB {B : Nat} {w w' : World} {m : Mach} {tos : List Hd} {i g j t : Nat} {cs : List Value} (h : TS B w m tos i) (hb : Blk w g t cs) (ht : 3 ≠ t) (hg : Grew w w' (some ⟨g, j, none⟩)) : TS B w' m tos i :=
  ⟨h.t48, fun k x hx => (h.own k x hx).grew hg (.inr ((h.own k x hx).ne_blk hb ht)), h.far, h.val⟩
theorem TS.add {B : Nat} {w w' : World} {m : Mach} {tos : List Hd} {i s e c' : Nat} {A' : Option Addr} {h : Hd} (T : TS B w m tos i) (hi : i < m.arrows.length) (hs : s < 6) (he : e < 8) (ha : (m.arrows.getD i default).frm = s ∧ (m.arrows.getD i default).evt = e)
    (hk : tos[s * 8 + e]? = some h) (o : OwnI B 3 w' A' c' (h.l ++ [(m.arrows.getD i default).to_])) (hg : Grew w w' h.A) (hA : A'.map (·.block) = h.A.map (·.block) ∨ ∃ g, A'.map (·.block) = some g ∧ w.heap.size ≤ g) :
    TS B w' m (tos.set (s * 8 + e) ⟨A', c', h.l ++ [(m.arrows.getD i default).to_]⟩) (i + 1) := by
  have hkl := lt_of_some hk
  have at_ : ∀ (k : Nat) (x : Hd), (tos.set (s * 8 + e) ⟨A', c', h.l ++ [(m.arrows.getD i default).to_]⟩)[k]? = some x → (k = s * 8 + e ∧ x = ⟨A', c', h.l ++ [(m.arrows.getD i default).to_]⟩) ∨ (k ≠ s * 8 + e ∧ tos[k]? = some x) := fun k x hx => by
    by_cases q : k = s * 8 + e
    · subst q
      rw [List.getElem?_set_self hkl] at hx
      exact .inl ⟨rfl, (Option.some.inj hx).symm⟩
    · rw [List.getElem?_set_ne (Ne.symm q)] at hx
      exact .inr ⟨q, hx⟩
  have oh := T.own _ _ hk
  refine ⟨by rw [List.length_set]; exact T.t48, fun k x hx => ?_, fun k k2 x x2 hne hx hx2 => ?_, fun s' e' hs' he' => ?_⟩
  · rcases at_ k x hx with ⟨_, rfl⟩ | ⟨q, hx⟩
    · exact o
    · exact (T.own k x hx).grew hg (T.far _ _ _ _ q hx hk)
  · rcases at_ k x hx with ⟨q, rfl⟩ | ⟨q, hx⟩ <;> rcases at_ k2 x2 hx2 with ⟨q2, rfl⟩ | ⟨q2, hx2⟩
    · exact absurd (q.trans q2.symm) hne
    · exact far_symm (Own.far (T.own _ _ hx2) oh (T.far _ _ _ _ q2 hx2 hk) hA)
    · exact Own.far (T.own _ _ hx) oh (T.far _ _ _ _ q hx hk) hA
    · exact T.far _ _ _ _ hne hx hx2
  · obtain ⟨h2, h3, h4⟩ := T.val s' e' hs' he'
    have hu := toUpto_succ (s := (s' : Int)) (e := (e' : Int)) hi
    by_cases q : s' * 8 + e' = s * 8 + e
    · obtain ⟨rfl, rfl⟩ : s' = s ∧ e' = e := by omega
      rw [hk] at h3
      obtain rfl := Option.some.inj h3
      exact ⟨_, List.getElem?_set_self hkl, by rw [hu, if_pos ha, ← h4]⟩
    · refine ⟨h2, by rw [List.getElem?_set_ne (Ne.symm q)]; exact h3, ?_⟩
      rw [hu, if_neg (fun hc => q (by have := ha.1; have := ha.2; omega))]
      exact h4
theorem may_atD {m : Mach} (hm : m.May) {i : Nat} (hi : i < m.arrows.length) : m.ArrOk (m.arrows.getD i default) := (hm.2.2.2.2.2.2.2 i hi).1
/-- While the starts are come to. -/
structure PSt (w0 : World) (g gm : Nat) (v : WV) (tos : List Hd) (l : List Tw) (w : World) (M : List (Tw × Nat)) (W : List Tw) (Aw : Option Addr) (cw : Nat) : Prop where
  ws : WS w0.heap.size w g gm v tos Aw cw M W
  mb : Blk w w0.heap.size 25 (v.a.cells v.m)
  cm : Comes [] [] (l.map fun x => (x, 0)) M W
  ok : WOk M
  len : W.length ≤ l.length
  bl : Below w0.heap.size w0 w
theorem PSt.come {w0 w w' : World} {g gm : Nat} {v : WV} {tos : List Hd} {l : List Tw} {M M' : List (Tw × Nat)} {W W' : List Tw} {Aw Aw' : Option Addr} {cw cw' : Nat} (h : PSt w0 g gm v tos l w M W Aw cw) (hg : w0.heap.size ≠ g) (hgm : w0.heap.size ≠ gm)
    {x : Tw} (hc : Come M W x 0 M' W') (hws : WS w0.heap.size w' g gm v tos Aw' cw' M' W') (hk : KeepW g gm Aw w w') (hb : Below w0.heap.size w w') (hx : TwI64 x) : PSt w0 g gm v tos (l ++ [x]) w' M' W' Aw' cw' :=
  ⟨hws, hk.blk h.mb hg hgm (fun e => h.ws.row.ne_blk h.mb (by decide) e.symm), by rw [List.map_append]; exact h.cm.snoc hc, hc.all h.ok ⟨hx, Nat.zero_le _⟩, by have := hc.len; have := h.len; rw [List.length_append, List.length_singleton]; omega, h.bl.trans hb⟩
theorem start_i64 {m : Mach} (hm : m.May) {x : Int} (hx : x ∈ m.starts) : I64 x := by
  have := row_range (may_starts hm) x hx
  have := hm.2.1
  unfold I64; omega
theorem DInv.small {m : Mach} (hm : m.May) (h6 : m.states ≤ 6) {seen faults : List Int} {F : Tw → Prop} {M : List (Tw × Nat)} {W : List Tw} {most : Int} (h : DInv (StW m) (EdW m seen faults) F (2 * m.states.toNat * m.states.toNat + 1) M W most) : tot M ≤ 5328 ∧ WOk M ∧ ∀ p ∈ M, p.2 ≤ 73 := by
  have h1 : m.states.toNat ≤ 6 := by omega
  have h2 : 2 * m.states.toNat * m.states.toNat ≤ 2 * 6 * 6 := Nat.mul_le_mul (by omega) h1
  have hb : ∀ p ∈ M, p.2 ≤ 73 := fun p hp => by have := h.good.bnd p hp; omega
  have hl : M.length ≤ 72 := by
    have := nodup_nat_len (2 * m.states.toNat * m.states.toNat) ((M.map (·.1)).map (codeW m.states.toNat)) (by
      rw [List.nodup_iff_pairwise_ne, List.pairwise_map]
      refine (List.nodup_iff_pairwise_ne.1 h.good.keys).imp_of_mem fun {x y} hx hy hxy e => hxy ?_
      obtain ⟨p, hp, rfl⟩ := List.mem_map.1 hx
      obtain ⟨p', hp', rfl⟩ := List.mem_map.1 hy
      exact codeW_inj (wkW_in hm (h.good.real p hp)) (wkW_in hm (h.good.real p' hp')) e) fun c hc => by
      obtain ⟨x, hx, rfl⟩ := List.mem_map.1 hc
      obtain ⟨p, hp, rfl⟩ := List.mem_map.1 hx
      exact codeW_lt (wkW_in hm (h.good.real p hp))
    rw [List.length_map, List.length_map] at this
    omega
  refine ⟨Nat.le_trans (tot_le M 74 fun p hp => by have := hb p hp; omega) (by have : M.length * 74 ≤ 72 * 74 := Nat.mul_le_mul_right _ hl; omega), fun p hp => ⟨inW_i64 hm (wkW_in hm (h.good.real p hp)), by have := hb p hp; omega⟩, hb⟩
def DlRes (m : Mach) (seen faults : List Int) (d e : Int) : Prop :=
  (¬ (m.May ∧ IsRow seen m.events ∧ IsRow faults m.events) ∧ d = 0 ∧ e = 2) ∨
  ((m.May ∧ IsRow seen m.events ∧ IsRow faults m.events) ∧ ¬ m.states ≤ 6 ∧ d = 0 ∧ e = 1) ∨
  ((m.May ∧ IsRow seen m.events ∧ IsRow faults m.events) ∧ m.states ≤ 6 ∧ e = 0 ∧ DelIs m seen faults d)
set_option maxHeartbeats 1000000 in
theorem diagnose_Delay {w : World} {a : MV} {m : Mach} (h : IsM (· < w.heap.size) w a m) (hf : m.Fits) {A1 : Option Addr} {c1 : Nat} {seen : List Int} (h1 : Ints (· < w.heap.size) w A1 seen) (n1 : seen.length ≤ 17592186043904)
    {A2 : Option Addr} {c2 : Nat} {faults : List Int} (h2 : Ints (· < w.heap.size) w A2 faults) (n2 : faults.length ≤ 17592186043904) :
    Cal Try.prog 6 [a.val m, .slice A1 seen.length c1, .slice A2 faults.length c2] w fun v w' => ∃ d e : Int, v = .tuple #[.int .i64 d, .int .i64 e] ∧ DlRes m seen faults d e ∧ Below w.heap.size w w' := by
  refine cal_diagnose_Delay (by simp) 100000 fun Q hQ => ?_
  simp (disch := first | with_reducible assumption | omega) only [push_cast, x_blk, x_cd, ↓reduceIte, Nat.reduceEqDiff, List.map_cons, List.map_nil, Int.reduceEq, Int.lt_irrefl, F_diagnose_Delay]
  refine blk_of (box_agg _ (a.cells m)) ?_
  intro w1 k1 b1 z1
  simp (disch := first | with_reducible assumption | omega) only [push_cast, x_blk, x_cd, ↓reduceIte, Nat.reduceEqDiff, List.map_cons, List.map_nil, Int.reduceEq, Int.lt_irrefl, k1.mA ty_ag_25 ty_sz_25]
  refine call_of (machine_May (h.up b1) hf) ?_
  rintro v w2 ⟨rfl, b2⟩
  replace k1 := k1.below b2 k1.lt
  have bb := b1.trans (b2.mono b1.size)
  by_cases p1 : m.May
  case neg =>
    simp (disch := first | with_reducible assumption | omega) only [push_cast, x_blk, x_cd, ↓reduceIte, Nat.reduceEqDiff, List.map_cons, List.map_nil, Int.reduceEq, Int.lt_irrefl, p1]
    exact fin_2 (hQ _ _ ⟨0, 2, (by simp only [push_cast, ↓reduceIte, Nat.reduceEqDiff, Int.reduceEq]), .inl ⟨fun hh => p1 hh.1, rfl, rfl⟩, bb⟩)
  simp (disch := first | with_reducible assumption | omega) only [push_cast, x_blk, x_cd, ↓reduceIte, Nat.reduceEqDiff, List.map_cons, List.map_nil, Int.reduceEq, Int.lt_irrefl, p1, k1.m1 ty_ag_3]
  refine call_of (row_Is (h1.below bb) c1 m.events (by omega)) ?_
  rintro v w3 ⟨rfl, s3⟩
  replace k1 := k1.same s3
  replace bb := bb.trans (s3.below _)
  by_cases p2 : IsRow seen m.events
  case neg =>
    simp (disch := first | with_reducible assumption | omega) only [push_cast, x_blk, x_cd, ↓reduceIte, Nat.reduceEqDiff, List.map_cons, List.map_nil, Int.reduceEq, Int.lt_irrefl, p2]
    exact fin_2 (hQ _ _ ⟨0, 2, (by simp only [push_cast, ↓reduceIte, Nat.reduceEqDiff, Int.reduceEq]), .inl ⟨fun hh => p2 hh.2.1, rfl, rfl⟩, bb⟩)
  simp (disch := first | with_reducible assumption | omega) only [push_cast, x_blk, x_cd, ↓reduceIte, Nat.reduceEqDiff, List.map_cons, List.map_nil, Int.reduceEq, Int.lt_irrefl, p2, k1.m1 ty_ag_3]
  refine call_of (row_Is (h2.below bb) c2 m.events (by omega)) ?_
  rintro v w4 ⟨rfl, s4⟩
  replace k1 := k1.same s4
  replace bb := bb.trans (s4.below _)
  by_cases p3 : IsRow faults m.events
  case neg =>
    simp (disch := first | with_reducible assumption | omega) only [push_cast, x_blk, x_cd, ↓reduceIte, Nat.reduceEqDiff, List.map_cons, List.map_nil, Int.reduceEq, Int.lt_irrefl, p3]
    exact fin_2 (hQ _ _ ⟨0, 2, (by simp only [push_cast, ↓reduceIte, Nat.reduceEqDiff, Int.reduceEq]), .inl ⟨fun hh => p3 hh.2.2, rfl, rfl⟩, bb⟩)
  by_cases p4 : m.states ≤ 6
  case neg =>
    have q4 : 6 < m.states := by omega
    simp (disch := first | with_reducible assumption | omega) only [push_cast, x_blk, x_cd, ↓reduceIte, Nat.reduceEqDiff, List.map_cons, List.map_nil, Int.reduceEq, Int.lt_irrefl, p3, k1.m0 ty_ag_3, q4]
    exact fin_2 (hQ _ _ ⟨0, 1, (by simp only [push_cast, ↓reduceIte, Nat.reduceEqDiff, Int.reduceEq]), .inr (.inl ⟨⟨p1, p2, p3⟩, p4, rfl, rfl⟩), bb⟩)
  have q4 : ¬ 6 < m.states := by omega
  simp (disch := first | with_reducible assumption | omega) only [push_cast, x_blk, x_cd, ↓reduceIte, Nat.reduceEqDiff, List.map_cons, List.map_nil, Int.reduceEq, Int.lt_irrefl, p3, k1.m0 ty_ag_3, q4, k1.mA ty_ag_25 ty_sz_25, e_makeMap]
  refine map_made (k := 52) _ ?_
  intro w5 m5 b5 z5
  have l1 := k1.lt
  replace k1 := k1.below b5 l1
  replace bb := bb.trans (b5.mono bb.size)
  generalize hgm : w4.heap.size = gm at *
  have hbw := fun {K : Fr → World → Prop} {u : World} {f : Fr} {d : Option Nat} {w : World} => bl_wat (K := K) (u := u) (f := f) (d := d) (w := w) ⟨a, m, A1, c1, seen, A2, c2, faults⟩ gm
  simp only at hbw
  simp (disch := first | with_reducible assumption | omega) only [push_cast, x_blk, x_cd, ↓reduceIte, Nat.reduceEqDiff, List.map_cons, List.map_nil, Int.reduceEq, Int.lt_irrefl, hbw]
  refine blk_of (box_agg _ (wCells ⟨a, m, A1, c1, seen, A2, c2, faults⟩ tos0 gm none 0 0)) ?_
  intro w6 k6 b6 z6
  replace k1 := k1.below b6 k1.lt
  have m6 := m5.below b6 m5.lt
  replace bb := bb.trans (b6.mono bb.size)
  have hgB : w.heap.size ≤ w5.heap.size := by have := b5.size; omega
  have hgmg : gm ≠ w5.heap.size := by have := m5.lt; omega
  have hgmB : w.heap.size < gm := l1
  have hg1 : w.heap.size < w5.heap.size := by have := m5.lt; omega
  generalize hgg : w5.heap.size = g at *
  generalize hv : (⟨a, m, A1, c1, seen, A2, c2, faults⟩ : WV) = v at *
  have hA4 : m.arrows.length ≤ 4096 := p1.2.2.2.2.1
  have ev0 : 0 ≤ m.events := p1.2.2.1
  have ev8 : m.events ≤ 8 := p1.2.2.2.1
  clear b5 b6 z5 z6 m5 hbw
  simp (disch := first | with_reducible assumption | omega) only [push_cast, x_blk, x_cd, ↓reduceIte, Nat.reduceEqDiff, List.map_cons, List.map_nil, Int.reduceEq, Int.lt_irrefl, k1.m3 ty_ag_23]
  refine loop_rule (fun f w' => ∃ (i : Nat) (tos : List Hd), i ≤ m.arrows.length ∧ (f 3 = .pointer (some ⟨w.heap.size, 0, none⟩) ∧ f 6 = .int .i64 0 ∧ f 7 = .int .i64 0 ∧ f 8 = .pointer (some ⟨g, 0, none⟩) ∧ f 47 = .slice a.Aa m.arrows.length a.ca ∧ f 48 = .int .i64 m.arrows.length ∧ f 49 = .int .i64 i) ∧
      TS w.heap.size w' m tos i ∧ Blk w' g 49 (wCells v tos gm none 0 0) ∧ MapIs Try.prog 52 w' gm [] ∧ Blk w' w.heap.size 25 (a.cells m) ∧ Below w.heap.size w w')
    (fun f _ => m.arrows.length - (intOf (f 49)).toNat) ⟨0, tos0, Nat.zero_le _, ⟨rfl, rfl, rfl, rfl, rfl, rfl, rfl⟩, TS.zero _ _ _, k6, m6, k1, bb⟩ ?_
  clear k6 m6 k1 bb z1 b1 b2 s3 s4
  rintro f w7 ⟨i, tos, hi, fr, T, k6, m6, k1, bb⟩ J hJ
  have hmu : (intOf (f 49)).toNat = i := by rw [fr.2.2.2.2.2.2]; simp [intOf]
  by_cases hil : i < m.arrows.length
  case pos =>
    have hilI : (i : Int) < (m.arrows.length : Int) := by omega
    have hAr := (h.up bb).arrows
    have sAr := hAr.isSome (by omega)
    have ha := may_atD p1 hil
    have lar := fun {K : Fr → World → Prop} {f : Fr} {d : Option Nat} {w : World} => hAr.ldA (P := Try.prog) (K := K) (f := f) (d := d) (w := w) ty_ag_42 ty_sz_42 i hil
    have hadd := fun {s e : Nat} {w' : World} {c' : Nat} {A' : Option Addr} {h : Hd} {w0 : World} (T : TS w.heap.size w0 m tos i) => T.add (w' := w') (s := s) (e := e) (c' := c') (A' := A') (h := h) hil
    generalize m.arrows.getD i default = ar at *
    simp (disch := first | with_reducible assumption | omega) only [push_cast, x_blk, x_cd, ↓reduceIte, Nat.reduceEqDiff, List.map_cons, List.map_nil, Int.reduceEq, Int.lt_irrefl, L_diagnose_Delay_3, fr, hilI, hil, lar]
    refine blk_of (cs := arrCells ⟨0, 0, 0⟩) al_42 ?_
    intro w8 k8 b8 z8
    have lk1 := k1.lt
    have lm6 := m6.lt
    have lk6 := k6.lt
    replace T := T.below b8
    replace k6 := k6.below b8 lk6
    replace m6 := m6.below b8 lm6
    replace k1 := k1.below b8 lk1
    have zw7 := bb.size
    replace bb := bb.trans (b8.mono bb.size)
    simp (disch := first | with_reducible assumption | omega) only [push_cast, x_blk, x_cd, ↓reduceIte, Nat.reduceEqDiff, List.map_cons, List.map_nil, Int.reduceEq, Int.lt_irrefl]
    refine sto_blk (cs := arrCells ar) k8 ty_sz_42 rfl (by simp [arrCells, Value.oneCell']) ?_
    intro w9 k9 g9 z9
    replace T := T.grewB k8 (by decide) g9
    replace k6 := k6.grown g9.by_ (by simp; omega)
    replace m6 := m6.grown g9.by_ (by simp; omega)
    replace k1 := k1.grown g9.by_ (by simp; omega)
    replace bb := g9.below bb bb.size (by intro a ha; injection ha with ha; subst ha; exact zw7)
    have dd : Same w9 w9.drew := (Same.refl w9).drew
    replace T := T.below (dd.below _)
    replace k6 := k6.same dd
    replace m6 := m6.same dd
    replace k1 := k1.same dd
    replace k9 := k9.same dd
    replace bb := bb.trans (dd.below _)
    generalize hud : w9.drew = u at *
    obtain ⟨s, hs⟩ : ∃ s : Nat, ar.frm = (s : Int) := ⟨ar.frm.toNat, by have := ha.1; omega⟩
    obtain ⟨e, he⟩ : ∃ e : Nat, ar.evt = (e : Int) := ⟨ar.evt.toNat, by have := ha.2.2; omega⟩
    have hs6 : s < 6 := by have := ha.1; omega
    have he8 : e < 8 := by have := ha.2.2; omega
    obtain ⟨hd, hdt, hdl⟩ := T.val s e hs6 he8
    have oh := T.own _ _ hdt
    have hll : hd.l.length ≤ 4096 := by
      rw [hdl]; unfold toUpto
      rw [List.length_map]
      exact Nat.le_trans (List.length_filter_le _ _) (by rw [List.length_take]; omega)
    have hT22 : Try.prog.underlying 22 = some (.slice 3) := by kernel_rfl
    have la0 := fun {K : Fr → World → Prop} {f : Fr} {d : Option Nat} {w : World} => k9.ldE (P := Try.prog) (K := K) (f := f) (d := d) (w := w) hT22 (by decide) ty_ag_3 (j := 0) (v := .int .i64 ar.frm) rfl
    have la1 := fun {K : Fr → World → Prop} {f : Fr} {d : Option Nat} {w : World} => k9.ldE (P := Try.prog) (K := K) (f := f) (d := d) (w := w) hT22 (by decide) ty_ag_3 (j := 1) (v := .int .i64 ar.evt) rfl
    have la2 := fun {K : Fr → World → Prop} {f : Fr} {d : Option Nat} {w : World} => k9.ldE (P := Try.prog) (K := K) (f := f) (d := d) (w := w) hT22 (by decide) ty_ag_3 (j := 2) (v := .int .i64 ar.to_) rfl
    rw [hs] at la0
    rw [he] at la1
    have lt := fun {K : Fr → World → Prop} {f : Fr} {d : Option Nat} {w : World} => k6.ldE (P := Try.prog) (K := K) (f := f) (d := d) (w := w) hT22 (by decide) ty_ag_22 (wC_to hdt)
    simp only [← Nat.add_assoc, hdV] at lt
    simp (disch := first | with_reducible assumption | omega) only [push_cast, x_blk, x_cd, ↓reduceIte, Nat.reduceEqDiff, List.map_cons, List.map_nil, Int.reduceEq, Int.lt_irrefl, fr, hud, la0, la1, la2, hs6, he8, lt, bs_22]
    refine ⟨BelowE.of_below ((Below.refl _ _).alloc (Nat.le_refl _) _), ?_⟩
    refine app_int slT_22 oh ar.to_ (by omega) bb.size ?_
    intro A' c' w10 o10 g10 hA10 hs10 hz10
    have k60 := k6.grown g10.by_ (fun e => oh.ne_blk k6 (by decide) e.symm)
    have m60 := m6.grown g10.by_ (m6.ne_own oh)
    have k10 := k1.grown g10.by_ (fun e => oh.ne_blk k1 (by decide) e.symm)
    have bb10 := g10.below bb bb.size oh.geB
    have T10 := hadd T hs6 he8 ⟨hs, he⟩ hdt o10 g10 hA10
    simp (disch := first | with_reducible assumption | omega) only [push_cast, x_blk, x_cd, ↓reduceIte, Nat.reduceEqDiff, List.map_cons, List.map_nil, Int.reduceEq, Int.lt_irrefl, fr, he8]
    refine ⟨BelowE.grew oh hT22 g10, ?_⟩
    have h48 : s * 8 + e < tos.length := by rw [T.t48]; omega
    refine sto_slice k60 (by kernel_rfl) (7 + s * 8 + e) (by rw [wC_len T.t48]; omega) _ _ _ ?_
    intro w11 k11 g11 z11
    have hcl : (Value.slice A' (hd.l.length + 1) c') = hdV ⟨A', c', hd.l ++ [ar.to_]⟩ := by simp [hdV]
    rw [hcl, Nat.add_assoc, wC_setTo h48] at k11
    have T11 := T10.grewB k60 (by decide) g11
    have m11 := m60.grown g11.by_ (by simpa using hgmg)
    have k12 := k10.grown g11.by_ (by simp; omega)
    have bb11 := g11.below bb10 bb10.size (by intro a ha; injection ha with ha; subst ha; exact hgB)
    simp (disch := first | with_reducible assumption | omega) only [push_cast, x_blk, x_cd, ↓reduceIte, Nat.reduceEqDiff, List.map_cons, List.map_nil, Int.reduceEq, Int.lt_irrefl, fr]
    exact hJ _ _ ⟨i + 1, _, by omega, (by simp only [push_cast, ↓reduceIte, Nat.reduceEqDiff, true_and, and_true, and_self, eq_self, fr]), T11, k11, m11, k12, bb11⟩ (by rw [hmu]; simp only [push_cast, ↓reduceIte, Nat.reduceEqDiff, intOf, fr]; omega)
  obtain rfl : i = m.arrows.length := by omega
  have htos : TosOk m tos := fun s e hs he => by
    obtain ⟨h, h1, h2⟩ := T.val s e hs he
    exact ⟨h, h1, by rw [h2, toUpto_all p1]⟩
  have hws : WS w.heap.size w7 g gm v tos none 0 [] [] := ⟨k6, T.t48, m6, Own.nil _ _ _ _, fun x hx => by
    obtain ⟨k, hk, rfl⟩ := List.getElem_of_mem hx
    exact OwnI.tyb (T.own k _ (List.getElem?_eq_getElem hk)) (by decide), hgB, Nat.le_of_lt hgmB⟩
  have hva : v.a = a := by rw [← hv]
  have hvm : v.m = m := by rw [← hv]
  have hvs : v.seen = seen := by rw [← hv]
  have hvf : v.faults = faults := by rw [← hv]
  have hP0 : PSt w g gm v tos (stUp m 0 0) w7 [] [] none 0 := ⟨hws, by rw [hva, hvm]; exact k1, .nil, fun p hp => absurd hp (by simp), Nat.le_refl _, bb⟩
  have nS := row_lenM ((may_starts p1).more p4)
  have wg : w.heap.size ≠ g := by omega
  have wgm : w.heap.size ≠ gm := by omega
  have nA : ¬ (m.arrows.length : Int) < (m.arrows.length : Int) := by omega
  simp (disch := first | with_reducible assumption | omega) only [push_cast, x_blk, x_cd, ↓reduceIte, Nat.reduceEqDiff, List.map_cons, List.map_nil, Int.reduceEq, Int.lt_irrefl, L_diagnose_Delay_3, fr, nA, k1.m2 ty_ag_22]
  refine loop_rule (fun f w' => ∃ (i : Nat) (M : List (Tw × Nat)) (W : List Tw) (Aw : Option Addr) (cw : Nat), i ≤ m.starts.length ∧ (f 3 = .pointer (some ⟨w.heap.size, 0, none⟩) ∧ f 6 = .int .i64 0 ∧ f 7 = .int .i64 0 ∧ f 8 = .pointer (some ⟨g, 0, none⟩) ∧ f 78 = .slice a.As m.starts.length a.cs ∧ f 79 = .int .i64 m.starts.length ∧ f 80 = .int .i64 i) ∧
      PSt w g gm v tos (stUp m i 0) w' M W Aw cw)
    (fun f _ => m.starts.length - (intOf (f 80)).toNat) ⟨0, [], [], none, 0, Nat.zero_le _, (by simp only [push_cast, ↓reduceIte, Nat.reduceEqDiff, true_and, and_true, and_self, eq_self, fr, fr]), hP0⟩ ?_
  clear hP0 hws k6 m6 k1 bb T fr hJ hmu hil
  rintro f w8 ⟨i, M, W, Aw, cw, hi, fr, S⟩ J hJ
  have hmu : (intOf (f 80)).toNat = i := by rw [fr.2.2.2.2.2.2]; simp [intOf]
  by_cases hil : i < m.starts.length
  case pos =>
    have hilI : (i : Int) < (m.starts.length : Int) := by omega
    have hS := (h.up S.bl).starts
    have sS := hS.isSome (by omega)
    have li := fun {K : Fr → World → Prop} {f : Fr} {d : Option Nat} {w : World} => hS.ld (P := Try.prog) (K := K) (f := f) (d := d) (w := w) ty_ag_3 i hil
    have kM : Blk w8 w.heap.size 25 (a.cells m) := by have := S.mb; rw [hva, hvm] at this; exact this
    have hsi := start_i64 p1 (getD_mem m.starts 0 i hil)
    simp (disch := first | with_reducible assumption | omega) only [push_cast, x_blk, x_cd, ↓reduceIte, Nat.reduceEqDiff, List.map_cons, List.map_nil, Int.reduceEq, Int.lt_irrefl, L_diagnose_Delay_2, fr, hilI, hil, li, kM.m2 ty_ag_22]
    refine loop_rule (fun f' w' => ∃ (j : Nat) (M : List (Tw × Nat)) (W : List Tw) (Aw : Option Addr) (cw : Nat), j ≤ m.starts.length ∧ (f' 3 = .pointer (some ⟨w.heap.size, 0, none⟩) ∧ f' 6 = .int .i64 0 ∧ f' 7 = .int .i64 0 ∧ f' 8 = .pointer (some ⟨g, 0, none⟩) ∧ f' 78 = .slice a.As m.starts.length a.cs ∧ f' 79 = .int .i64 m.starts.length ∧ f' 80 = .int .i64 i ∧ f' 12 = .int .i64 (m.starts.getD i 0) ∧ f' 85 = .slice a.As m.starts.length a.cs ∧ f' 86 = .int .i64 m.starts.length ∧ f' 87 = .int .i64 j) ∧
        PSt w g gm v tos (stUp m i j) w' M W Aw cw)
      (fun f' _ => m.starts.length - (intOf (f' 87)).toNat) ⟨0, M, W, Aw, cw, Nat.zero_le _, (by simp only [push_cast, ↓reduceIte, Nat.reduceEqDiff, true_and, and_true, and_self, eq_self, fr, fr]), S⟩ ?_
    clear S fr li kM hS sS
    rintro f w8 ⟨j, M, W, Aw, cw, hj, fr, S⟩ J2 hJ2
    have hmu2 : (intOf (f 87)).toNat = j := by rw [fr.2.2.2.2.2.2.2.2.2.2]; simp [intOf]
    by_cases hjl : j < m.starts.length
    case neg =>
      obtain rfl : j = m.starts.length := by omega
      rw [stUp_next hil] at S
      simp (disch := first | with_reducible assumption | omega) only [push_cast, x_blk, x_cd, ↓reduceIte, Nat.reduceEqDiff, List.map_cons, List.map_nil, Int.reduceEq, Int.lt_irrefl, L_diagnose_Delay_1, fr, Int.lt_irrefl]
      exact hJ _ _ ⟨i + 1, M, W, Aw, cw, by omega, (by simp only [push_cast, ↓reduceIte, Nat.reduceEqDiff, true_and, and_true, and_self, eq_self, fr]), S⟩ (by rw [hmu]; simp only [push_cast, ↓reduceIte, Nat.reduceEqDiff, intOf, fr]; omega)
    have hjlI : (j : Int) < (m.starts.length : Int) := by omega
    have hS := (h.up S.bl).starts
    have sS := hS.isSome (by omega)
    have lj := fun {K : Fr → World → Prop} {f : Fr} {d : Option Nat} {w : World} => hS.ld (P := Try.prog) (K := K) (f := f) (d := d) (w := w) ty_ag_3 j hjl
    have hsj := start_i64 p1 (getD_mem m.starts 0 j hjl)
    have hlen := stUp_len m i j
    have hl36 : i * m.starts.length ≤ 6 * 6 := Nat.mul_le_mul (by omega) (by omega)
    have hSl := S.len
    simp (disch := first | with_reducible assumption | omega) only [push_cast, x_blk, x_cd, ↓reduceIte, Nat.reduceEqDiff, List.map_cons, List.map_nil, Int.reduceEq, Int.lt_irrefl, L_diagnose_Delay_1, fr, hjlI, hjl, lj, bl_twp]
    refine call_of (dia_comes S.ws S.bl.size (by omega) S.ok (x := (m.starts.getD i 0, m.starts.getD j 0, false)) ⟨hsi, hsj⟩ (n := 0) (by omega)) ?_
    rintro r w9 ⟨M2, W2, Aw2, cw2, rfl, hc, hws2, b9, hk9, hm9⟩
    have S2 := S.come wg wgm hc hws2 hk9 b9 ⟨hsi, hsj⟩
    rw [← stUp_succ hjl] at S2
    simp (disch := first | with_reducible assumption | omega) only [push_cast, x_blk, x_cd, ↓reduceIte, Nat.reduceEqDiff, List.map_cons, List.map_nil, Int.reduceEq, Int.lt_irrefl, fr]
    exact hJ2 _ _ ⟨j + 1, M2, W2, Aw2, cw2, by omega, (by simp only [push_cast, ↓reduceIte, Nat.reduceEqDiff, true_and, and_true, and_self, eq_self, fr]), S2⟩ (by rw [hmu2]; simp only [push_cast, ↓reduceIte, Nat.reduceEqDiff, intOf, fr]; omega)
  obtain rfl : i = m.starts.length := by omega
  have hD : DInv (StW m) (EdW m seen faults) FW (2 * m.states.toNat * m.states.toNat + 1) M W (-1) := DInv.first S.cm fun u k => by
    rw [List.mem_map]
    constructor
    · rintro ⟨y, hy, he⟩
      injection he with h1 h2
      exact ⟨by rw [← h1]; exact mem_stUp.1 hy, h2.symm⟩
    · rintro ⟨hu, rfl⟩; exact ⟨u, mem_stUp.2 hu, rfl⟩
  have hWM : W.length ≤ tot M := by
    have := (S.cm.all (St := StW m) (E := EdW m seen faults) (B := 0) ⟨by simp, fun p hp => absurd hp (by simp), fun p hp => absurd hp (by simp), fun x hx => absurd hx (by simp)⟩ fun p hp => by
      obtain ⟨y, hy, rfl⟩ := List.mem_map.1 hp
      exact ⟨Wk.start (mem_stUp.1 hy), Nat.le_refl _⟩).2.2.2.2.2.1
    simp [tot] at this ⊢
    omega
  simp (disch := first | with_reducible assumption | omega) only [push_cast, x_blk, x_cd, ↓reduceIte, Nat.reduceEqDiff, List.map_cons, List.map_nil, Int.reduceEq, Int.lt_irrefl, L_diagnose_Delay_2, fr, Int.lt_irrefl]
  refine loop_ix (fun n f w' => ∃ (M : List (Tw × Nat)) (W : List Tw) (Aw : Option Addr) (cw : Nat) (most : Int), n = 2 * (6000 - tot M) + W.length ∧ (-1 ≤ most ∧ most ≤ 73) ∧ (f 3 = .pointer (some ⟨w.heap.size, 0, none⟩) ∧ f 8 = .pointer (some ⟨g, 0, none⟩) ∧ f 15 = .int .i64 most) ∧
      DInv (StW m) (EdW m seen faults) FW (2 * m.states.toNat * m.states.toNat + 1) M W most ∧ W.length ≤ tot M ∧ WS w.heap.size w' g gm v tos Aw cw M W ∧ Blk w' w.heap.size 25 (a.cells m) ∧ Below w.heap.size w w')
    (n0 := 2 * (6000 - tot M) + W.length) ⟨M, W, Aw, cw, -1, rfl, ⟨by omega, by omega⟩, (by simp only [push_cast, ↓reduceIte, Nat.reduceEqDiff, true_and, and_true, and_self, eq_self, fr, fr]), hD, hWM, S.ws, by have := S.mb; rw [hva, hvm] at this; exact this, S.bl⟩ ?_
  clear S fr hD hWM hJ hmu hil hi M W Aw cw
  rintro _ f w8 ⟨M, W, Aw, cw, most, rfl, hm1, fr, hD, hWM, S, kM, bb⟩ J hJ
  obtain ⟨htot, hok, hb73⟩ := hD.small p1 p4
  have lw := fun {K : Fr → World → Prop} {f : Fr} {d : Option Nat} {w : World} => S.blk.ldq (P := Try.prog) (K := K) (f := f) (d := d) (w := w) ty_ag_47 (wC_56 S.t48)
  have hgw := S.blk.lt
  have hgmw := S.map.lt
  rcases List.eq_nil_or_concat W with rfl | ⟨W0, x, rfl⟩
  · simp (disch := first | with_reducible assumption | omega) only [push_cast, x_blk, x_cd, ↓reduceIte, Nat.reduceEqDiff, List.map_cons, List.map_nil, Int.reduceEq, Int.lt_irrefl, L_diagnose_Delay_0, fr, lw, List.length_nil]
    exact fin_2 (hQ _ _ ⟨most + 1, 0, (by simp only [push_cast, ↓reduceIte, Nat.reduceEqDiff, Int.reduceEq, fr]), .inr (.inr ⟨⟨p1, p2, p3⟩, p4, rfl, hD.done⟩), bb⟩)
  rw [List.concat_eq_append] at hD hWM S lw hJ
  have hwl : (W0 ++ [x]).length = W0.length + 1 := by simp
  rw [hwl] at hWM lw
  obtain ⟨n, hxn⟩ := hD.good.work x (by simp)
  have hn73 := hb73 _ hxn
  simp only at hn73
  have hwk := hD.good.real _ hxn
  have hxi := wkW_in p1 hwk
  have hx64 := inW_i64 p1 hxi
  have hpos : (0 : Int) < (W0.length : Int) + 1 := by omega
  have d8 : Same w8 w8.drew := (Same.refl w8).drew
  have S1 := S.below (d8.below _)
  have kM1 := kM.same d8
  have bb1 := bb.trans (d8.below _)
  generalize hud : w8.drew = u at *
  have lw1 := fun {K : Fr → World → Prop} {f : Fr} {d : Option Nat} {w : World} => S1.blk.ldq (P := Try.prog) (K := K) (f := f) (d := d) (w := w) ty_ag_47 (wC_56 S.t48)
  rw [hwl] at lw1
  have hR := Recs.lt twpEnc (by decide) (OwnR.recs S1.row twpEnc (by decide))
  have sA := hR.isSome (by omega)
  have hat : (W0 ++ [x])[W0.length]? = some x := by rw [List.getElem?_append_right (Nat.le_refl _)]; simp
  have lx := fun {K : Fr → World → Prop} {f : Fr} {d : Option Nat} {w' : World} => hR.ldAll (P := Try.prog) (K := K) (f := f) (d := d) (w := w') twpEnc ty_ag_52 hat ty_sz_52
  have hsub : (W0.length : Int) + 1 - 1 = (W0.length : Int) := by omega
  have hlt1 : W0.length < W0.length + 1 := by omega
  simp (disch := first | with_reducible assumption | omega) only [push_cast, x_blk, x_cd, ↓reduceIte, Nat.reduceEqDiff, List.map_cons, List.map_nil, Int.reduceEq, Int.lt_irrefl, L_diagnose_Delay_0, fr, lw, hpos, hud, lw1, hsub, lx, hlt1]
  refine blk_of (cs := twP (0, 0, false)) al_52 ?_
  intro w9 k9 b9 z9
  simp (disch := first | with_reducible assumption | omega) only [push_cast, x_blk, x_cd, ↓reduceIte, Nat.reduceEqDiff, List.map_cons, List.map_nil, Int.reduceEq, Int.lt_irrefl]
  refine ⟨b9, ?_⟩
  have S2 := S1.below b9
  have kM2 := kM1.below b9 kM1.lt
  have bb2 := bb1.trans (b9.mono bb1.size)
  have hub : w.heap.size ≤ u.heap.size := bb1.size
  refine sto_blk (cs := twP x) k9 (twp_sz x) rfl (by simp [twP, Value.oneCell']) ?_
  intro w10 k10 g10 z10
  have hgu : g < u.heap.size := S1.blk.lt
  have hgmu : gm < u.heap.size := S1.map.lt
  have hAu : Aw.map (·.block) ≠ some u.heap.size := fun e => by have := S1.row.ltB (b := u.heap.size) e.symm; omega
  have blk3 := S2.blk.grown g10.by_ (by simp; omega)
  have map3 := S2.map.grown g10.by_ (by simp; omega)
  have row3 := S2.row.grew g10 (.inr (by simpa using hAu))
  have kt3 := KeepT.grewB (es := [3]) (B := w.heap.size) k9 hub (by decide) g10
  have kM3 := kM2.grown g10.by_ (by simp; omega)
  have bb3 := g10.below bb2 bb2.size (by intro a ha; injection ha with ha; subst ha; exact hub)
  have hqk := k10.lt
  have d10 : Same w10 w10.drew := (Same.refl w10).drew
  replace blk3 := blk3.same d10
  replace map3 := map3.same d10
  replace row3 := row3.same d10
  replace kt3 := kt3.trans (KeepT.same d10)
  replace kM3 := kM3.same d10
  replace k10 := k10.same d10
  replace bb3 := bb3.trans (d10.below _)
  generalize hud2 : w10.drew = u2 at *
  have lw3 := fun {K : Fr → World → Prop} {f : Fr} {d : Option Nat} {w : World} => blk3.ldq (P := Try.prog) (K := K) (f := f) (d := d) (w := w) ty_ag_47 (wC_56 S.t48)
  rw [hwl] at lw3
  have hcap := row3.cap
  rw [hwl] at hcap
  have hcap' : W0.length ≤ cw := by omega
  have hsl := fun {K : Fr → World → Prop} {f : Fr} {d : Option Nat} {w : World} => slice_head (P := Try.prog) (K := K) (u := u2) (w := w) (f := f) (d := d) (A := Aw) (n := W0.length + 1) slT_47 W0.length hcap'
  simp (disch := first | with_reducible assumption | omega) only [push_cast, x_blk, x_cd, ↓reduceIte, Nat.reduceEqDiff, List.map_cons, List.map_nil, Int.reduceEq, Int.lt_irrefl, fr, hud2, lw3, hsub, v_slice, Option.map_none, Option.map_some, hsl]
  refine sto_slice blk3 (by kernel_rfl) 56 (by rw [wC_len S.t48]; decide) _ _ _ ?_
  intro w11 k11 g11 z11
  rw [wC_set S.t48] at k11
  have row4 : OwnR twP w.heap.size 52 3 w11 Aw cw W0 := by
    have h1 := (row3.take (k := W0.length) (by rw [hwl]; omega) (by rw [hwl]; omega)).grew g11 (.inr (row3.ne_blk blk3 (by decide)))
    have h2 : ((W0 ++ [x]).flatMap twP).take (W0.length * 3) = W0.flatMap twP := by
      rw [List.flatMap_append, List.take_left' (flatMap_len twpEnc W0)]
    rw [h2] at h1
    exact h1
  have kt4 := kt3.trans (KeepT.grewB (es := [3]) (B := w.heap.size) blk3 hgB (by decide) g11)
  have map4 := map3.grown g11.by_ (by simpa using hgmg)
  have kM4 := kM3.grown g11.by_ (by simpa using wg)
  have k12 := k10.grown g11.by_ (by simp; omega)
  have bb4 := g11.below bb3 bb3.size (by intro a ha; injection ha with ha; subst ha; exact hgB)
  have S4 : WS w.heap.size w11 g gm v tos Aw cw M W0 := ⟨k11, S.t48, map4, row4, fun hd hh => (S2.to_ hd hh).keepT kt4, hgB, Nat.le_of_lt hgmB⟩
  have d11 : Same w11 w11.drew := (Same.refl w11).drew
  replace S4 := S4.below (d11.below _)
  replace kM4 := kM4.same d11
  replace k12 := k12.same d11
  replace bb4 := bb4.trans (d11.below _)
  clear row4 kt4 map4 k11 blk3 map3 row3 kt3 kM3 k10 bb3 S2 kM2 bb2 lw3 hsl S1 kM1 bb1 lw1 hR lx S kM bb
  generalize hud3 : w11.drew = u3 at *
  have lmap := fun {K : Fr → World → Prop} {f : Fr} {d : Option Nat} {w : World} => S4.blk.ldq (P := Try.prog) (K := K) (f := f) (d := d) (w := w) (ty := 44) (by kernel_rfl) (wC_55 S4.t48)
  have lq := fun {K : Fr → World → Prop} {f : Fr} {d : Option Nat} {w : World} => k12.ldAll (P := Try.prog) (K := K) (f := f) (d := d) (w := w) ty_ag_52 (twp_sz x)
  simp (disch := first | with_reducible assumption | omega) only [push_cast, x_blk, x_cd, ↓reduceIte, Nat.reduceEqDiff, List.map_cons, List.map_nil, Int.reduceEq, Int.lt_irrefl, fr, hud3, lmap, lq]
  have hmt : Try.prog.underlying 44 = some (.map 52 3) := Try.underlying44
  have hzi : (Try.prog.info? 3).map (·.zero) = some (some (.int .i64 0)) := by kernel_rfl
  refine map_look keyed_tw hmt hzi false S4.map (key_tw hx64) (fun r hr => ?_) fun hno => absurd rfl (kvM_none hno _ hxn)
  obtain ⟨n', hin, rfl⟩ := mem_kvM hr
  obtain rfl := hD.good.one hxn hin
  have hNN : ((2 * m.states.toNat * m.states.toNat : Nat) : Int) = 2 * m.states * m.states := by
    have : ((m.states.toNat : Nat) : Int) = m.states := by have := p1.1; omega
    rw [Int.natCast_mul, Int.natCast_mul, this]; rfl
  have hN72 : 2 * m.states.toNat * m.states.toNat ≤ 72 := by
    have h1 : m.states.toNat ≤ 6 := by omega
    have h2 : 2 * m.states.toNat * m.states.toNat ≤ 2 * 6 * 6 := Nat.mul_le_mul (by omega) h1
    omega
  have hst1 := p1.1
  have hm0 : 0 ≤ 2 * m.states * m.states := by omega
  have hm72 : 2 * m.states * m.states ≤ 72 := by omega
  have g0 : CGood (StW m) (EdW m seen faults) (2 * m.states.toNat * m.states.toNat + 1) M W0 := ⟨hD.good.keys, hD.good.real, hD.good.bnd, fun y hy => hD.good.work y (List.mem_append_left _ hy)⟩
  obtain ⟨most', hmo⟩ : ∃ most' : Int, most' = if x.2.2 = true then max most n else most := ⟨_, rfl⟩
  have hmost : (FW x ∧ most' = max most n) ∨ (¬ FW x ∧ most' = most) := by
    by_cases c : x.2.2 = true
    · rw [if_pos c] at hmo; exact .inl ⟨c, hmo⟩
    · rw [if_neg c] at hmo; exact .inr ⟨c, hmo⟩
  have hm2 : -1 ≤ most' ∧ most' ≤ 73 := by
    rcases hmost with ⟨_, h⟩ | ⟨_, h⟩
    · rw [h]; omega
    · omega
  have hgo : ∀ (c : ¬ (2 * m.states * m.states < (n : Int))), Cal Try.prog 20 [.pointer (some ⟨g, 0, none⟩), twV x, .int .i64 n] u3 fun r w' => ∃ (M' : List (Tw × Nat)) (W' : List Tw) (Aw' : Option Addr) (cw' : Nat), r = .tuple #[] ∧
      DInv (StW m) (EdW m seen faults) FW (2 * m.states.toNat * m.states.toNat + 1) M' W' most' ∧ W'.length ≤ tot M' ∧ 2 * (6000 - tot M') + W'.length < 2 * (6000 - tot M) + (W0.length + 1) ∧ WS w.heap.size w' g gm v tos Aw' cw' M' W' ∧ Blk w' w.heap.size 25 (a.cells m) ∧ Below w.heap.size w w' := fun c => by
    have hb : ∀ u c, EdW m seen faults x u c → n + c ≤ 2 * m.states.toNat * m.states.toNat + 1 := fun u c he => by have := edW_one _ _ _ he; omega
    refine (dia_goes S4 bb4.size (by omega) hok (by rw [hvm]; exact p1) (by rw [hvm]; exact p4) (by rw [← hv]; exact h1.below bb4) (by rw [hvs]; exact n1) (by rw [← hv]; exact h2.below bb4) (by rw [hvf]; exact n2) (by rw [hvm]; exact htos) (x := x) (by rw [hvm]; exact hxi) (n := n) (by omega)).mono ?_
    rintro r w12 ⟨M', W', Aw', cw', rfl, hc, hws', hok', b12, hk12, hm12, hl12⟩
    rw [hvm, hvs, hvf] at hc
    have hcs : ∀ u k, (u, k) ∈ callsOf n (leadsL m seen faults x m.events.toNat) ↔ ∃ c, EdW m seen faults x u c ∧ k = n + c := fun u k => by
      unfold callsOf EdW
      rw [List.mem_map]
      constructor
      · rintro ⟨⟨y, b⟩, hy, he⟩
        injection he with e1 e2
        exact ⟨cnt b, ⟨b, by rw [← e1]; exact hy, rfl⟩, e2.symm⟩
      · rintro ⟨c, ⟨b, hb, rfl⟩, rfl⟩
        exact ⟨(u, b), hb, rfl⟩
    have hD' := hD.next hxn hmost hc hcs hb
    obtain ⟨_, _, _, _, _, t1, t2⟩ := hc.all g0 fun p hp => by
      obtain ⟨c, he, hk⟩ := (hcs p.1 p.2).1 hp
      exact ⟨hk ▸ hwk.step he, hk ▸ hb _ _ he⟩
    have ht' := (hD'.small p1 p4).1
    exact ⟨M', W', Aw', cw', rfl, hD', by omega, by omega, hws', hk12.blk kM4 wg wgm (fun e => S4.row.ne_blk kM4 (by decide) e.symm), bb4.trans b12⟩
  have hround : 2 * m.states * m.states < (n : Int) → DelIs m seen faults (-1) := fun c =>
    delay_round (codeW m.states.toNat) (2 * m.states.toNat * m.states.toNat) (fun t k hw => codeW_lt (wkW_in p1 hw)) (fun t u k k' hw hw' e => codeW_inj (wkW_in p1 hw) (wkW_in p1 hw') e) (fun t u c he => edW_one t u c he) (fun u c k hp hc => pthW_round u c k hp hc) hwk (by omega)
  have kst := fun {K : Fr → World → Prop} {f : Fr} {d : Option Nat} {w : World} => kM4.m0 (P := Try.prog) (K := K) (f := f) (d := d) (w := w) ty_ag_3
  by_cases hxf : x.2.2 = true
  case' pos =>
    rw [if_pos hxf] at hmo
    simp (disch := first | with_reducible assumption | omega) only [push_cast, x_blk, x_cd, ↓reduceIte, Nat.reduceEqDiff, List.map_cons, List.map_nil, Int.reduceEq, Int.lt_irrefl, k12.tw2, hxf]
  case' neg =>
    rw [if_neg hxf] at hmo
    have hxf' : x.2.2 = false := by simpa using hxf
    simp (disch := first | with_reducible assumption | omega) only [push_cast, x_blk, x_cd, ↓reduceIte, Nat.reduceEqDiff, List.map_cons, List.map_nil, Int.reduceEq, Int.lt_irrefl, k12.tw2, hxf']
  all_goals
    have hms : (2 : Int) * m.states ≤ 12 := by omega
    by_cases c : 2 * m.states * m.states < (n : Int)
    case pos =>
      simp (disch := first | with_reducible assumption | omega) only [push_cast, x_blk, x_cd, ↓reduceIte, Nat.reduceEqDiff, List.map_cons, List.map_nil, Int.reduceEq, Int.lt_irrefl, fr, kst, c]
      exact fin_2 (hQ _ _ ⟨-1, 0, (by simp only [push_cast, ↓reduceIte, Nat.reduceEqDiff, Int.reduceEq, fr]), .inr (.inr ⟨⟨p1, p2, p3⟩, p4, rfl, hround c⟩), bb4⟩)
    case neg =>
      simp (disch := first | with_reducible assumption | omega) only [push_cast, x_blk, x_cd, ↓reduceIte, Nat.reduceEqDiff, List.map_cons, List.map_nil, Int.reduceEq, Int.lt_irrefl, fr, kst, c, lq]
      refine call_of (hgo c) ?_
      rintro r w12 ⟨M', W', Aw', cw', rfl, hD', hW', hlt, hws', kM', bb'⟩
      simp (disch := first | with_reducible assumption | omega) only [push_cast, x_blk, x_cd, ↓reduceIte, Nat.reduceEqDiff, List.map_cons, List.map_nil, Int.reduceEq, Int.lt_irrefl, fr]
      exact hJ _ _ _ ⟨M', W', Aw', cw', most', rfl, hm2, (by simp only [push_cast, ↓reduceIte, Nat.reduceEqDiff, true_and, and_true, and_self, eq_self, fr, hmo]), hD', hW', hws', kM', bb'⟩ (by rw [hwl]; omega)
end Go.Proofs.Ytfckamjbeplceaa
