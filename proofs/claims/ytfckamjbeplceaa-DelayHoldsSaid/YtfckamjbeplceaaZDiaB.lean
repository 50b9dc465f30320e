/-
  Chapter 13: the program's watcher: goes, by its contract.
-/
import Derived.Test.YtfckamjbeplceaaZDia
namespace Go.Proofs.Ytfckamjbeplceaa
set_option linter.unusedSimpArgs false
set_option linter.unusedVariables false
set_option linter.unusedSectionVars false
open Go.RowKit

/-- What is come to from a place that is in fault for so long. -/
def callsOf (n : Nat) (ls : List (Tw × Bool)) : List (Tw × Nat) := ls.map fun p => (p.1, n + cnt p.2)
theorem callsOf_len (n : Nat) (a : List (Tw × Bool)) : (callsOf n a).length = a.length := List.length_map _
theorem Come.all {P : Tw × Nat → Prop} {M M' : List (Tw × Nat)} {W W' : List Tw} {x : Tw} {n : Nat} (h : Come M W x n M' W') (h0 : ∀ p ∈ M, P p) (h1 : P (x, n)) : ∀ p ∈ M', P p := by
  cases h with
  | no _ _ => exact h0
  | new _ => intro p hp; rcases List.mem_append.1 hp with hp | hp; exact h0 p hp; rw [List.mem_singleton.1 hp]; exact h1
  | more _ _ => intro p hp; rcases List.mem_or_eq_of_mem_set hp with hp | rfl; exact h0 p hp; exact h1
theorem Come.len {M M' : List (Tw × Nat)} {W W' : List Tw} {x : Tw} {n : Nat} (h : Come M W x n M' W') : W'.length ≤ W.length + 1 := by
  cases h <;> simp
def WOk (M : List (Tw × Nat)) : Prop := ∀ p ∈ M, TwI64 p.1 ∧ p.2 ≤ 1000
/-- Where each state and event leads to, as it lies. -/
def TosOk (m : Mach) (tos : List Hd) : Prop := ∀ s e : Nat, s < 6 → e < 8 → ∃ h : Hd, tos[s * 8 + e]? = some h ∧ h.l = stepL m [(s : Int)] (e : Int)
theorem inW_i64 {m : Mach} (hm : m.May) {x : Tw} (h : InW m x) : TwI64 x := by
  have := hm.2.1
  obtain ⟨⟨h1, h2⟩, h3, h4⟩ := h
  unfold TwI64 I64; omega
theorem blt_twp : builtPl Try.prog 52 = some ([(0, 1), (1, 1), (2, 1)], [.int .i64 0, .int .i64 0, .bool false]) := by kernel_rfl
theorem bl_twp {K : Fr → World → Prop} {u : World} {f : Fr} {d : Option Nat} {w : World} (x y : Int) (b : Bool) :
    Val1 Try.prog K (Instr.build 52 #[(0, .int .i64 x), (1, .int .i64 y), (2, .bool b)]) u f d w = K (updO f d (twV (x, y, b))) w := by
  have := bld_3 (P := Try.prog) (K := K) (u := u) (f := f) (d := d) (w := w) blt_twp rfl rfl rfl rfl (v0 := .int .i64 x) (v1 := .int .i64 y) (v2 := .bool b) rfl rfl rfl
  rw [this]; rfl
section
variable {K : Fr → World → Prop} {u w : World} {f : Fr} {d : Option Nat} {g t : Nat} {x : Tw}
theorem Blk.tw0 (h : Blk u g t (twP x)) : Val1 Try.prog K (Instr.loadAt 3 (.pointer (some ⟨g, 0, none⟩))) u f d w = K (updO f d (.int .i64 x.1)) w := h.ldq ty_ag_3 (j := 0) rfl
theorem Blk.tw1 (h : Blk u g t (twP x)) : Val1 Try.prog K (Instr.loadAt 3 (.pointer (some ⟨g, 1, none⟩))) u f d w = K (updO f d (.int .i64 x.2.1)) w := h.ldq ty_ag_3 (j := 1) rfl
theorem Blk.tw2 (h : Blk u g t (twP x)) : Val1 Try.prog K (Instr.loadAt 4 (.pointer (some ⟨g, 2, none⟩))) u f d w = K (updO f d (.bool x.2.2)) w := h.ldq ty_ag_4 (j := 2) rfl
end
/-- Between two things that are come to. -/
structure GS (B : Nat) (w0 : World) (A0 : Option Addr) (w : World) (g gm q : Nat) (v : WV) (tos : List Hd) (x : Tw) (M0 : List (Tw × Nat)) (W0 : List Tw) (Aw : Option Addr) (cw : Nat) (M : List (Tw × Nat)) (W : List Tw) (cs : List (Tw × Nat)) : Prop where
  ws : WS B w g gm v tos Aw cw M W
  tw : Blk w q 52 (twP x)
  far : some q ≠ Aw.map (·.block)
  cm : Comes M0 W0 cs M W
  ok : WOk M
  len : W.length ≤ W0.length + cs.length
  keep : KeepW g gm A0 w0 w
  mv : MovedW w0 A0 Aw
theorem GS.below {B : Nat} {w0 : World} {A0 : Option Addr} {w w' : World} {g gm q : Nat} {v : WV} {tos : List Hd} {x : Tw} {M0 : List (Tw × Nat)} {W0 : List Tw} {Aw : Option Addr} {cw : Nat} {M : List (Tw × Nat)} {W : List Tw} {cs : List (Tw × Nat)} (h : GS B w0 A0 w g gm q v tos x M0 W0 Aw cw M W cs) (b : Below w.heap.size w w') : GS B w0 A0 w' g gm q v tos x M0 W0 Aw cw M W cs :=
  ⟨h.ws.below b, h.tw.below b h.tw.lt, h.far, h.cm, h.ok, h.len, h.keep.trans h.mv (KeepW.below b), h.mv⟩
theorem GS.come {B : Nat} {w0 : World} {A0 : Option Addr} {w w' : World} {g gm q : Nat} {v : WV} {tos : List Hd} {x : Tw} {M0 : List (Tw × Nat)} {W0 : List Tw} {Aw Aw' : Option Addr} {cw cw' : Nat} {M M' : List (Tw × Nat)} {W W' : List Tw} {cs : List (Tw × Nat)} (h : GS B w0 A0 w g gm q v tos x M0 W0 Aw cw M W cs) (hq : q ≠ g) (hq2 : q ≠ gm)
    {y : Tw} {n : Nat} (hc : Come M W y n M' W') (hws : WS B w' g gm v tos Aw' cw' M' W') (hk : KeepW g gm Aw w w') (hm : MovedW w Aw Aw') (hy : TwI64 y) (hn : n ≤ 1000) : GS B w0 A0 w' g gm q v tos x M0 W0 Aw' cw' M' W' (cs ++ [(y, n)]) := by
  refine ⟨hws, h.tw.keep (hk.at_ q h.tw.lt hq hq2 h.far), ?_, h.cm.snoc hc, hc.all h.ok ⟨hy, hn⟩, by have := hc.len; have := h.len; rw [List.length_append, List.length_singleton]; omega, h.keep.trans h.mv hk, h.mv.trans h.keep.size hm⟩
  rcases hm with hm | ⟨g', h1, h2⟩
  · rw [hm]; exact h.far
  · rw [h1]
    have := h.tw.lt
    intro e; injection e with e; omega
set_option maxHeartbeats 1000000 in
theorem dia_goes {B : Nat} {w : World} {g gm : Nat} {v : WV} {tos : List Hd} {Aw : Option Addr} {cw : Nat} {M : List (Tw × Nat)} {W : List Tw} (h : WS B w g gm v tos Aw cw M W) (hB : B ≤ w.heap.size) (hW : W.length ≤ 90000) (hM : WOk M)
    (p1 : v.m.May) (p3 : v.m.states ≤ 6) (h1 : Ints (· < B) w v.A1 v.seen) (n1 : v.seen.length ≤ 17592186043904) (h2 : Ints (· < B) w v.A2 v.faults) (n2 : v.faults.length ≤ 17592186043904) (hto : TosOk v.m tos) {x : Tw} (hx : InW v.m x) {n : Nat} (hn : n ≤ 900) :
    Cal Try.prog 20 [.pointer (some ⟨g, 0, none⟩), twV x, .int .i64 n] w fun r w' => ∃ (M' : List (Tw × Nat)) (W' : List Tw) (Aw' : Option Addr) (cw' : Nat), r = .tuple #[] ∧
      Comes M W (callsOf n (leadsL v.m v.seen v.faults x v.m.events.toNat)) M' W' ∧ WS B w' g gm v tos Aw' cw' M' W' ∧ WOk M' ∧ Below B w w' ∧ KeepW g gm Aw w w' ∧ MovedW w Aw Aw' ∧ W'.length ≤ W.length + 288 := by
  have ev0 : 0 ≤ v.m.events := p1.2.2.1
  have ev8 : v.m.events ≤ 8 := p1.2.2.2.1
  have hx64 := inW_i64 p1 hx
  refine cal_diagnose_watcher_goes (by simp) 100000 fun Q hQ => ?_
  simp (disch := first | with_reducible assumption | omega) only [push_cast, x_blk, x_cd, ↓reduceIte, Nat.reduceEqDiff, List.map_cons, List.map_nil, Int.reduceEq, Int.lt_irrefl, F_diagnose_watcher_goes]
  have hgw := h.blk.lt
  have hgmw := h.map.lt
  have hAww : some w.heap.size ≠ Aw.map (·.block) := fun e => by have := h.row.ltB e; omega
  refine blk_of (box_agg _ (twP x)) ?_
  intro w1 k1 b1 z1
  have G0 : GS B w Aw w1 g gm w.heap.size v tos x M W Aw cw M W [] := ⟨h.below b1, k1, hAww, .nil, hM, by simp, KeepW.below b1, MovedW.refl _ _⟩
  have bb : Below B w w1 := b1.mono hB
  have hq1 : w.heap.size ≠ g := by omega
  have hq2 : w.heap.size ≠ gm := by omega
  have lev := fun {K : Fr → World → Prop} {f : Fr} {d : Option Nat} {w : World} => G0.ws.blk.ldq (P := Try.prog) (K := K) (f := f) (d := d) (w := w) ty_ag_3 wC_1
  have hmore : n + cnt x.2.2 ≤ 901 := by have := cnt_le x.2.2; omega
  have hsplit : (x.2.2 = true ∧ ((n : Int) + 1 = ((n + cnt x.2.2 : Nat) : Int))) ∨ (x.2.2 = false ∧ ((n : Int) = ((n + cnt x.2.2 : Nat) : Int))) := by
    cases hf : x.2.2
    · exact .inr ⟨rfl, by simp [cnt]⟩
    · exact .inl ⟨rfl, by simp [cnt]⟩
  rcases hsplit with ⟨hf, hmo⟩ | ⟨hf, hmo⟩
  case' inl => simp (disch := first | with_reducible assumption | omega) only [push_cast, x_blk, x_cd, ↓reduceIte, Nat.reduceEqDiff, List.map_cons, List.map_nil, Int.reduceEq, Int.lt_irrefl, k1.tw2, hf, lev]
  case' inr => simp (disch := first | with_reducible assumption | omega) only [push_cast, x_blk, x_cd, ↓reduceIte, Nat.reduceEqDiff, List.map_cons, List.map_nil, Int.reduceEq, Int.lt_irrefl, k1.tw2, hf, lev]
  all_goals
    refine loop_rule (fun f w' => ∃ (k : Nat) (M' : List (Tw × Nat)) (W' : List Tw) (Aw' : Option Addr) (cw' : Nat), k ≤ v.m.events.toNat ∧ (f 0 = .pointer (some ⟨g, 0, none⟩) ∧ f 2 = .int .i64 n ∧ f 4 = .pointer (some ⟨w.heap.size, 0, none⟩) ∧ f 6 = .int .i64 ((n + cnt x.2.2 : Nat) : Int) ∧ f 29 = .int .i64 v.m.events ∧ f 30 = .int .i64 k) ∧
        GS B w Aw w' g gm w.heap.size v tos x M W Aw' cw' M' W' (callsOf n (leadsL v.m v.seen v.faults x k)) ∧ Below B w w')
      (fun f _ => v.m.events.toNat - (intOf (f 30)).toNat) ⟨0, M, W, Aw, cw, Nat.zero_le _, ⟨rfl, rfl, rfl, by rw [← hmo]; rfl, rfl, rfl⟩, G0, bb⟩ ?_
    clear G0 k1 lev bb b1 h z1 hAww hmo hf
    clear hM
    rintro f w2 ⟨k, M', W', Aw', cw', hk, fr, G, bb⟩ J hJ
    have hmu : (intOf (f 30)).toNat = k := by rw [fr.2.2.2.2.2]; simp [intOf]
    by_cases hlt : (k : Int) < v.m.events
    case neg =>
      obtain rfl : k = v.m.events.toNat := by omega
      simp (disch := first | with_reducible assumption | omega) only [push_cast, x_blk, x_cd, ↓reduceIte, Nat.reduceEqDiff, List.map_cons, List.map_nil, Int.reduceEq, Int.lt_irrefl, L_diagnose_watcher_goes_4, fr, hlt]
      exact fin_0 (hQ _ _ ⟨M', W', Aw', cw', rfl, G.cm, G.ws, G.ok, bb, G.keep, G.mv, by have := G.len; rw [callsOf_len] at this; have := leadsL_len p1 p3 v.seen v.faults x v.m.events.toNat; omega⟩)
    have dd : Same w2 w2.drew := (Same.refl w2).drew
    replace G := G.below (dd.below _)
    replace bb := bb.trans (dd.below _)
    generalize hud : w2.drew = u at *
    have i1 := h1.below bb
    have i2 := h2.below bb
    have l5 := fun {K : Fr → World → Prop} {f : Fr} {d : Option Nat} {w : World} => G.ws.blk.ldq (P := Try.prog) (K := K) (f := f) (d := d) (w := w) ty_ag_22 wC_5
    have l6 := fun {K : Fr → World → Prop} {f : Fr} {d : Option Nat} {w : World} => G.ws.blk.ldq (P := Try.prog) (K := K) (f := f) (d := d) (w := w) ty_ag_22 wC_6
    simp (disch := first | with_reducible assumption | omega) only [push_cast, x_blk, x_cd, ↓reduceIte, Nat.reduceEqDiff, List.map_cons, List.map_nil, Int.reduceEq, Int.lt_irrefl, L_diagnose_watcher_goes_4, fr, hlt, hud, l5, l6]
    refine call_of (row_Has i1 v.c1 (k : Int) (by omega)) ?_
    rintro r w3 ⟨rfl, s3⟩
    simp (disch := first | with_reducible assumption | omega) only [push_cast, x_blk, x_cd, ↓reduceIte, Nat.reduceEqDiff, List.map_cons, List.map_nil, Int.reduceEq, Int.lt_irrefl, fr]
    refine ⟨s3.below _, ?_⟩
    refine call_of (row_Has (i2.same s3) v.c2 (k : Int) (by omega)) ?_
    rintro r w4 ⟨rfl, s4⟩
    have s34 := s3.trans s4
    simp (disch := first | with_reducible assumption | omega) only [push_cast, x_blk, x_cd, ↓reduceIte, Nat.reduceEqDiff, List.map_cons, List.map_nil, Int.reduceEq, Int.lt_irrefl, fr]
    refine ⟨s34.below _, ?_⟩
    clear l5 l6 i1 i2 dd
    replace G := (G.below (s34.below _)).below ((Same.refl w4).drew.below _)
    replace bb := (bb.trans (s34.below _)).trans ((Same.refl w4).drew.below _)
    generalize hud4 : w4.drew = u4 at *
    clear s3 s4 s34
    have hin := hx
    obtain ⟨⟨a1, a2⟩, a3, a4⟩ := hin
    obtain ⟨s, hs⟩ : ∃ s : Nat, x.1 = (s : Int) := ⟨x.1.toNat, by omega⟩
    obtain ⟨s', hs'⟩ : ∃ s : Nat, x.2.1 = (s : Int) := ⟨x.2.1.toNat, by omega⟩
    have hk8 : k < 8 := by omega
    obtain ⟨ha, hat, hal⟩ := hto s k (by omega) hk8
    obtain ⟨hb, hbt, hbl⟩ := hto s' k (by omega) hk8
    rw [← hs] at hal
    rw [← hs'] at hbl
    have la := fun {K : Fr → World → Prop} {f : Fr} {d : Option Nat} {w : World} => G.ws.blk.ldq (P := Try.prog) (K := K) (f := f) (d := d) (w := w) ty_ag_22 (wC_to hat)
    have lb := fun {K : Fr → World → Prop} {f : Fr} {d : Option Nat} {w : World} => G.ws.blk.ldq (P := Try.prog) (K := K) (f := f) (d := d) (w := w) ty_ag_22 (wC_to hbt)
    have hs6 : s < 6 := by omega
    have hs6' : s' < 6 := by omega
    have t0 := fun {K : Fr → World → Prop} {f : Fr} {d : Option Nat} {w : World} => G.tw.tw0 (K := K) (f := f) (d := d) (w := w)
    have t1 := fun {K : Fr → World → Prop} {f : Fr} {d : Option Nat} {w : World} => G.tw.tw1 (K := K) (f := f) (d := d) (w := w)
    rw [hs] at t0
    rw [hs'] at t1
    simp only [← Nat.add_assoc, hdV] at la lb
    have hmemA := List.mem_of_getElem? hat
    have hmemB := List.mem_of_getElem? hbt
    have sA := stepL_len p1 p3 [x.1] (k : Int)
    have sB := stepL_len p1 p3 [x.2.1] (k : Int)
    have hleq : leadsL v.m v.seen v.faults x (k + 1) = leadsL v.m v.seen v.faults x k ++ leadsE v.m v.seen v.faults x (k : Int) := leadsL_succ _ _ _ _ _
    have hll := leadsL_len p1 p3 v.seen v.faults x k
    have hyA : ∀ y ∈ stepL v.m [x.1] (k : Int), I64 y := fun y hy => by have := stepL_range p1 _ _ y hy; have := p1.2.1; unfold I64; omega
    have hyB : ∀ y ∈ secs v.m v.faults x (k : Int), I64 y := fun y hy => by
      unfold secs at hy
      split at hy
      · exact absurd hy (by simp)
      · have := stepL_range p1 _ _ y hy; have := p1.2.1; unfold I64; omega
    obtain ⟨bs, hbs⟩ : ∃ bs : List Int, bs = secs v.m v.faults x (k : Int) := ⟨_, rfl⟩
    have hle : leadsE v.m v.seen v.faults x (k : Int) = if (k : Int) ∈ v.seen then (stepL v.m [x.1] (k : Int)).flatMap fun a => bs.map fun b => ((a, b, x.2.2), x.2.2) else (stepL v.m [x.1] (k : Int)).map (fun a => ((a, x.2.1, x.2.2 || decide ((k : Int) ∈ v.faults)), x.2.2)) ++ bs.map fun b => ((x.1, b, x.2.2), false) := by rw [hbs]; rfl
    rw [← hbs] at hyB
    have nbs : bs.length ≤ 6 := by rw [hbs]; unfold secs; split; exact Nat.zero_le _; exact sB
    have iA : ∀ {w' : World} {Aw' : Option Addr} {cw' : Nat} {M' : List (Tw × Nat)} {W' : List Tw} {cs : List (Tw × Nat)}, GS B w Aw w' g gm w.heap.size v tos x M W Aw' cw' M' W' cs → Ints (TyB [3] B w') w' ha.A (stepL v.m [x.1] (k : Int)) := fun G => hal ▸ G.ws.to_ ha hmemA
    have iB0 : ∀ {w' : World} {Aw' : Option Addr} {cw' : Nat} {M' : List (Tw × Nat)} {W' : List Tw} {cs : List (Tw × Nat)}, GS B w Aw w' g gm w.heap.size v tos x M W Aw' cw' M' W' cs → Ints (TyB [3] B w') w' hb.A (stepL v.m [x.2.1] (k : Int)) := fun G => hbl ▸ G.ws.to_ hb hmemB
    rw [hal] at la
    rw [hbl] at lb
    have hxI := hx64
    simp (disch := first | with_reducible assumption | omega) only [push_cast, x_blk, x_cd, ↓reduceIte, Nat.reduceEqDiff, List.map_cons, List.map_nil, Int.reduceEq, Int.lt_irrefl, fr, hud4, hs6, hs6', hk8, t0, t1, la, lb]
    generalize hl0g : leadsL v.m v.seen v.faults x k = l0 at *
    generalize stepL v.m [x.1] (k : Int) = as_ at *
    have hsp : ((k : Int) ∈ v.faults ∧ bs = []) ∨ ((k : Int) ∉ v.faults ∧ bs = stepL v.m [x.2.1] (k : Int)) := by
      by_cases c : (k : Int) ∈ v.faults
      · exact .inl ⟨c, by rw [hbs]; exact if_pos c⟩
      · exact .inr ⟨c, by rw [hbs]; exact if_neg c⟩
    have hfx : decide ((k : Int) ∈ v.faults) = decide ((k : Int) ∈ v.faults) := rfl
    rcases hsp with ⟨c, hb0⟩ | ⟨c, hb0⟩
    case' inl =>
      obtain ⟨Bz, cz, h14, iB⟩ : ∃ (Bz : Option Addr) (cz : Nat), Value.slice none 0 0 = .slice Bz bs.length cz ∧ ∀ {w' : World} {Aw' : Option Addr} {cw' : Nat} {M' : List (Tw × Nat)} {W' : List Tw} {cs : List (Tw × Nat)}, GS B w Aw w' g gm w.heap.size v tos x M W Aw' cw' M' W' cs → Ints (TyB [3] B w') w' Bz bs := ⟨none, 0, by rw [hb0]; rfl, fun _ => by rw [hb0]; exact Ints.nil _ _ _⟩
      simp (disch := first | with_reducible assumption | omega) only [push_cast, x_blk, x_cd, ↓reduceIte, Nat.reduceEqDiff, List.map_cons, List.map_nil, Int.reduceEq, Int.lt_irrefl, decide_eq_true c, fr]
    case' inr =>
      obtain ⟨Bz, cz, h14, iB⟩ : ∃ (Bz : Option Addr) (cz : Nat), Value.slice hb.A (stepL v.m [x.2.1] (k : Int)).length hb.c = .slice Bz bs.length cz ∧ ∀ {w' : World} {Aw' : Option Addr} {cw' : Nat} {M' : List (Tw × Nat)} {W' : List Tw} {cs : List (Tw × Nat)}, GS B w Aw w' g gm w.heap.size v tos x M W Aw' cw' M' W' cs → Ints (TyB [3] B w') w' Bz bs := ⟨hb.A, hb.c, by rw [hb0], fun G => by rw [hb0]; exact iB0 G⟩
      simp (disch := first | with_reducible assumption | omega) only [push_cast, x_blk, x_cd, ↓reduceIte, Nat.reduceEqDiff, List.map_cons, List.map_nil, Int.reduceEq, Int.lt_irrefl, decide_eq_false c, fr]
    all_goals
      have hfd := c
      by_cases c5 : (k : Int) ∈ v.seen
      case pos =>
        rw [if_pos c5] at hle
        simp (disch := first | with_reducible assumption | omega) only [push_cast, x_blk, x_cd, ↓reduceIte, Nat.reduceEqDiff, List.map_cons, List.map_nil, Int.reduceEq, Int.lt_irrefl, decide_eq_true c5, fr]
        generalize hgf : (fun a : Int => bs.map fun b => (((a, b, x.2.2) : Tw), x.2.2)) = gf at hle
        have hgl : ∀ a, (gf a).length = bs.length := fun a => by rw [← hgf]; simp
        have hfl : ∀ i, ((as_.take i).flatMap gf).length ≤ 36 := fun i => by
          have : ∀ l : List Int, (l.flatMap gf).length = l.length * bs.length := fun l => by
            induction l with
            | nil => simp
            | cons a l ih => rw [List.flatMap_cons, List.length_append, ih, hgl, List.length_cons, Nat.succ_mul]; omega
          rw [this]
          have h6 : (as_.take i).length ≤ 6 := by rw [List.length_take]; omega
          exact Nat.mul_le_mul h6 nbs
        refine loop_rule (fun f' w' => ∃ (i : Nat) (M' : List (Tw × Nat)) (W' : List Tw) (Aw' : Option Addr) (cw' : Nat), i ≤ as_.length ∧ (f' 0 = .pointer (some ⟨g, 0, none⟩) ∧ f' 2 = .int .i64 n ∧ f' 4 = .pointer (some ⟨w.heap.size, 0, none⟩) ∧ f' 6 = .int .i64 ((n + cnt x.2.2 : Nat) : Int) ∧ f' 29 = .int .i64 v.m.events ∧ f' 30 = .int .i64 k ∧ f' 9 = .bool (decide ((k : Int) ∈ v.faults)) ∧ f' 10 = .slice ha.A as_.length ha.c ∧ f' 11 = .slice Bz bs.length cz ∧ f' 65 = .slice ha.A as_.length ha.c ∧ f' 66 = .int .i64 as_.length ∧ f' 67 = .int .i64 i) ∧
          GS B w Aw w' g gm w.heap.size v tos x M W Aw' cw' M' W' (callsOf n (l0 ++ (as_.take i).flatMap gf)) ∧ Below B w w')
          (fun f' _ => as_.length - (intOf (f' 67)).toNat) ⟨0, M', W', Aw', cw', Nat.zero_le _, (by simp only [push_cast, ↓reduceIte, Nat.reduceEqDiff, true_and, and_true, and_self, eq_self, fr, fr, h14, c, decide_true, decide_false]), by simpa using G, bb⟩ ?_
        clear fr G bb la lb t0 t1 hud4 hud
        rintro f w3 ⟨i, M', W', Aw', cw', hi, fr, G, bb⟩ J2 hJ2
        have hmu2 : (intOf (f 67)).toNat = i := by rw [fr.2.2.2.2.2.2.2.2.2.2.2]; simp [intOf]
        by_cases hil : i < as_.length
        case neg =>
          obtain rfl : i = as_.length := by omega
          rw [List.take_length, ← hle, ← hleq] at G
          simp (disch := first | with_reducible assumption | omega) only [push_cast, x_blk, x_cd, ↓reduceIte, Nat.reduceEqDiff, List.map_cons, List.map_nil, Int.reduceEq, Int.lt_irrefl, L_diagnose_watcher_goes_3, fr, Int.lt_irrefl]
          exact hJ _ _ ⟨k + 1, M', W', Aw', cw', by omega, (by simp only [push_cast, ↓reduceIte, Nat.reduceEqDiff, true_and, and_true, and_self, eq_self, fr]), G, bb⟩ (by rw [hmu]; simp only [push_cast, ↓reduceIte, Nat.reduceEqDiff, intOf, fr]; omega)
        have hila : (i : Int) < (as_.length : Int) := by omega
        have hfi := hfl i
        have iA3 := iA G
        have sA3 := iA3.isSome (by omega)
        have lai := fun {K : Fr → World → Prop} {f : Fr} {d : Option Nat} {w : World} => iA3.ld (P := Try.prog) (K := K) (f := f) (d := d) (w := w) ty_ag_3 i hil
        simp (disch := first | with_reducible assumption | omega) only [push_cast, x_blk, x_cd, ↓reduceIte, Nat.reduceEqDiff, List.map_cons, List.map_nil, Int.reduceEq, Int.lt_irrefl, L_diagnose_watcher_goes_3, fr, hila, hil, lai]
        refine loop_rule (fun f' w' => ∃ (j : Nat) (M' : List (Tw × Nat)) (W' : List Tw) (Aw' : Option Addr) (cw' : Nat), j ≤ bs.length ∧ (f' 0 = .pointer (some ⟨g, 0, none⟩) ∧ f' 2 = .int .i64 n ∧ f' 4 = .pointer (some ⟨w.heap.size, 0, none⟩) ∧ f' 6 = .int .i64 ((n + cnt x.2.2 : Nat) : Int) ∧ f' 29 = .int .i64 v.m.events ∧ f' 30 = .int .i64 k ∧ f' 9 = .bool (decide ((k : Int) ∈ v.faults)) ∧ f' 10 = .slice ha.A as_.length ha.c ∧ f' 11 = .slice Bz bs.length cz ∧ f' 65 = .slice ha.A as_.length ha.c ∧ f' 66 = .int .i64 as_.length ∧ f' 67 = .int .i64 i ∧ f' 13 = .int .i64 (as_.getD i 0) ∧ f' 71 = .slice Bz bs.length cz ∧ f' 72 = .int .i64 bs.length ∧ f' 73 = .int .i64 j) ∧
          GS B w Aw w' g gm w.heap.size v tos x M W Aw' cw' M' W' (callsOf n (l0 ++ ((as_.take i).flatMap gf ++ (bs.take j).map fun b => (((as_.getD i 0, b, x.2.2) : Tw), x.2.2)))) ∧ Below B w w')
          (fun f' _ => bs.length - (intOf (f' 73)).toNat) ⟨0, M', W', Aw', cw', Nat.zero_le _, (by simp only [push_cast, ↓reduceIte, Nat.reduceEqDiff, true_and, and_true, and_self, eq_self, fr, fr]), by simpa using G, bb⟩ ?_
        clear fr G bb lai iA3 sA3
        rintro f w3 ⟨j, M', W', Aw', cw', hj, fr, G, bb⟩ J3 hJ3
        have hmu3 : (intOf (f 73)).toNat = j := by rw [fr.2.2.2.2.2.2.2.2.2.2.2.2.2.2.2]; simp [intOf]
        by_cases hjl : j < bs.length
        case neg =>
          obtain rfl : j = bs.length := by omega
          have hpart : ((as_.take i).flatMap gf ++ (bs.take bs.length).map fun b => (((as_.getD i 0, b, x.2.2) : Tw), x.2.2)) = (as_.take (i + 1)).flatMap gf := by
            rw [take_snoc as_ 0 i hil, List.flatMap_append, List.take_length, ← hgf]; simp
          rw [hpart] at G
          simp (disch := first | with_reducible assumption | omega) only [push_cast, x_blk, x_cd, ↓reduceIte, Nat.reduceEqDiff, List.map_cons, List.map_nil, Int.reduceEq, Int.lt_irrefl, L_diagnose_watcher_goes_2, fr, Int.lt_irrefl]
          exact hJ2 _ _ ⟨i + 1, M', W', Aw', cw', by omega, (by simp only [push_cast, ↓reduceIte, Nat.reduceEqDiff, true_and, and_true, and_self, eq_self, fr]), G, bb⟩ (by rw [hmu2]; simp only [push_cast, ↓reduceIte, Nat.reduceEqDiff, intOf, fr]; omega)
        have hjlI : (j : Int) < (bs.length : Int) := by omega
        have hpart : callsOf n (l0 ++ ((as_.take i).flatMap gf ++ (bs.take (j + 1)).map fun b => (((as_.getD i 0, b, x.2.2) : Tw), x.2.2))) = callsOf n (l0 ++ ((as_.take i).flatMap gf ++ (bs.take j).map fun b => (((as_.getD i 0, b, x.2.2) : Tw), x.2.2))) ++ [((as_.getD i 0, bs.getD j 0, x.2.2), n + cnt x.2.2)] := by
          rw [take_snoc bs 0 j hjl]; simp [callsOf]
        have hplen : (l0 ++ ((as_.take i).flatMap gf ++ (bs.take j).map fun b => (((as_.getD i 0, b, x.2.2) : Tw), x.2.2))).length ≤ 1000 := by rw [List.length_append, List.length_append, List.length_map, List.length_take]; omega
        have iB3 := iB G
        have sB3 := iB3.isSome (by omega)
        have lbj := fun {K : Fr → World → Prop} {f : Fr} {d : Option Nat} {w : World} => iB3.ld (P := Try.prog) (K := K) (f := f) (d := d) (w := w) ty_ag_3 j hjl
        have t2' := fun {K : Fr → World → Prop} {f : Fr} {d : Option Nat} {w : World} => G.tw.tw2 (K := K) (f := f) (d := d) (w := w)
        have hya := hyA _ (getD_mem as_ 0 i hil)
        have hyb := hyB _ (getD_mem bs 0 j hjl)
        simp (disch := first | with_reducible assumption | omega) only [push_cast, x_blk, x_cd, ↓reduceIte, Nat.reduceEqDiff, List.map_cons, List.map_nil, Int.reduceEq, Int.lt_irrefl, L_diagnose_watcher_goes_2, fr, hjlI, hjl, lbj, t2', bl_twp]
        refine call_of (dia_comes G.ws (by have := bb.size; omega) (by have := G.len; rw [callsOf_len] at this; omega) G.ok (x := (as_.getD i 0, bs.getD j 0, x.2.2)) (⟨hya, hyb⟩) (n := n + cnt x.2.2) (by omega)) ?_
        rintro r w5 ⟨M2, W2, Aw2, cw2, rfl, hc, hws, b5, hk5, hm5⟩
        have G2 := G.come hq1 hq2 hc hws hk5 hm5 (⟨hya, hyb⟩) (by omega)
        have bb5 : Below B w w5 := bb.trans b5
        simp (disch := first | with_reducible assumption | omega) only [push_cast, x_blk, x_cd, ↓reduceIte, Nat.reduceEqDiff, List.map_cons, List.map_nil, Int.reduceEq, Int.lt_irrefl, fr]
        exact hJ3 _ _ ⟨j + 1, M2, W2, Aw2, cw2, by omega, (by simp only [push_cast, ↓reduceIte, Nat.reduceEqDiff, true_and, and_true, and_self, eq_self, fr]), by rw [hpart]; exact G2, bb5⟩ (by rw [hmu3]; simp only [push_cast, ↓reduceIte, Nat.reduceEqDiff, intOf, fr]; omega)
      case neg =>
        rw [if_neg c5] at hle
        simp (disch := first | with_reducible assumption | omega) only [push_cast, x_blk, x_cd, ↓reduceIte, Nat.reduceEqDiff, List.map_cons, List.map_nil, Int.reduceEq, Int.lt_irrefl, decide_eq_false c5, fr]
        refine loop_rule (fun f' w' => ∃ (i : Nat) (M' : List (Tw × Nat)) (W' : List Tw) (Aw' : Option Addr) (cw' : Nat), i ≤ as_.length ∧ (f' 0 = .pointer (some ⟨g, 0, none⟩) ∧ f' 2 = .int .i64 n ∧ f' 4 = .pointer (some ⟨w.heap.size, 0, none⟩) ∧ f' 6 = .int .i64 ((n + cnt x.2.2 : Nat) : Int) ∧ f' 29 = .int .i64 v.m.events ∧ f' 30 = .int .i64 k ∧ f' 9 = .bool (decide ((k : Int) ∈ v.faults)) ∧ f' 10 = .slice ha.A as_.length ha.c ∧ f' 11 = .slice Bz bs.length cz ∧ f' 87 = .slice ha.A as_.length ha.c ∧ f' 88 = .int .i64 as_.length ∧ f' 89 = .int .i64 i) ∧
          GS B w Aw w' g gm w.heap.size v tos x M W Aw' cw' M' W' (callsOf n (l0 ++ (as_.take i).map (fun a => (((a, x.2.1, x.2.2 || decide ((k : Int) ∈ v.faults)) : Tw), x.2.2)))) ∧ Below B w w')
          (fun f' _ => as_.length - (intOf (f' 89)).toNat) ⟨0, M', W', Aw', cw', Nat.zero_le _, (by simp only [push_cast, ↓reduceIte, Nat.reduceEqDiff, true_and, and_true, and_self, eq_self, fr, fr, h14, c, decide_true, decide_false]), by simpa using G, bb⟩ ?_
        clear fr G bb la lb t0 t1 hud4 hud
        rintro f w3 ⟨i, M', W', Aw', cw', hi, fr, G, bb⟩ J2 hJ2
        have hmu2 : (intOf (f 89)).toNat = i := by rw [fr.2.2.2.2.2.2.2.2.2.2.2]; simp [intOf]
        by_cases hil : i < as_.length
        case pos =>
          have hila : (i : Int) < (as_.length : Int) := by omega
          have hpart : callsOf n (l0 ++ (as_.take (i + 1)).map (fun a => (((a, x.2.1, x.2.2 || decide ((k : Int) ∈ v.faults)) : Tw), x.2.2))) = callsOf n (l0 ++ (as_.take i).map (fun a => (((a, x.2.1, x.2.2 || decide ((k : Int) ∈ v.faults)) : Tw), x.2.2))) ++ [((as_.getD i 0, x.2.1, x.2.2 || decide ((k : Int) ∈ v.faults)), n + cnt x.2.2)] := by
            rw [take_snoc as_ 0 i hil]; simp [callsOf]
          have hplen : (l0 ++ (as_.take i).map (fun a => (((a, x.2.1, x.2.2 || decide ((k : Int) ∈ v.faults)) : Tw), x.2.2))).length ≤ 1000 := by rw [List.length_append, List.length_map, List.length_take]; omega
          have iA3 := iA G
          have sA3 := iA3.isSome (by omega)
          have lai := fun {K : Fr → World → Prop} {f : Fr} {d : Option Nat} {w : World} => iA3.ld (P := Try.prog) (K := K) (f := f) (d := d) (w := w) ty_ag_3 i hil
          have t1' := fun {K : Fr → World → Prop} {f : Fr} {d : Option Nat} {w : World} => G.tw.tw1 (K := K) (f := f) (d := d) (w := w)
          have t2' := fun {K : Fr → World → Prop} {f : Fr} {d : Option Nat} {w : World} => G.tw.tw2 (K := K) (f := f) (d := d) (w := w)
          have hya := hyA _ (getD_mem as_ 0 i hil)
          by_cases hxf : x.2.2 = true
          case pos =>
            have hel : (((as_.getD i 0, x.2.1, x.2.2 || decide ((k : Int) ∈ v.faults)) : Tw), n + cnt x.2.2) = ((as_.getD i 0, x.2.1, true), n + cnt true) := by rw [hxf]; rfl
            rw [hel] at hpart
            have hc1 : cnt true = 1 := rfl
            simp (disch := first | with_reducible assumption | omega) only [push_cast, x_blk, x_cd, ↓reduceIte, Nat.reduceEqDiff, List.map_cons, List.map_nil, Int.reduceEq, Int.lt_irrefl, L_diagnose_watcher_goes_1, fr, hila, hil, lai, t1', t2', hxf, bl_twp]
            refine call_of (dia_comes G.ws (by have := bb.size; omega) (by have := G.len; rw [callsOf_len] at this; omega) G.ok (x := (as_.getD i 0, x.2.1, true)) (⟨hya, hxI.2⟩) (n := n + cnt true) (by omega)) ?_
            rintro r w5 ⟨M2, W2, Aw2, cw2, rfl, hc, hws, b5, hk5, hm5⟩
            have G2 := G.come hq1 hq2 hc hws hk5 hm5 (⟨hya, hxI.2⟩) (by omega)
            have bb5 : Below B w w5 := bb.trans b5
            simp (disch := first | with_reducible assumption | omega) only [push_cast, x_blk, x_cd, ↓reduceIte, Nat.reduceEqDiff, List.map_cons, List.map_nil, Int.reduceEq, Int.lt_irrefl, fr]
            exact hJ2 _ _ ⟨i + 1, M2, W2, Aw2, cw2, by omega, (by simp only [push_cast, ↓reduceIte, Nat.reduceEqDiff, true_and, and_true, and_self, eq_self, fr]), by rw [hpart]; exact G2, bb5⟩ (by rw [hmu2]; simp only [push_cast, ↓reduceIte, Nat.reduceEqDiff, intOf, fr]; omega)
          case neg =>
            have hxf' : x.2.2 = false := by simpa using hxf
            have hel : (((as_.getD i 0, x.2.1, x.2.2 || decide ((k : Int) ∈ v.faults)) : Tw), n + cnt x.2.2) = ((as_.getD i 0, x.2.1, decide ((k : Int) ∈ v.faults)), n + cnt false) := by rw [hxf', Bool.false_or]
            rw [hel] at hpart
            have hc1 : cnt false = 0 := rfl
            simp (disch := first | with_reducible assumption | omega) only [push_cast, x_blk, x_cd, ↓reduceIte, Nat.reduceEqDiff, List.map_cons, List.map_nil, Int.reduceEq, Int.lt_irrefl, L_diagnose_watcher_goes_1, fr, hila, hil, lai, t1', t2', hxf', bl_twp]
            refine call_of (dia_comes G.ws (by have := bb.size; omega) (by have := G.len; rw [callsOf_len] at this; omega) G.ok (x := (as_.getD i 0, x.2.1, decide ((k : Int) ∈ v.faults))) (⟨hya, hxI.2⟩) (n := n + cnt false) (by omega)) ?_
            rintro r w5 ⟨M2, W2, Aw2, cw2, rfl, hc, hws, b5, hk5, hm5⟩
            have G2 := G.come hq1 hq2 hc hws hk5 hm5 (⟨hya, hxI.2⟩) (by omega)
            have bb5 : Below B w w5 := bb.trans b5
            simp (disch := first | with_reducible assumption | omega) only [push_cast, x_blk, x_cd, ↓reduceIte, Nat.reduceEqDiff, List.map_cons, List.map_nil, Int.reduceEq, Int.lt_irrefl, fr]
            exact hJ2 _ _ ⟨i + 1, M2, W2, Aw2, cw2, by omega, (by simp only [push_cast, ↓reduceIte, Nat.reduceEqDiff, true_and, and_true, and_self, eq_self, fr]), by rw [hpart]; exact G2, bb5⟩ (by rw [hmu2]; simp only [push_cast, ↓reduceIte, Nat.reduceEqDiff, intOf, fr]; omega)

        obtain rfl : i = as_.length := by omega
        rw [List.take_length] at G
        simp (disch := first | with_reducible assumption | omega) only [push_cast, x_blk, x_cd, ↓reduceIte, Nat.reduceEqDiff, List.map_cons, List.map_nil, Int.reduceEq, Int.lt_irrefl, L_diagnose_watcher_goes_1, fr, Int.lt_irrefl]
        refine loop_rule (fun f' w' => ∃ (j : Nat) (M' : List (Tw × Nat)) (W' : List Tw) (Aw' : Option Addr) (cw' : Nat), j ≤ bs.length ∧ (f' 0 = .pointer (some ⟨g, 0, none⟩) ∧ f' 2 = .int .i64 n ∧ f' 4 = .pointer (some ⟨w.heap.size, 0, none⟩) ∧ f' 6 = .int .i64 ((n + cnt x.2.2 : Nat) : Int) ∧ f' 29 = .int .i64 v.m.events ∧ f' 30 = .int .i64 k ∧ f' 9 = .bool (decide ((k : Int) ∈ v.faults)) ∧ f' 10 = .slice ha.A as_.length ha.c ∧ f' 11 = .slice Bz bs.length cz ∧ f' 106 = .slice Bz bs.length cz ∧ f' 107 = .int .i64 bs.length ∧ f' 108 = .int .i64 j) ∧
          GS B w Aw w' g gm w.heap.size v tos x M W Aw' cw' M' W' (callsOf n (l0 ++ (as_.map (fun a => (((a, x.2.1, x.2.2 || decide ((k : Int) ∈ v.faults)) : Tw), x.2.2)) ++ (bs.take j).map (fun b => (((x.1, b, x.2.2) : Tw), false))))) ∧ Below B w w')
          (fun f' _ => bs.length - (intOf (f' 108)).toNat) ⟨0, M', W', Aw', cw', Nat.zero_le _, (by simp only [push_cast, ↓reduceIte, Nat.reduceEqDiff, true_and, and_true, and_self, eq_self, fr, fr]), by simpa using G, bb⟩ ?_
        clear fr G bb
        rintro f w3 ⟨j, M', W', Aw', cw', hj, fr, G, bb⟩ J3 hJ3
        have hmu3 : (intOf (f 108)).toNat = j := by rw [fr.2.2.2.2.2.2.2.2.2.2.2]; simp [intOf]
        by_cases hjl : j < bs.length
        case neg =>
          obtain rfl : j = bs.length := by omega
          rw [List.take_length, ← hle, ← hleq] at G
          simp (disch := first | with_reducible assumption | omega) only [push_cast, x_blk, x_cd, ↓reduceIte, Nat.reduceEqDiff, List.map_cons, List.map_nil, Int.reduceEq, Int.lt_irrefl, L_diagnose_watcher_goes_0, fr, Int.lt_irrefl]
          exact hJ _ _ ⟨k + 1, M', W', Aw', cw', by omega, (by simp only [push_cast, ↓reduceIte, Nat.reduceEqDiff, true_and, and_true, and_self, eq_self, fr]), G, bb⟩ (by rw [hmu]; simp only [push_cast, ↓reduceIte, Nat.reduceEqDiff, intOf, fr]; omega)
        have hjlI : (j : Int) < (bs.length : Int) := by omega
        have hpart : callsOf n (l0 ++ (as_.map (fun a => (((a, x.2.1, x.2.2 || decide ((k : Int) ∈ v.faults)) : Tw), x.2.2)) ++ (bs.take (j + 1)).map (fun b => (((x.1, b, x.2.2) : Tw), false)))) = callsOf n (l0 ++ (as_.map (fun a => (((a, x.2.1, x.2.2 || decide ((k : Int) ∈ v.faults)) : Tw), x.2.2)) ++ (bs.take j).map (fun b => (((x.1, b, x.2.2) : Tw), false)))) ++ [((x.1, bs.getD j 0, x.2.2), n)] := by
          rw [take_snoc bs 0 j hjl]; simp [callsOf, cnt]
        have hplen : (l0 ++ (as_.map (fun a => (((a, x.2.1, x.2.2 || decide ((k : Int) ∈ v.faults)) : Tw), x.2.2)) ++ (bs.take j).map (fun b => (((x.1, b, x.2.2) : Tw), false)))).length ≤ 1000 := by rw [List.length_append, List.length_append, List.length_map, List.length_map, List.length_take]; omega
        have iB3 := iB G
        have sB3 := iB3.isSome (by omega)
        have lbj := fun {K : Fr → World → Prop} {f : Fr} {d : Option Nat} {w : World} => iB3.ld (P := Try.prog) (K := K) (f := f) (d := d) (w := w) ty_ag_3 j hjl
        have t0' := fun {K : Fr → World → Prop} {f : Fr} {d : Option Nat} {w : World} => G.tw.tw0 (K := K) (f := f) (d := d) (w := w)
        have t2' := fun {K : Fr → World → Prop} {f : Fr} {d : Option Nat} {w : World} => G.tw.tw2 (K := K) (f := f) (d := d) (w := w)
        have hyb := hyB _ (getD_mem bs 0 j hjl)
        simp (disch := first | with_reducible assumption | omega) only [push_cast, x_blk, x_cd, ↓reduceIte, Nat.reduceEqDiff, List.map_cons, List.map_nil, Int.reduceEq, Int.lt_irrefl, L_diagnose_watcher_goes_0, fr, hjlI, hjl, lbj, t0', t2', bl_twp]
        refine call_of (dia_comes G.ws (by have := bb.size; omega) (by have := G.len; rw [callsOf_len] at this; omega) G.ok (x := (x.1, bs.getD j 0, x.2.2)) (⟨hxI.1, hyb⟩) (n := n) (by omega)) ?_
        rintro r w5 ⟨M2, W2, Aw2, cw2, rfl, hc, hws, b5, hk5, hm5⟩
        have G2 := G.come hq1 hq2 hc hws hk5 hm5 (⟨hxI.1, hyb⟩) (by omega)
        have bb5 : Below B w w5 := bb.trans b5
        simp (disch := first | with_reducible assumption | omega) only [push_cast, x_blk, x_cd, ↓reduceIte, Nat.reduceEqDiff, List.map_cons, List.map_nil, Int.reduceEq, Int.lt_irrefl, fr]
        exact hJ3 _ _ ⟨j + 1, M2, W2, Aw2, cw2, by omega, (by simp only [push_cast, ↓reduceIte, Nat.reduceEqDiff, true_and, and_true, and_self, eq_self, fr]), by rw [hpart]; exact G2, bb5⟩ (by rw [hmu3]; simp only [push_cast, ↓reduceIte, Nat.reduceEqDiff, intOf, fr]; omega)
end Go.Proofs.Ytfckamjbeplceaa
