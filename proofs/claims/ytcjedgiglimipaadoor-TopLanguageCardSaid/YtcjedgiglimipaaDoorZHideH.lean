/-
  Chapter 5: the program's Hide: the machine of what is seen: by its contract. A range over a function within two loops.
-/
import Derived.Test.YtcjedgiglimipaaDoorZHideS
import Derived.Test.YtcjedgiglimipaaDoorZHideA
namespace Go.Proofs.YtcjedgiglimipaaDoor
set_option linter.unusedSimpArgs false
set_option linter.unusedVariables false
set_option linter.unusedSectionVars false
open Go.RowKit

theorem cDraw_four {N : Nat} {ops : Array Oper} : (∃ l, cDraw N ops = .dr l) ∨ (∃ t, cDraw N ops = .drt t) ∨ (∃ l, cDraw N ops = .drz l) ∨ cDraw N ops = .bad := by
  unfold cDraw cTree planD
  dsimp only
  repeat' split
  all_goals first
    | exact .inl ⟨_, rfl⟩
    | exact .inr (.inl ⟨_, rfl⟩)
    | exact .inr (.inr (.inl ⟨_, rfl⟩))
    | exact .inr (.inr (.inr rfl))
theorem inv_lo {N : Nat} {code : Code} {A : C} (h : cC N code = .lo A) : ∃ a, code = .loop a ∧ cC N a = A := by
  cases code with
  | loop a => injection h with h2; exact ⟨a, rfl, h2⟩
  | region _ ops dr =>
    cases dr with
    | true => exfalso; rcases cDraw_four (N := N) (ops := ops) with ⟨_, e⟩ | ⟨_, e⟩ | ⟨_, e⟩ | e <;> exact absurd (e.symm.trans h) (by intro h; cases h)
    | false => exact absurd h (by intro h; cases h)
  | rangeFunc g ps a b => unfold cC at h; split at h <;> cases h
  | _ => cases h
theorem inv_cd {N : Nat} {code : Code} {t : Operand} {A B : C} (h : cC N code = .cd t A B) : ∃ a b, code = .cond t a b ∧ cC N a = A ∧ cC N b = B := by
  cases code with
  | cond t' a b => injection h with h1 h2 h3; subst h1; exact ⟨a, b, rfl, h2, h3⟩
  | region _ ops dr =>
    cases dr with
    | true => exfalso; rcases cDraw_four (N := N) (ops := ops) with ⟨_, e⟩ | ⟨_, e⟩ | ⟨_, e⟩ | e <;> exact absurd (e.symm.trans h) (by intro h; cases h)
    | false => exact absurd h (by intro h; cases h)
  | rangeFunc g ps a b => unfold cC at h; split at h <;> cases h
  | _ => cases h
theorem inv_ex {N : Nat} {code : Code} {i : Nat} (h : cC N code = .ex i) : code = .exit i := by
  cases code with
  | exit a => injection h with h2; subst h2; rfl
  | region _ ops dr =>
    cases dr with
    | true => exfalso; rcases cDraw_four (N := N) (ops := ops) with ⟨_, e⟩ | ⟨_, e⟩ | ⟨_, e⟩ | e <;> exact absurd (e.symm.trans h) (by intro h; cases h)
    | false => exact absurd h (by intro h; cases h)
  | rangeFunc g ps a b => unfold cC at h; split at h <;> cases h
  | _ => cases h
theorem inv_sk {N : Nat} {code : Code} (h : cC N code = .sk) : code = .skip ∨ ∃ l, code = .label l := by
  cases code with
  | skip => exact .inl rfl
  | label l => exact .inr ⟨l, rfl⟩
  | region _ ops dr =>
    cases dr with
    | true => exfalso; rcases cDraw_four (N := N) (ops := ops) with ⟨_, e⟩ | ⟨_, e⟩ | ⟨_, e⟩ | e <;> exact absurd (e.symm.trans h) (by intro h; cases h)
    | false => exact absurd h (by intro h; cases h)
  | rangeFunc g ps a b => unfold cC at h; split at h <;> cases h
  | _ => cases h
section
variable {P : Program} {N : Nat} {ds : List Deferred} {Q : Exit → Act → World → Prop} {a : Act} {w : World} {f : Fr}
theorem wps_loop {c : Code} {id : Nat} {k : List Code} (I : Nat → Act → World → Prop) (n0 : Nat) (h0 : I n0 a w)
    (round : ∀ n a w, I n a w → wps P (Exit.then (fun a' w' => ∃ n', n' < n ∧ I n' a' w') (Exit.inBlock id (Exit.then (wps P Q k) Q))) [c] a w) : wps P Q (.block id (.loop c) :: k) a w :=
  wps_block (wp_loop_ghost I n0 h0 fun n a w h => wps_one (round n a w h))
theorem wps_cond {t : Operand} {c1 c2 : Code} {k : List Code} (hf : Fits N ds a f) {b : Bool} (ht : ev f t = .bool b) (h : wps P Q ((if b then c1 else c2) :: k) a w) : wps P Q (.cond t c1 c2 :: k) a w := by
  refine wp_cond (t := b) (by rw [hf.ev]; exact ht) ?_
  cases b <;> exact h
theorem wps_exit {id : Nat} {k : List Code} (h : Q (.exit id) a w) : wps P Q (.exit id :: k) a w := wp_exit h
theorem wps_skip {c : Code} (hc : c = .skip ∨ ∃ l, c = .label l) {k : List Code} (h : wps P Q k a w) : wps P Q (c :: k) a w := by
  rcases hc with rfl | ⟨l, rfl⟩
  · exact wp_skip h
  · exact wp_label h
end

theorem Clean.keep {Ds : List Nat} {w w' : World} (h : Clean w Ds) (hk : ∀ D ∈ Ds, w'.heap[D]? = w.heap[D]?) : Clean w' Ds := ⟨h.1, fun D hD => (hk D hD).trans (h.2 D hD)⟩
theorem Clean.lt {Ds : List Nat} {w : World} (h : Clean w Ds) {D : Nat} (hD : D ∈ Ds) : D < w.heap.size := (Array.getElem?_eq_some_iff.1 (h.2 D hD)).1
theorem Clean.below {Ds : List Nat} {w w' : World} (h : Clean w Ds) (b : Below w.heap.size w w') : Clean w' Ds := h.keep fun D hD => b.block D (h.lt hD)
theorem Clean.grewB {Ds : List Nat} {w w' : World} (h : Clean w Ds) {g t : Nat} {cs : List Value} (hk : Blk w g t cs) (b : Grew w w' (some ⟨g, 0, none⟩)) : Clean w' Ds := h.keep fun D hD => b.by_.block D (h.lt hD) fun e => by
  have h1 := h.2 D hD
  have h2 : w.heap[g]? = _ := hk
  have e2 : D = g := by simpa using e
  rw [← e2, h1] at h2
  cases h2
theorem Clean.grewO {Ds : List Nat} {w w' : World} (h : Clean w Ds) {B e sz c n : Nat} {A : Option Addr} {xs : List Value} (hk : Own B e sz w A c n xs) (b : Grew w w' A) : Clean w' Ds := h.keep fun D hD => b.by_.block D (h.lt hD) fun e => by
  have h1 := h.2 D hD
  rcases hk.own.2 with ⟨h2, _⟩ | ⟨g, cap, cur, h2, _, h3, _⟩
  · injection h2 with h2
    rw [h2] at e; cases e
  · injection h2 with h2
    rw [h2] at e
    have e2 : D = g := by simpa using e
    rw [← e2, h1] at h3
    cases h3
theorem Blk.not_mark {w : World} {g t k : Nat} {cs : List Value} {o : Obj} (hk : Blk w g t cs) (h : w.heap[k]? = some o) (ho : o.isCells = false) : k ≠ g := fun e => by
  have h2 : w.heap[g]? = _ := hk
  rw [← e, h] at h2
  cases h2; cases ho
theorem Own.not_mark {w : World} {B e sz c n k : Nat} {A : Option Addr} {xs : List Value} (hk : Own B e sz w A c n xs) {o : Obj} (h : w.heap[k]? = some o) (ho : o.isCells = false) : some k ≠ A.map (·.block) := fun e => by
  rcases hk.own.2 with ⟨h2, _⟩ | ⟨g, cap, cur, h2, _, h3, _⟩
  · injection h2 with h2
    rw [h2] at e; cases e
  · injection h2 with h2
    rw [h2] at e
    have e2 : k = g := by simpa using e
    rw [← e2, h] at h3
    cases h3; cases ho
theorem KeepsFrom.blk {B g t : Nat} {w w' : World} {cs : List Value} (hk : Blk w g t cs) (b : Grew w w' (some ⟨g, 0, none⟩)) : KeepsFrom B w w' :=
  ⟨b.by_.size, fun k o _ h ho => (b.by_.block k (Array.getElem?_eq_some_iff.1 h).1 (fun e => hk.not_mark h ho (by simpa using e))).trans h⟩
theorem KeepsFrom.own {B B' e sz c n : Nat} {w w' : World} {A : Option Addr} {xs : List Value} (hk : Own B' e sz w A c n xs) (b : Grew w w' A) : KeepsFrom B w w' :=
  ⟨b.by_.size, fun k o _ h ho => (b.by_.block k (Array.getElem?_eq_some_iff.1 h).1 (fun e => hk.not_mark h ho e)).trans h⟩
theorem own_grown {B e sz n : Nat} {A : Option Addr} {c : Nat} {xs : List Value} {W W' : World} {row : Option Nat} (h : Own B e sz W A c n xs) (hg : W.grownBy W' row) (hr : ∀ r, row = some r → ∃ o : Obj, W.heap[r]? = some o ∧ o.isCells = false) : Own B e sz W' A c n xs := by
  refine ⟨h.own.kept hg ?_⟩
  rcases h.own.2 with ⟨h1, _⟩ | ⟨g, cap, cur, h1, _, hgb, _⟩
  · exact .inl (by rw [h1]; rfl)
  · refine .inr fun e' => ?_
    obtain ⟨o, ho, hc⟩ := hr g (by rw [h1] at e'; simp only [Value.ownBlock] at e'; exact e'.symm)
    rw [hgb] at ho; cases ho; cases hc
theorem ints_grown {A : Option Addr} {l : List Int} {W W' : World} {row : Option Nat} (h : Ints (· < W.heap.size) W A l) (hg : W.grownBy W' row) (hr : ∀ r, row = some r → ∃ o : Obj, W.heap[r]? = some o ∧ o.isCells = false) : Ints (· < W'.heap.size) W' A l := by
  have h2 : Ints (fun b => b < W.heap.size ∧ some b ≠ row) W A l := ⟨h.isSome, fun hl => ⟨h.block hl, fun e => by
    obtain ⟨o, ho, hc⟩ := hr _ e.symm
    have h3 := h.cell 0 hl
    unfold World.cell? at h3
    rw [eA_block, ho] at h3
    cases o <;> simp_all [Obj.isCells]⟩, h.cell⟩
  exact h2.keep' fun b hb => ⟨hg.block b hb.1 hb.2, Nat.lt_of_lt_of_le hb.1 hg.size⟩
theorem arrs_grown {A : Option Addr} {l : List Arr} {W W' : World} {row : Option Nat} (h : Arrs (· < W.heap.size) W A l) (hg : W.grownBy W' row) (hr : ∀ r, row = some r → ∃ o : Obj, W.heap[r]? = some o ∧ o.isCells = false) : Arrs (· < W'.heap.size) W' A l := by
  have h2 : Arrs (fun b => b < W.heap.size ∧ some b ≠ row) W A l := ⟨h.isSome, fun hl => ⟨h.block hl, fun e => by
    obtain ⟨o, ho, hc⟩ := hr _ e.symm
    have h3 := h.cell 0 hl 0 (by decide)
    unfold World.cell? at h3
    rw [eA_block, ho] at h3
    cases o <;> simp_all [Obj.isCells]⟩, h.cell⟩
  exact h2.keep' fun b hb => ⟨hg.block b hb.1 hb.2, Nat.lt_of_lt_of_le hb.1 hg.size⟩
theorem hideRes_own (m : Mach) (seen : List Int) (w : World) : OwnFrom w.heap.size (HideRes m seen w) := by
  rintro v W W' row ⟨d, dm, e, rfl, hd, hb, h⟩ hg hr
  have hr2 := fun r e => (hr r e).2
  exact ⟨d, dm, e, rfl, ⟨ints_grown hd.starts hg hr2, arrs_grown hd.arrows hg hr2, ints_grown hd.ends hg hr2⟩, hb.grown hg hb.size (fun r e => (hr r e).1), h⟩
theorem finM_c2 {P : Program} {N : Nat} {t t' x s g : Nat} {cs : List Value} {B : Nat} {Rc : Value → World → Prop} {e : Exit} {a : Act} {w : World} (he : e = .normal ∨ e = .ret) {Ds : List Nat} {f : Fr} (hf : Fits N (Ds.map coll) a f)
    (hc : Clean w Ds) (hB : ∀ D ∈ Ds, B ≤ D) (hk : Blk w g t' cs) (ht : tyAgg P t = some true) (hs : tySize P t = some cs.length)
    (hx : f x = .pointer (some ⟨g, 0, none⟩)) (h : Rc (.tuple #[.agg cs.toArray, f s]) w) : FinM P N #[.cell x t, .tmp s] B Rc e a w :=
  ⟨he, Ds, f, .tuple #[.agg cs.toArray, f s], fun W => Blk W g t' cs, hf, hc, hB, fun _ _ _ _ h hg hr => blk_grown' h hg fun r e => (hr r e).2, hk, fun fn tmps w hk hr htm => by
    obtain ⟨v, h1, h2⟩ := fin_c2 (P := P) (Rc := fun v _ => v = .tuple #[.agg cs.toArray, f s]) (f := f) (w := w) (a := x) (s := s) hk ht hs hx rfl
    rw [← (h2 : v = _)]
    exact h1 fn tmps hr htm, h⟩

structure HSt (w : World) (a : MV) (m : Mach) (seen : List Int) (L : List (List Int)) (g4 gL gn : Nat) (Ds : List Nat) (v : MV) (ar : List Arr) (W : World) : Prop where
  box : Blk W w.heap.size 25 (a.cells m)
  res : Blk W g4 25 (mv0.cells mach0)
  row : Blk W gL 76 (L.flatMap setC)
  mac : Blk W gn 25 (v.cells ⟨m.states, seen.length, wideL m seen m.starts, ar, m.ends⟩)
  st : OwnI w.heap.size 3 W v.As v.cs (wideL m seen m.starts)
  en : OwnI w.heap.size 3 W v.Ae v.ce m.ends
  ars : OwnR arrCells w.heap.size 85 3 W v.Aa v.ca ar
  bel : Below w.heap.size w W
  cl : Clean W Ds
  ge : ∀ D ∈ Ds, w.heap.size ≤ D
  lt : w.heap.size < g4 ∧ g4 < gL ∧ gL < gn
section
variable {w : World} {a : MV} {m : Mach} {seen : List Int} {L : List (List Int)} {g4 gL gn : Nat} {Ds : List Nat} {v : MV} {ar : List Arr} {W W' : World}
theorem HSt.below (h : HSt w a m seen L g4 gL gn Ds v ar W) (b : Below W.heap.size W W') : HSt w a m seen L g4 gL gn Ds v ar W' :=
  ⟨h.box.below b h.box.lt, h.res.below b h.res.lt, h.row.below b h.row.lt, h.mac.below b h.mac.lt, h.st.below b (Nat.le_refl _), h.en.below b (Nat.le_refl _), h.ars.below b (Nat.le_refl _), h.bel.trans (b.mono h.bel.size), h.cl.below b, h.ge, h.lt⟩
theorem HSt.grown (h : HSt w a m seen L g4 gL gn Ds v ar W) {row : Option Nat} {B : Nat} (hB : w.heap.size ≤ B) (hD : ∀ D ∈ Ds, D < B) (hg : W.grownBy W' row) (hr : ∀ r, row = some r → B ≤ r ∧ ∃ o : Obj, W.heap[r]? = some o ∧ o.isCells = false) : HSt w a m seen L g4 gL gn Ds v ar W' :=
  have h2 := fun r e => (hr r e).2
  ⟨blk_grown' h.box hg h2, blk_grown' h.res hg h2, blk_grown' h.row hg h2, blk_grown' h.mac hg h2, own_grown h.st hg h2, own_grown h.en hg h2, own_grown h.ars hg h2, h.bel.grown hg h.bel.size (fun r e => Nat.le_trans hB (hr r e).1), h.cl.keep fun D hd => hg.block D (h.cl.lt hd) (fun e => by
    have h3 := (hr D e.symm).1
    have h4 := hD D hd
    omega), h.ge, h.lt⟩
theorem HSt.mark (h : HSt w a m seen L g4 gL gn Ds v ar W) {B D : Nat} (hB : w.heap.size ≤ B) (hD : ∀ D ∈ Ds, D < B) (h1 : B ≤ D) (h2 : W.heap[D]? = some (.deferred (some []))) : HSt w a m seen L g4 gL gn (D :: Ds) v ar W :=
  ⟨h.box, h.res, h.row, h.mac, h.st, h.en, h.ars, h.bel, ⟨List.nodup_cons.2 ⟨fun hm => by have := hD D hm; omega, h.cl.1⟩, fun E hE => by
    rcases List.mem_cons.1 hE with rfl | hE
    · exact h2
    · exact h.cl.2 E hE⟩, fun E hE => by
    rcases List.mem_cons.1 hE with rfl | hE
    · omega
    · exact h.ge E hE, h.lt⟩
end

theorem setV_congr {S T : List Int} (h : ∀ x : Int, 0 ≤ x → x < 256 → (x ∈ S ↔ x ∈ T)) : setV S = setV T := by
  have : wordsOf S = wordsOf T := words_eq (wordsOf_words S) fun n hn => by
    rw [wordsOf_has S n hn]
    exact decide_eq_decide.2 (h n (by omega) (by omega))
  show setVal _ = setVal _
  rw [this]
theorem Clos.one {E : List (Int × Int)} {l : List Int} {x : Int} : Clos E l x ↔ ∃ s ∈ l, Clos E [s] x := by
  constructor
  · intro h
    induction h with
    | base x hx => exact ⟨x, hx, .base x (by simp)⟩
    | step p hp _ ih =>
      obtain ⟨s, hs, h⟩ := ih
      exact ⟨s, hs, .step p hp h⟩
  · rintro ⟨s, hs, h⟩
    exact Clos.trans (fun z hz => by rw [List.mem_singleton.1 hz]; exact .base s hs) h
theorem mem_wide_one {m : Mach} (hm : m.May) {seen l : List Int} (hl : ∀ x ∈ l, 0 ≤ x ∧ x < m.states) {x : Int} : x ∈ wideL m seen l ↔ ∃ s ∈ l, x ∈ wideL m seen [s] := by
  rw [mem_wideL hm hl, Clos.one]
  refine exists_congr fun s => and_congr_right fun hs => ?_
  rw [mem_wideL hm (fun x hx => by rw [List.mem_singleton.1 hx]; exact hl s hs)]
theorem wide_all {m : Mach} (hm : m.May) {seen l : List Int} (hl : IsRow l m.states) : setV (allF (wideR m seen) (rowS l)) = setV (wideL m seen l) := by
  have hr := row_range hl
  rw [rowS_row hl.strict (hl.small hm.2.1)]
  refine setV_congr fun x _ _ => ?_
  rw [mem_wide_one hm hr]
  unfold allF
  rw [List.mem_flatMap]
  refine exists_congr fun s => and_congr_right fun hs => ?_
  have h1 := hr s hs
  obtain ⟨n, rfl⟩ : ∃ n : Nat, s = n := ⟨s.toNat, by omega⟩
  rw [Int.toNat_natCast]
  exact mem_wideR hm h1.2
theorem wide_at {m : Mach} (hm : m.May) {seen : List Int} {s : Nat} (hs : (s : Int) < m.states) : setV ((wideR m seen).getD s []) = setV (wideL m seen [(s : Int)]) := setV_congr fun x _ _ => mem_wideR hm hs

theorem stepL_congr {m : Mach} (hm : m.May) {l l' : List Int} (h : ∀ x, x ∈ l ↔ x ∈ l') (e : Int) : stepL m l e = stepL m l' e :=
  Strict.ext (stepL_row hm l e).strict (stepL_row hm l' e).strict fun x => by
    rw [mem_stepL, mem_stepL]
    exact exists_congr fun a => and_congr_right fun _ => and_congr_right fun _ => and_congr_left fun _ => h a.frm
theorem hide_allW {w : World} (hT : Tab w) {m : Mach} (hm : m.May) {seen : List Int} {g : Nat} (hk : Blk w g 76 ((wideR m seen).flatMap setC)) {l : List Int} (hl : IsRow l m.states) :
    Cal Tryd.prog 51 [.slice (some ⟨g, 0, none⟩) m.states.toNat m.states.toNat, setV l] w fun v w' => v = setV (wideL m seen l) ∧ Below w.heap.size w w' := by
  have hn := wideR_len m seen
  have hr := row_range hl
  have h2 := hm.2.1
  have := hide_all (c := m.states.toNat) hT (sets_blk hk (ok := (· < w.heap.size)) hk.lt) (by omega) (S := l) (fun x hx => by have := hr x hx; omega)
  rw [hn, wide_all hm hl] at this
  exact this
theorem bl_mach012 {K : Fr → World → Prop} {u : World} {f : Fr} {d : Option Nat} {w : World} (x y : Int) (A : Option Addr) (n c : Nat) :
    Val1 Tryd.prog K (Instr.build 25 #[(0, .int .i64 x), (1, .int .i64 y), (2, .slice A n c)]) u f d w = K (updO f d (.agg [.int .i64 x, .int .i64 y, .slice A n c, .slice none 0 0, .slice none 0 0].toArray)) w := by
  refine bld_of ?_
  rw [built_of blt_mach]
  rw [fill_cons (off := 0) (size := 1) rfl rfl (by decide), fill_cons (off := 1) (size := 1) rfl rfl (by simp [putL, Value.cells]), fill_cons (off := 2) (size := 1) rfl rfl (by simp [putL, Value.cells]), fill_nil]
  simp [putL, Value.cells]
theorem hide_Hide {w : World} {a : MV} {m : Mach} (h : IsM (· < w.heap.size) w a m) (hf : m.Fits) {A : Option Addr} {c : Nat} {seen : List Int} (hs : Ints (· < w.heap.size) w A seen) (ns : seen.length ≤ 17592186043904) (hT : Tab w) :
    Cal Tryd.prog 19 [a.val m, .slice A seen.length c] w (HideRes m seen w) := by
  have e5 : ∀ (a : MV) (m : Mach), tySize Tryd.prog 25 = some (a.cells m).length := fun a m => ty_sz_25
  refine cal_of_marks Tryd.func19 rfl rfl c_hide_Hide k_hide_Hide (by simp) (hideRes_own m seen w) ?_
  intro code act hc hfit
  obtain ⟨c1, r1, rfl, h1, hc⟩ := inv_sq hc
  obtain ⟨c2, r2, rfl, h2, hc⟩ := inv_sq hc
  obtain ⟨c3, r3, rfl, h3, hc⟩ := inv_sq hc
  obtain ⟨c4, r4, rfl, h4, hc⟩ := inv_sq hc
  obtain ⟨c5, r5, rfl, h5, hc⟩ := inv_sq hc
  obtain ⟨c6, c7, rfl, h6, h7⟩ := inv_sq hc
  obtain ⟨c6a, c6b, rfl, h6a, h6b⟩ := inv_sq h6
  obtain ⟨c6l, rfl, h6l⟩ := inv_bl h6b
  obtain ⟨cl, rfl, hcl⟩ := inv_lo h6l
  clear hc h6 h6b h6l
  refine wps_seq (wps_cons (fun _ _ h => wps_seq (wps_cons (fun _ _ h => wps_seq (wps_cons (fun _ _ h => wps_seq (wps_cons (fun _ _ h => wps_seq (wps_cons (fun _ _ h => wps_seq (wps_seq h)) h)) h)) h)) h)) ?_)
  refine segs (k1 := [c1, c2, c3, c4, c5, c6a]) (k2 := [.block 0 (.loop cl), c7]) (n := 100000) (R := fun f w' => ∃ g e, f 4 = .pointer (some ⟨g, 0, none⟩) ∧ Blk w' g 25 (mv0.cells mach0) ∧ HideRes m seen w (.tuple #[mv0.val mach0, f 5]) w' ∧ f 5 = .int .i64 e)
    (E := fun f w' => ∃ g4 gL gn v, (m.May ∧ IsRow seen m.events) ∧ (f 1 = .slice A seen.length c ∧ f 2 = .pointer (some ⟨w.heap.size, 0, none⟩) ∧ f 4 = .pointer (some ⟨g4, 0, none⟩) ∧ f 6 = .slice (some ⟨gL, 0, none⟩) m.states.toNat m.states.toNat ∧ f 7 = .pointer (some ⟨gn, 0, none⟩) ∧ f 44 = .int .i64 m.states ∧ f 45 = .int .i64 0) ∧
      HSt w a m seen (wideR m seen) g4 gL gn [] v (hideA m seen 0) w') mixed hfit ?_ ?_ ?_
  · show x _ _ _ _ [.c (cC _ c1), .c (cC _ c2), .c (cC _ c3), .c (cC _ c4), .c (cC _ c5), .c (cC _ c6a), .lp _] _ _ _
    rw [h1, h2, h3, h4, h5, h6a]
    clear h1 h2 h3 h4 h5 h6a h7 hcl
    simp (disch := first | with_reducible assumption | omega) only [push_cast, x_blk, x_cd, ↓reduceIte, Nat.reduceEqDiff, List.map_cons, List.map_nil, Int.reduceEq, Int.lt_irrefl]
    refine blk_of (box_agg _ (a.cells m)) ?_
    intro w1 k1 b1 z1
    simp (disch := first | with_reducible assumption | omega) only [push_cast, x_blk, x_cd, ↓reduceIte, Nat.reduceEqDiff, List.map_cons, List.map_nil, Int.reduceEq, Int.lt_irrefl]
    refine blk_of (cs := mv0.cells mach0) al_25 ?_
    intro w2 k2 b2 z2
    replace k1 := k1.below b2 k1.lt
    have bb := b1.trans (b2.mono b1.size)
    simp (disch := first | with_reducible assumption | omega) only [push_cast, x_blk, x_cd, ↓reduceIte, Nat.reduceEqDiff, List.map_cons, List.map_nil, Int.reduceEq, Int.lt_irrefl, k1.mA ty_ag_25 ty_sz_25]
    refine call_of (machine_May (h.up bb) hf) ?_
    rintro v w3 ⟨rfl, b3⟩
    replace k1 := k1.below b3 k1.lt
    replace k2 := k2.below b3 k2.lt
    replace bb := bb.trans (b3.mono bb.size)
    have z2' : w.heap.size ≤ w1.heap.size := by omega
    by_cases p1 : m.May
    case neg =>
      simp (disch := first | with_reducible assumption | omega) only [push_cast, x_blk, x_cd, ↓reduceIte, Nat.reduceEqDiff, List.map_cons, List.map_nil, Int.reduceEq, Int.lt_irrefl, decide_eq_false p1, mach0_built]
      refine sto_blk k2 (cs := mv0.cells mach0) (e5 _ _) rfl (by rfl) ?_
      intro w4 k4 g4 z4
      simp (disch := first | with_reducible assumption | omega) only [push_cast, x_blk, x_cd, ↓reduceIte, Nat.reduceEqDiff, List.map_cons, List.map_nil, Int.reduceEq, Int.lt_irrefl]
      exact ⟨_, 2, (by simp only [push_cast, ↓reduceIte, Nat.reduceEqDiff, Int.reduceEq]), k4, ⟨mv0, mach0, 2, (by simp only [push_cast, ↓reduceIte, Nat.reduceEqDiff, Int.reduceEq]), mach0_is _ _, g4.below bb bb.size (by intro a ha; injection ha with ha; subst ha; exact z2'), .inl ⟨fun hh => p1 hh.1, rfl, rfl, rfl⟩⟩, (by simp only [push_cast, ↓reduceIte, Nat.reduceEqDiff, Int.reduceEq])⟩
    simp (disch := first | with_reducible assumption | omega) only [push_cast, x_blk, x_cd, ↓reduceIte, Nat.reduceEqDiff, List.map_cons, List.map_nil, Int.reduceEq, Int.lt_irrefl, decide_eq_true p1, k1.m1 ty_ag_3]
    refine call_of (row_Is (hs.up bb) c m.events (by omega)) ?_
    rintro v w4 ⟨rfl, s4⟩
    replace k1 := k1.same s4
    replace k2 := k2.same s4
    replace bb := bb.trans (s4.below _)
    by_cases p2 : IsRow seen m.events
    case neg =>
      simp (disch := first | with_reducible assumption | omega) only [push_cast, x_blk, x_cd, ↓reduceIte, Nat.reduceEqDiff, List.map_cons, List.map_nil, Int.reduceEq, Int.lt_irrefl, decide_eq_false p2, mach0_built]
      refine sto_blk k2 (cs := mv0.cells mach0) (e5 _ _) rfl (by rfl) ?_
      intro w4 k4 g4 z4
      simp (disch := first | with_reducible assumption | omega) only [push_cast, x_blk, x_cd, ↓reduceIte, Nat.reduceEqDiff, List.map_cons, List.map_nil, Int.reduceEq, Int.lt_irrefl]
      exact ⟨_, 2, (by simp only [push_cast, ↓reduceIte, Nat.reduceEqDiff, Int.reduceEq]), k4, ⟨mv0, mach0, 2, (by simp only [push_cast, ↓reduceIte, Nat.reduceEqDiff, Int.reduceEq]), mach0_is _ _, g4.below bb bb.size (by intro a ha; injection ha with ha; subst ha; exact z2'), .inl ⟨fun hh => p2 hh.2, rfl, rfl, rfl⟩⟩, (by simp only [push_cast, ↓reduceIte, Nat.reduceEqDiff, Int.reduceEq])⟩
    simp (disch := first | with_reducible assumption | omega) only [push_cast, x_blk, x_cd, ↓reduceIte, Nat.reduceEqDiff, List.map_cons, List.map_nil, Int.reduceEq, Int.lt_irrefl, decide_eq_true p2, k1.mA ty_ag_25 ty_sz_25]
    refine call_of (hide_wide (h.up bb) p1 (hs.up bb) ns) ?_
    rintro v w5 ⟨gL, rfl, gL0, kL, b5⟩
    have hgL : w1.heap.size < gL := by have := k2.lt; omega
    replace k1 := k1.below b5 k1.lt
    replace k2 := k2.below b5 k2.lt
    replace bb := bb.trans (b5.mono bb.size)
    have bd : Below w5.heap.size w5 w5.drew := (Same.refl w5).drew.below _
    replace k1 := k1.below bd k1.lt
    replace k2 := k2.below bd k2.lt
    replace kL := kL.below bd kL.lt
    replace bb := bb.trans (bd.mono bb.size)
    have gLu := kL.lt
    generalize hu : w5.drew = u at *
    have rs : IsRow m.starts m.states := p1.2.2.2.2.2.1
    have hsm : Small m.starts := rs.small p1.2.1
    have hls := hf.lenS
    have bu : Below u.heap.size u u := Below.refl _ _
    have hTu : Tab u := hT.below bb hT.lt
    have hau := h.up bb
    have zu := bb.size
    have k8 : True := trivial
    have ho : True := trivial
    simp (disch := first | with_reducible assumption | omega) only [push_cast, x_blk, x_cd, ↓reduceIte, Nat.reduceEqDiff, List.map_cons, List.map_nil, Int.reduceEq, Int.lt_irrefl, hu, k1.m0 ty_ag_3, k1.m2 ty_ag_22]
    refine cutT (fun f' w' => ∃ (gn : Nat) (S : Option Addr) (cs : Nat), (f' 1 = .slice A seen.length c ∧ f' 2 = .pointer (some ⟨w.heap.size, 0, none⟩) ∧ f' 4 = .pointer (some ⟨w1.heap.size, 0, none⟩) ∧ f' 5 = .int .i64 0 ∧ f' 6 = .slice (some ⟨gL, 0, none⟩) m.states.toNat m.states.toNat ∧ f' 7 = .pointer (some ⟨gn, 0, none⟩)) ∧
        u.heap.size ≤ gn ∧ Blk w' gn 25 (MV.cells ⟨S, cs, none, 0, none, 0⟩ ⟨m.states, seen.length, wideL m seen m.starts, [], []⟩) ∧ OwnI u.heap.size 3 w' S cs (wideL m seen m.starts) ∧ Below u.heap.size u w') 20000 40000 (by decide) ?_ ?_
    · intro E hE
      repeat'
        first
        | (with_reducible refine And.intro bu ?_)
        | (with_reducible refine And.intro ?_ ?_)
        | (simp only [x_t_two]; with_reducible refine And.intro ?_ ?_)
        | (with_reducible show Eff1 _ _ _ _ (some 7) _
           refine blk_of (cs := mv0.cells mach0) al_25 ?_
           have gn0 := bu.size
           intro wn k8 bn zn
           try have ho := ho.below bn (Nat.le_refl _)
           have bu := bu.trans (bn.mono bu.size))
        | (with_reducible show CallX _ _ _ _ _ (some 33) _
           refine call_of (machine_Of' (hau.up bu).starts a.cs (by omega) hsm) ?_
           rintro v wn ⟨rfl, bn⟩
           try have k8 := k8.below bn k8.lt
           have bu := bu.trans (bn.mono bu.size))
        | (with_reducible show CallX _ _ _ _ _ (some 34) _
           refine call_of (hide_allW (hTu.below bu (by have := hTu.lt; omega)) p1 (kL.below bu kL.lt) rs) ?_
           rintro v wn ⟨rfl, bn⟩
           try have k8 := k8.below bn k8.lt
           have bu := bu.trans (bn.mono bu.size))
        | (with_reducible show CallX _ _ _ _ _ (some 35) _
           refine call_of (set_Row' (wideL_strict m seen m.starts) (wideL_small m seen m.starts) (hTu.below bu (by have := hTu.lt; omega))) ?_
           rintro v wn ⟨S, cs, rfl, ho, bn⟩
           have ho := ho.base bu.size
           try have k8 := k8.below bn k8.lt
           have bu := bu.trans (bn.mono bu.size))
        | (with_reducible show Eff1 _ _ _ _ none _
           refine sto_blk k8 (cs := MV.cells ⟨S, cs, none, 0, none, 0⟩ ⟨m.states, seen.length, wideL m seen m.starts, [], []⟩) (e5 _ _) rfl (by rfl) ?_
           intro wn k9 gn9 zn
           have ho := ho.grew gn9 (.inr (ho.ne_blk k8 (by decide)))
           simp (disch := first | with_reducible assumption | omega) only [push_cast, x_blk, x_cd, ↓reduceIte, Nat.reduceEqDiff, List.map_cons, List.map_nil, Int.reduceEq, Int.lt_irrefl]
           exact hE _ _ ⟨_, S, cs, (by simp only [push_cast, ↓reduceIte, Nat.reduceEqDiff, Int.reduceEq, and_self, eq_self]), gn0, k9, ho, gn9.below bu bu.size (by intro a ha; injection ha with ha; subst ha; exact gn0)⟩)
        | simp (disch := first | with_reducible assumption | omega) only [push_cast, x_blk, x_cd, ↓reduceIte, Nat.reduceEqDiff, List.map_cons, List.map_nil, Int.reduceEq, Int.lt_irrefl, bl_mach012]
    · rintro f9 w9 ⟨gn, S, cs, fr, gn0, k8, ho, b9⟩
      replace k1 := k1.below b9 k1.lt
      replace k2 := k2.below b9 k2.lt
      replace kL := kL.below b9 kL.lt
      replace bb := bb.trans (b9.mono zu)
      have z9 := b9.size
      have g1 := k1.lt
      have hgn : gL < gn := by omega
      clear hTu hau bd
      have k40 : Own w9.heap.size 3 1 w9 none 0 0 (iv []) := Own.nil _ _ _ _
      simp (disch := first | with_reducible assumption | omega) only [push_cast, x_blk, x_cd, ↓reduceIte, Nat.reduceEqDiff, List.map_cons, List.map_nil, Int.reduceEq, Int.lt_irrefl, fr, k1.m4 ty_ag_22, k8.m4 ty_ag_22]
      refine app_ints (l := []) slT_22 k40 (h.up bb).ends (by have := hf.lenE; simp; omega) (Nat.le_refl _) ?_
      intro E2 ce w10 oE g10 _ z10
      rw [List.nil_append] at oE
      have b10 : Below w9.heap.size w9 w10 := g10.below (Below.refl _ _) (Nat.le_refl _) (fun a ha => by cases ha)
      replace k1 := k1.below b10 k1.lt
      replace k2 := k2.below b10 k2.lt
      replace kL := kL.below b10 kL.lt
      replace k8 := k8.below b10 k8.lt
      replace ho := ho.below b10 (Nat.le_refl _)
      replace bb := bb.trans (b10.mono bb.size)
      simp (disch := first | with_reducible assumption | omega) only [push_cast, x_blk, x_cd, ↓reduceIte, Nat.reduceEqDiff, List.map_cons, List.map_nil, Int.reduceEq, Int.lt_irrefl, fr]
      refine sto_slice k8 (by kernel_rfl) 4 (by simp) _ _ _ ?_
      intro w11 k11 g11 z11
      have k12 : Blk w11 gn 25 (MV.cells ⟨S, cs, none, 0, E2, ce⟩ ⟨m.states, seen.length, wideL m seen m.starts, hideA m seen 0, m.ends⟩) := by
        have k := k11
        simp only [List.length_nil, Nat.zero_add] at k
        exact k
      have ho2 := ho.grew g11 (.inr (ho.ne_blk k8 (by decide)))
      have oE2 := oE.grew g11 (.inr (oE.ne_blk k8 (by decide)))
      replace k1 := k1.grown g11.by_ (by simp; omega)
      replace k2 := k2.grown g11.by_ (by simp; omega)
      replace kL := kL.grown g11.by_ (by simp; omega)
      replace bb := g11.below bb bb.size (by intro a ha; injection ha with ha; subst ha; show w.heap.size ≤ gn; omega)
      simp (disch := first | with_reducible assumption | omega) only [push_cast, x_blk, x_cd, ↓reduceIte, Nat.reduceEqDiff, List.map_cons, List.map_nil, Int.reduceEq, Int.lt_irrefl, fr, k1.m0 ty_ag_3]
      exact ⟨w1.heap.size, gL, gn, ⟨S, cs, none, 0, E2, ce⟩, ⟨p1, p2⟩, (by simp only [push_cast, ↓reduceIte, Nat.reduceEqDiff, Int.reduceEq, fr, and_self, eq_self]), k1, k2, kL, k12, ho2.base (by omega), oE2.base (by omega), Own.nil _ _ _ _, bb, clean_nil _, (fun D hD => by cases hD), (by omega), hgL, hgn⟩
  · rintro a1 f w1 hf1 ⟨g4, gL, gn, v, ⟨p1, p2⟩, fr, hst⟩
    obtain ⟨d1, u1, rfl, hd1, hu1⟩ := inv_sq hcl
    obtain ⟨d2, u2, rfl, hd2, hu2⟩ := inv_sq hu1
    obtain ⟨d3, d4, rfl, hd3, hd4⟩ := inv_sq hu2
    obtain ⟨x1, x2, rfl, hx1, hx2⟩ := inv_cd hd2
    obtain rfl := inv_ex hx2
    obtain ⟨d3b, rfl, hd3b⟩ := inv_bl hd3
    obtain ⟨m1, u3, rfl, hm1, hu3⟩ := inv_sq hd3b
    obtain ⟨m2', m3, rfl, hm2', hm3⟩ := inv_sq hu3
    obtain ⟨m2, m2b, rfl, hm2, hm2b⟩ := inv_sq hm2'
    obtain ⟨ml', rfl, hml'⟩ := inv_bl hm2b
    obtain ⟨ml, rfl, hml⟩ := inv_lo hml'
    obtain ⟨i1, u4, rfl, hi1, hu4⟩ := inv_sq hml
    obtain ⟨i2, u5, rfl, hi2, hu5⟩ := inv_sq hu4
    obtain ⟨i3, i4, rfl, hi3, hi4⟩ := inv_sq hu5
    obtain ⟨y1, y2, rfl, hy1, hy2⟩ := inv_cd hi2
    obtain rfl := inv_ex hy2
    obtain ⟨i3b, rfl, hi3b⟩ := inv_bl hi3
    obtain ⟨q1, u6, rfl, hq1, hu6⟩ := inv_sq hi3b
    obtain ⟨q2, q3, rfl, hq2, hq3⟩ := inv_sq hu6
    obtain ⟨q3b, rfl, hrf⟩ := inv_bl hq3
    clear hcl hu1 hu2 hu3 hu4 hu5 hu6 hd2 hd3 hd3b hm2' hm2b hml' hml hi2 hi3 hi3b hq3 hx2 hy2 h1 h2 h3 h4 h5 h6a
    obtain ⟨n, hn⟩ : ∃ n : Nat, m.states = n := ⟨m.states.toNat, by have := p1.1; omega⟩
    have hnt : m.states.toNat = n := by omega
    have hst2 : m.states ≤ 256 := p1.2.1
    have hlt := hst.lt
    refine wps_loop (fun j ac W => ∃ (k : Nat) (f : Fr) (Ds : List Nat) (v : MV), j = n - k ∧ k ≤ n ∧ Fits Tryd.f19.ntmps (Ds.map coll) ac f ∧ (hideA m seen k).length ≤ 4096 ∧
      (f 1 = .slice A seen.length c ∧ f 2 = .pointer (some ⟨w.heap.size, 0, none⟩) ∧ f 4 = .pointer (some ⟨g4, 0, none⟩) ∧ f 6 = .slice (some ⟨gL, 0, none⟩) m.states.toNat m.states.toNat ∧ f 7 = .pointer (some ⟨gn, 0, none⟩) ∧ f 44 = .int .i64 m.states ∧ f 45 = .int .i64 k) ∧
      HSt w a m seen (wideR m seen) g4 gL gn Ds v (hideA m seen k) W) n ⟨0, f, [], v, rfl, Nat.zero_le _, hf1, by rw [show hideA m seen 0 = [] from rfl]; exact Nat.zero_le _, fr, hst⟩ ?_
    clear fr hst hf1 f v w1 a1
    rintro j a1 W ⟨k, f, Ds, v, rfl, hk, hf1, hbig, fr, hst⟩
    refine wps_seq (wps_cons (fun _ _ h => wps_seq (wps_cons (fun _ _ h => wps_seq h) h)) ?_)
    by_cases hkn : (k : Int) < m.states
    case neg =>
      have hke : k = m.states.toNat := by omega
      subst hke
      refine segs (k1 := [d1]) (n := 1000) (R := fun _ _ => False) (k2 := [_, _, _])
        (E := fun f' w' => (f' 46 = .bool false ∧ f' 4 = .pointer (some ⟨g4, 0, none⟩) ∧ f' 7 = .pointer (some ⟨gn, 0, none⟩)) ∧ w' = W) mixed hf1 ?_ ?_ (fun _ _ _ _ h => h.elim)
      · show x _ _ _ _ [.c (cC _ d1), .lp _] _ _ _
        rw [hd1]
        simp (disch := first | with_reducible assumption | omega) only [push_cast, x_blk, x_cd, ↓reduceIte, Nat.reduceEqDiff, List.map_cons, List.map_nil, Int.reduceEq, Int.lt_irrefl, fr, hkn]
        exact ⟨(by simp only [push_cast, ↓reduceIte, Nat.reduceEqDiff, Int.reduceEq, fr, and_self, eq_self]), trivial⟩
      rintro a2 f2 w2 hf2 ⟨fr2, rfl⟩
      refine wps_cond hf2 (b := false) fr2.1 (wps_exit ?_)
      show wps Tryd.prog _ [c7] a2 w2
      refine segs_end (k1 := [c7]) (n := 1000) (R := fun f w' => f 4 = .pointer (some ⟨g4, 0, none⟩) ∧ f 5 = .int .i64 0 ∧ Blk w' g4 25 (v.cells (hideM m seen)) ∧ Clean w' Ds ∧ IsM (· < w'.heap.size) w' v (hideM m seen) ∧ Below w.heap.size w w') mixed hf2 ?_ ?_
      · show x _ _ _ _ [.c (cC _ c7), .lp _] _ _ _
        rw [h7]
        simp (disch := first | with_reducible assumption | omega) only [push_cast, x_blk, x_cd, ↓reduceIte, Nat.reduceEqDiff, List.map_cons, List.map_nil, Int.reduceEq, Int.lt_irrefl, fr2, hst.mac.mA ty_ag_25 ty_sz_25]
        refine sto_mach hst.res rfl _ _ ?_
        intro w3 k3 g3 z3
        simp (disch := first | with_reducible assumption | omega) only [push_cast, x_blk, x_cd, ↓reduceIte, Nat.reduceEqDiff, List.map_cons, List.map_nil, Int.reduceEq, Int.lt_irrefl, fr2]
        have hsz := hst.mac.lt
        have kp : ∀ b, (w.heap.size ≤ b ∧ b ≠ g4) ∧ b < w2.heap.size → w3.heap[b]? = w2.heap[b]? ∧ b < w3.heap.size := fun b hb => ⟨g3.by_.block b hb.2 (by simp; omega), by omega⟩
        have hb3 := g3.below hst.bel hst.bel.size (by intro a ha; injection ha with ha; subst ha; show w.heap.size ≤ g4; omega)
        have nI : ∀ {A : Option Addr} {c : Nat} {l : List Int}, OwnI w.heap.size 3 w2 A c l → Ints (· < w3.heap.size) w3 A l := fun ho =>
          ((((OwnI.ints ho).both (OwnI.ints ho).lt).mono fun b hb => (⟨⟨hb.1.1, fun e => (ho.ne_blk hst.res (by decide)) (by rw [hb.1.2, e])⟩, hb.2⟩ : (w.heap.size ≤ b ∧ b ≠ g4) ∧ b < w2.heap.size))).keep' kp
        exact ⟨(by simp only [push_cast, ↓reduceIte, Nat.reduceEqDiff, Int.reduceEq, fr2]), (by simp only [push_cast, ↓reduceIte, Nat.reduceEqDiff, Int.reduceEq]), k3, hst.cl.grewB hst.res g3, ⟨nI hst.st, (Arrs.of_recs (((OwnR.recs hst.ars arrEnc (by decide)).both (Recs.lt arrEnc (by decide) (OwnR.recs hst.ars arrEnc (by decide)))).mono fun b hb => (⟨⟨hb.1.1, fun e => (hst.ars.ne_blk hst.res (by decide)) (by rw [hb.1.2, e])⟩, hb.2⟩ : (w.heap.size ≤ b ∧ b ≠ g4) ∧ b < w2.heap.size))).keep' kp, nI hst.en⟩, hb3⟩
      · rintro e a3 f3 w3 he hf3 ⟨hx4, hx5, k3, hc3, hI3, hb3⟩
        exact finM_c2 he hf3 hc3 hst.ge k3 ty_ag_25 (e5 _ _) hx4 ⟨v, hideM m seen, 0, by rw [hx5], hI3, hb3, .inr (.inl ⟨⟨p1, p2⟩, hbig, rfl, rfl⟩)⟩
    refine segs (k1 := [d1]) (n := 1000) (R := fun _ _ => False) (k2 := [_, _, _])
      (E := fun f' w' => (f' 46 = .bool true ∧ f' 1 = .slice A seen.length c ∧ f' 2 = .pointer (some ⟨w.heap.size, 0, none⟩) ∧ f' 4 = .pointer (some ⟨g4, 0, none⟩) ∧ f' 6 = .slice (some ⟨gL, 0, none⟩) m.states.toNat m.states.toNat ∧ f' 7 = .pointer (some ⟨gn, 0, none⟩) ∧ f' 44 = .int .i64 m.states ∧ f' 45 = .int .i64 k) ∧ w' = W) mixed hf1 ?_ ?_ (fun _ _ _ _ h => h.elim)
    · show x _ _ _ _ [.c (cC _ d1), .lp _] _ _ _
      rw [hd1]
      simp (disch := first | with_reducible assumption | omega) only [push_cast, x_blk, x_cd, ↓reduceIte, Nat.reduceEqDiff, List.map_cons, List.map_nil, Int.reduceEq, Int.lt_irrefl, fr, hkn]
      exact ⟨(by simp only [push_cast, ↓reduceIte, Nat.reduceEqDiff, Int.reduceEq, fr, and_self, eq_self]), trivial⟩
    clear fr hf1
    rintro a2 f2 w2 hf2 ⟨fr, rfl⟩
    refine wps_cond hf2 (b := true) fr.1 (wps_skip (inv_sk hx1) (wps_block (wps_one ?_)))
    refine wps_seq (wps_cons (fun _ _ h => wps_seq (wps_seq h)) ?_)
    refine segs (k1 := [m1, m2]) (n := 1000) (R := fun _ _ => False) (k2 := [.block 2 (.loop _), m3])
      (E := fun f' w' => ∃ g8, gn < g8 ∧ (f' 1 = .slice A seen.length c ∧ f' 2 = .pointer (some ⟨w.heap.size, 0, none⟩) ∧ f' 4 = .pointer (some ⟨g4, 0, none⟩) ∧ f' 6 = .slice (some ⟨gL, 0, none⟩) m.states.toNat m.states.toNat ∧ f' 7 = .pointer (some ⟨gn, 0, none⟩) ∧ f' 8 = .pointer (some ⟨g8, 0, none⟩) ∧ f' 44 = .int .i64 m.states ∧ f' 45 = .int .i64 k ∧ f' 48 = .slice A seen.length c ∧ f' 49 = .int .i64 seen.length ∧ f' 50 = .int .i64 0) ∧
        Blk w' g8 3 [.int .i64 k] ∧ HSt w a m seen (wideR m seen) g4 gL gn Ds v (hideA m seen k) w') mixed hf2 ?_ ?_ (fun _ _ _ _ h => h.elim)
    · show x _ _ _ _ [.c (cC _ m1), .c (cC _ m2), .lp _] _ _ _
      rw [hm1, hm2]
      simp (disch := first | with_reducible assumption | omega) only [push_cast, x_blk, x_cd, ↓reduceIte, Nat.reduceEqDiff, List.map_cons, List.map_nil, Int.reduceEq, Int.lt_irrefl, fr]
      refine blk_of (cs := [.int .i64 0]) al_3 ?_
      intro w3 k3 b3 z3
      simp (disch := first | with_reducible assumption | omega) only [push_cast, x_blk, x_cd, ↓reduceIte, Nat.reduceEqDiff, List.map_cons, List.map_nil, Int.reduceEq, Int.lt_irrefl, fr]
      refine sto_cell k3 (by kernel_rfl) 0 (by simp) _ _ ?_
      intro w4 k4 g4' z4
      simp (disch := first | with_reducible assumption | omega) only [push_cast, x_blk, x_cd, ↓reduceIte, Nat.reduceEqDiff, List.map_cons, List.map_nil, Int.reduceEq, Int.lt_irrefl, fr]
      have b4 := g4'.below b3 b3.size (by intro a ha; injection ha with ha; subst ha; exact Nat.le_refl _)
      exact ⟨w2.heap.size, hst.mac.lt, (by simp only [push_cast, ↓reduceIte, Nat.reduceEqDiff, Int.reduceEq, fr, and_self, eq_self]), k4, hst.below b4⟩
    clear fr hst hf2
    rintro a3 f3 w3 hf3 ⟨g8, hg8, fr, k8, hst⟩
    refine wps_loop (fun j ac W => ∃ (i : Nat) (f : Fr) (Ds : List Nat) (v : MV), j = seen.length - i ∧ i ≤ seen.length ∧ Fits Tryd.f19.ntmps (Ds.map coll) ac f ∧
      (f 1 = .slice A seen.length c ∧ f 2 = .pointer (some ⟨w.heap.size, 0, none⟩) ∧ f 4 = .pointer (some ⟨g4, 0, none⟩) ∧ f 6 = .slice (some ⟨gL, 0, none⟩) m.states.toNat m.states.toNat ∧ f 7 = .pointer (some ⟨gn, 0, none⟩) ∧ f 8 = .pointer (some ⟨g8, 0, none⟩) ∧ f 44 = .int .i64 m.states ∧ f 45 = .int .i64 k ∧ f 48 = .slice A seen.length c ∧ f 49 = .int .i64 seen.length ∧ f 50 = .int .i64 i) ∧
      Blk W g8 3 [.int .i64 k] ∧ HSt w a m seen (wideR m seen) g4 gL gn Ds v (hideA m seen k ++ hideF m seen k i) W) seen.length ⟨0, f3, Ds, v, rfl, Nat.zero_le _, hf3, fr, k8, by rw [show hideF m seen k 0 = [] from rfl, List.append_nil]; exact hst⟩ ?_
    clear fr hst k8 hf3 f3 w3 a3 a2 f2 w2 v Ds
    rintro j a1 W ⟨i, f, Ds, v, rfl, hi, hf1, fr, k8, hst⟩
    refine wps_seq (wps_cons (fun _ _ h => wps_seq (wps_cons (fun _ _ h => wps_seq h) h)) ?_)
    by_cases hin : (i : Int) < (seen.length : Int)
    case neg =>
      have hie : i = seen.length := by omega
      subst hie
      rw [← hideA_succ] at hst
      refine segs (k1 := [i1]) (n := 1000) (R := fun _ _ => False) (k2 := [_, _, _])
        (E := fun f' w' => (f' 51 = .bool false ∧ f' 1 = .slice A seen.length c ∧ f' 2 = .pointer (some ⟨w.heap.size, 0, none⟩) ∧ f' 4 = .pointer (some ⟨g4, 0, none⟩) ∧ f' 6 = .slice (some ⟨gL, 0, none⟩) m.states.toNat m.states.toNat ∧ f' 7 = .pointer (some ⟨gn, 0, none⟩) ∧ f' 44 = .int .i64 m.states ∧ f' 45 = .int .i64 k) ∧ w' = W) mixed hf1 ?_ ?_ (fun _ _ _ _ h => h.elim)
      · show x _ _ _ _ [.c (cC _ i1), .lp _] _ _ _
        rw [hi1]
        simp (disch := first | with_reducible assumption | omega) only [push_cast, x_blk, x_cd, ↓reduceIte, Nat.reduceEqDiff, List.map_cons, List.map_nil, Int.reduceEq, Int.lt_irrefl, fr, hin, Int.lt_irrefl]
        exact ⟨(by simp only [push_cast, ↓reduceIte, Nat.reduceEqDiff, Int.reduceEq, fr, and_self, eq_self]), trivial⟩
      clear fr hf1
      rintro a2 f2 w2 hf2 ⟨fr, rfl⟩
      refine wps_cond hf2 (b := false) fr.1 (wps_exit ?_)
      show wps Tryd.prog _ [m3] a2 w2
      have hle : ((4096 : Int) < ((hideA m seen (k + 1)).length : Int)) ↔ 4096 < (hideA m seen (k + 1)).length := by omega
      refine segs (k1 := [m3]) (k2 := []) (n := 1000) (R := fun f w' => f 4 = .pointer (some ⟨g4, 0, none⟩) ∧ f 5 = .int .i64 1 ∧ Blk w' g4 25 (mv0.cells mach0) ∧ Clean w' Ds ∧ Below w.heap.size w w' ∧ 4096 < (hideA m seen (k + 1)).length)
        (E := fun f' w' => ((hideA m seen (k + 1)).length ≤ 4096 ∧ f' 1 = .slice A seen.length c ∧ f' 2 = .pointer (some ⟨w.heap.size, 0, none⟩) ∧ f' 4 = .pointer (some ⟨g4, 0, none⟩) ∧ f' 6 = .slice (some ⟨gL, 0, none⟩) m.states.toNat m.states.toNat ∧ f' 7 = .pointer (some ⟨gn, 0, none⟩) ∧ f' 44 = .int .i64 m.states ∧ f' 45 = .int .i64 k) ∧ w' = w2) mixed hf2 ?_ ?_ ?_
      · show x _ _ _ _ [.c (cC _ m3), .lp _] _ _ _
        rw [hm3]
        by_cases hbg : 4096 < (hideA m seen (k + 1)).length
        · simp (disch := first | with_reducible assumption | omega) only [push_cast, x_blk, x_cd, ↓reduceIte, Nat.reduceEqDiff, List.map_cons, List.map_nil, Int.reduceEq, Int.lt_irrefl, fr, hst.mac.m3 ty_ag_23, eq_true (hle.2 hbg), mach0_built]
          refine sto_blk hst.res (cs := mv0.cells mach0) (e5 _ _) rfl (by rfl) ?_
          intro w4 k4 g4' z4
          simp (disch := first | with_reducible assumption | omega) only [push_cast, x_blk, x_cd, ↓reduceIte, Nat.reduceEqDiff, List.map_cons, List.map_nil, Int.reduceEq, Int.lt_irrefl, fr]
          exact ⟨(by simp only [push_cast, ↓reduceIte, Nat.reduceEqDiff, Int.reduceEq, fr]), (by simp only [push_cast, ↓reduceIte, Nat.reduceEqDiff, Int.reduceEq]), k4, hst.cl.grewB hst.res g4', g4'.below hst.bel hst.bel.size (by intro a ha; injection ha with ha; subst ha; show w.heap.size ≤ g4; omega), hbg⟩
        · simp (disch := first | with_reducible assumption | omega) only [push_cast, x_blk, x_cd, ↓reduceIte, Nat.reduceEqDiff, List.map_cons, List.map_nil, Int.reduceEq, Int.lt_irrefl, fr, hst.mac.m3 ty_ag_23, eq_false (fun hh => hbg (hle.1 hh))]
          exact ⟨⟨by omega, (by simp only [push_cast, ↓reduceIte, Nat.reduceEqDiff, Int.reduceEq, fr, and_self, eq_self])⟩, trivial⟩
      · rintro a4 f4 w4 hf4 ⟨fr4, rfl⟩
        show wps Tryd.prog _ [d4] a4 w4
        refine segs (k1 := [d4]) (k2 := []) (n := 1000) (E := fun f' w' => (f' 1 = .slice A seen.length c ∧ f' 2 = .pointer (some ⟨w.heap.size, 0, none⟩) ∧ f' 4 = .pointer (some ⟨g4, 0, none⟩) ∧ f' 6 = .slice (some ⟨gL, 0, none⟩) m.states.toNat m.states.toNat ∧ f' 7 = .pointer (some ⟨gn, 0, none⟩) ∧ f' 44 = .int .i64 m.states ∧ f' 45 = .int .i64 ((k + 1 : Nat) : Int)) ∧ w' = w4) (R := fun _ _ => False) mixed hf4 ?_ ?_ (fun _ _ _ _ h => h.elim)
        · show x _ _ _ _ [.c (cC _ d4), .lp _] _ _ _
          rw [hd4]
          simp (disch := first | with_reducible assumption | omega) only [push_cast, x_blk, x_cd, ↓reduceIte, Nat.reduceEqDiff, List.map_cons, List.map_nil, Int.reduceEq, Int.lt_irrefl, fr4.2]
          exact ⟨(by simp only [push_cast, ↓reduceIte, Nat.reduceEqDiff, Int.reduceEq, fr4.2, and_self, eq_self]), trivial⟩
        · rintro a5 f5 w5 hf5 ⟨fr5, rfl⟩
          exact ⟨n - (k + 1), by omega, k + 1, f5, Ds, v, rfl, by omega, hf5, fr4.1, fr5, hst⟩
      · rintro a4 f4 w4 hf4 ⟨hx4, hx5, k4, hc4, hb4, hbg⟩
        exact finM_c2 (.inr rfl) hf4 hc4 hst.ge k4 ty_ag_25 (e5 _ _) hx4 ⟨mv0, mach0, 1, by rw [hx5], mach0_is _ _, hb4, .inr (.inr ⟨⟨p1, p2⟩, Nat.lt_of_lt_of_le hbg (hideA_le m seen (by omega)), rfl, rfl, rfl⟩)⟩
    have hil : i < seen.length := by omega
    have hsi := (hs.up hst.bel)
    have hsA := hsi.isSome (by omega)
    refine segs (k1 := [i1]) (n := 1000) (R := fun _ _ => False) (k2 := [_, _, _])
      (E := fun f' w' => (f' 51 = .bool true ∧ f' 1 = .slice A seen.length c ∧ f' 2 = .pointer (some ⟨w.heap.size, 0, none⟩) ∧ f' 4 = .pointer (some ⟨g4, 0, none⟩) ∧ f' 6 = .slice (some ⟨gL, 0, none⟩) m.states.toNat m.states.toNat ∧ f' 7 = .pointer (some ⟨gn, 0, none⟩) ∧ f' 8 = .pointer (some ⟨g8, 0, none⟩) ∧ f' 44 = .int .i64 m.states ∧ f' 45 = .int .i64 k ∧ f' 48 = .slice A seen.length c ∧ f' 49 = .int .i64 seen.length ∧ f' 50 = .int .i64 i) ∧ w' = W) mixed hf1 ?_ ?_ (fun _ _ _ _ h => h.elim)
    · show x _ _ _ _ [.c (cC _ i1), .lp _] _ _ _
      rw [hi1]
      simp (disch := first | with_reducible assumption | omega) only [push_cast, x_blk, x_cd, ↓reduceIte, Nat.reduceEqDiff, List.map_cons, List.map_nil, Int.reduceEq, Int.lt_irrefl, fr, hin]
      exact ⟨(by simp only [push_cast, ↓reduceIte, Nat.reduceEqDiff, Int.reduceEq, fr, and_self, eq_self]), trivial⟩
    clear fr hf1
    rintro a2 f2 w2 hf2 ⟨fr, rfl⟩
    refine wps_cond hf2 (b := true) fr.1 (wps_skip (inv_sk hy1) (wps_block (wps_one ?_)))
    refine wps_seq (wps_cons (fun _ _ h => wps_seq h) ?_)
    have hnL : (wideR m seen)[k]? = some ((wideR m seen).getD k []) := by
      rw [List.getD_eq_getElem?_getD, List.getElem?_eq_getElem (by rw [wideR_len]; omega)]; rfl
    have hkk : k < m.states.toNat := by omega
    have hwr := wide_at p1 (seen := seen) hkn
    have hbk := row_oneH p1 k hkn
    refine segs (k1 := [q1, q2]) (n := 1000) (R := fun _ _ => False) (k2 := [.block 4 q3b])
      (E := fun f' w' => ∃ g9 Bn, g8 < g9 ∧ g9 < Bn ∧ Bn < w'.heap.size ∧ (f' 1 = .slice A seen.length c ∧ f' 2 = .pointer (some ⟨w.heap.size, 0, none⟩) ∧ f' 4 = .pointer (some ⟨g4, 0, none⟩) ∧ f' 6 = .slice (some ⟨gL, 0, none⟩) m.states.toNat m.states.toNat ∧ f' 7 = .pointer (some ⟨gn, 0, none⟩) ∧ f' 8 = .pointer (some ⟨g8, 0, none⟩) ∧ f' 44 = .int .i64 m.states ∧ f' 45 = .int .i64 k ∧ f' 48 = .slice A seen.length c ∧ f' 49 = .int .i64 seen.length ∧ f' 50 = .int .i64 i ∧ f' 9 = .pointer (some ⟨g9, 0, none⟩) ∧ f' 64 = .func (.func 97) #[] #[.pointer (some ⟨Bn, 0, none⟩)]) ∧
        Blk w' g8 3 [.int .i64 k] ∧ Blk w' g9 3 [.int .i64 i] ∧ Blk w' Bn 76 (setCells (wordsOf (seeL m seen (wideL m seen [(k : Int)]) (seen.getD i 0)))) ∧ HSt w a m seen (wideR m seen) g4 gL gn Ds v (hideA m seen k ++ hideF m seen k i) w') mixed hf2 ?_ ?_ (fun _ _ _ _ h => h.elim)
    · show x _ _ _ _ [.c (cC _ q1), .c (cC _ q2), .lp _] _ _ _
      rw [hq1, hq2]
      simp (disch := first | with_reducible assumption | omega) only [push_cast, x_blk, x_cd, ↓reduceIte, Nat.reduceEqDiff, List.map_cons, List.map_nil, Int.reduceEq, Int.lt_irrefl, fr, hil, hsA, hsi.ld ty_ag_3 i hil]
      refine blk_of (cs := [.int .i64 0]) al_3 ?_
      intro w3 k3 b3 z3
      simp (disch := first | with_reducible assumption | omega) only [push_cast, x_blk, x_cd, ↓reduceIte, Nat.reduceEqDiff, List.map_cons, List.map_nil, Int.reduceEq, Int.lt_irrefl, fr]
      refine sto_cell k3 (by kernel_rfl) 0 (by simp) _ _ ?_
      intro w4 k9 g9' z4
      have b4 := g9'.below b3 b3.size (by intro a ha; injection ha with ha; subst ha; exact Nat.le_refl _)
      have bd : Below w4.heap.size w4 w4.drew := (Same.refl w4).drew.below _
      have g89 := k8.lt
      have hst4 := (hst.below b4).below bd
      replace k8 := (k8.below b4 k8.lt).below bd (by have := b4.size; omega)
      replace k9 := k9.below bd k9.lt
      have hsm : (some (⟨gL, 0, none⟩ : Addr)).isSome = true := rfl
      have hR := sets_blk hst4.row hst4.row.lt (ok := (· < w4.drew.heap.size))
      have hld := fun {K : Fr → World → Prop} {f : Fr} {d : Option Nat} {w' : World} => hR.ldAll (P := Tryd.prog) (K := K) (f := f) (d := d) (w := w') setEnc ty_ag_76 hnL ty_sz_76
      rw [eA_zero] at hld
      simp (disch := first | with_reducible assumption | omega) only [push_cast, x_blk, x_cd, ↓reduceIte, Nat.reduceEqDiff, List.map_cons, List.map_nil, Int.reduceEq, Int.lt_irrefl, fr, hst4.box.mA ty_ag_25 ty_sz_25, k8.ld ty_ag_3 0 (by simp), hkk, hsm, Int.natCast_nonneg, eA_zero, hld]
      refine call_of (machine_Step (h.up hst4.bel) p1 ((wideR m seen).getD k []) (seen.getD i 0)) ?_
      rintro v5 w5 ⟨rfl, b5⟩
      rw [stepL_congr p1 (fun x => mem_wideR p1 hkn)]
      have hst5 := hst4.below b5
      replace k8 := k8.below b5 k8.lt
      replace k9 := k9.below b5 k9.lt
      simp (disch := first | with_reducible assumption | omega) only [push_cast, x_blk, x_cd, ↓reduceIte, Nat.reduceEqDiff, List.map_cons, List.map_nil, Int.reduceEq, Int.lt_irrefl]
      refine ⟨b5, ?_⟩
      refine call_of (hide_allW (hT.below hst5.bel hT.lt) p1 hst5.row (stepL_row p1 (wideL m seen [(k : Int)]) (seen.getD i 0))) ?_
      rintro v6 w6 ⟨rfl, b6⟩
      have hst6 := hst5.below b6
      replace k8 := k8.below b6 k8.lt
      replace k9 := k9.below b6 k9.lt
      have b56 := b5.trans (b6.mono b5.size)
      simp (disch := first | with_reducible assumption | omega) only [push_cast, x_blk, x_cd, ↓reduceIte, Nat.reduceEqDiff, List.map_cons, List.map_nil, Int.reduceEq, Int.lt_irrefl]
      refine ⟨b56, ?_⟩
      refine call_of (set_All (seeL m seen (wideL m seen [(k : Int)]) (seen.getD i 0)) _) ?_
      rintro v7 w7 ⟨rfl, k7, b7, z7⟩
      have hst7 := hst6.below b7
      replace k8 := k8.below b7 k8.lt
      have g9l := k9.lt
      replace k9 := k9.below b7 k9.lt
      simp (disch := first | with_reducible assumption | omega) only [push_cast, x_blk, x_cd, ↓reduceIte, Nat.reduceEqDiff, List.map_cons, List.map_nil, Int.reduceEq, Int.lt_irrefl]
      exact ⟨b56.trans (b7.mono b56.size), w2.heap.size, w6.heap.size, g89, g9l, by omega, (by simp only [push_cast, ↓reduceIte, Nat.reduceEqDiff, Int.reduceEq, fr, and_self, eq_self]), k8, k9, k7, hst7⟩
    clear fr hst hf2 k8
    rintro a3 f w3 hf3 ⟨g9, Bn, hg89, hg9B, hBl, fr, k8, k9, kB, hst⟩
    have hrow : IsRow (seeL m seen (wideL m seen [(k : Int)]) (seen.getD i 0)) m.states := seeL_row p1 _ _ _
    have hFK : hideF m seen k (i + 1) = hideF m seen k i ++ (seeL m seen (wideL m seen [(k : Int)]) (seen.getD i 0)).map (fun t => (⟨k, i, t⟩ : Arr)) := hideF_succ m seen k i
    have hA2 := hideF_len seen k i (m := m)
    have hns : seen.length ≤ 8 := by have := row_lenH p2; have := p1.2.2.2.1; omega
    have hA3 : 256 * i ≤ 2048 := by omega
    have hrs : rowS (seeL m seen (wideL m seen [(k : Int)]) (seen.getD i 0)) = seeL m seen (wideL m seen [(k : Int)]) (seen.getD i 0) := rowS_row hrow.strict (hrow.small hst2)
    have hnl : (seeL m seen (wideL m seen [(k : Int)]) (seen.getD i 0)).length ≤ 256 := small_len hrow.strict (hrow.small hst2)
    generalize seeL m seen (wideL m seen [(k : Int)]) (seen.getD i 0) = l at *
    have hz3 := hst.bel.size
    have hDl : ∀ D ∈ Ds, D < w3.heap.size := fun D hD => hst.cl.lt hD
    refine wps_block (range_x mixed hrf hf3 (by simpa [ev] using fr.2.2.2.2.2.2.2.2.2.2.2.2) (enters_of Tryd.func97 (by kernel_rfl) rfl)
      (set_All_stops 3 Bn w.heap.size l w3 (hT.below hst.bel hT.lt) hT.lt kB) (Below.refl _ _) belowK_t (belowK_b hz3) (fun W => Below.refl _ _) (fun _ => rfl)
      (fun (pre : List {x : Int // x ∈ l}) W => ∃ v, HSt w a m seen (wideR m seen) g4 gL gn Ds v (hideA m seen k ++ (hideF m seen k i ++ (pre.map (·.1)).map (fun t => (⟨k, i, t⟩ : Arr)))) W ∧ Blk W g8 3 [.int .i64 k] ∧ Blk W g9 3 [.int .i64 i]) ?_
      ⟨v, by rw [List.map_nil, List.map_nil, List.append_nil]; exact hst, k8, k9⟩ (fun x => upd (upd f 65 (.int .i64 x.1)) 11 (.int .i64 x.1)) ?_ ?_ ?_)
    · rintro pre W W' row ⟨v, g1, g2, g3⟩ hgr hr
      exact ⟨v, g1.grown hz3 hDl hgr hr, blk_grown' g2 hgr fun r e => (hr r e).2, blk_grown' g3 hgr fun r e => (hr r e).2⟩
    · intro x W
      refine ⟨1000, ?_⟩
      simp (disch := first | with_reducible assumption | omega) only [push_cast, x_blk, x_cd, ↓reduceIte, Nat.reduceEqDiff, List.map_cons, List.map_nil, Int.reduceEq, Int.lt_irrefl, updL]
      first | trivial | exact ⟨(by simp only [push_cast, ↓reduceIte, Nat.reduceEqDiff, true_and, and_true, and_self, eq_self, fr]), rfl⟩
    · rintro pre x W ⟨v, g1, g2, g3⟩ hpl
      refine ⟨1000, ?_⟩
      rw [hrs] at hpl
      have hPl : ((pre.map (·.1)).map (fun t => (⟨k, i, t⟩ : Arr))).length ≤ 256 := by rw [List.length_map, List.length_map]; omega
      have ee : hideA m seen k ++ (hideF m seen k i ++ ((pre ++ [x]).map (·.1)).map (fun t => (⟨k, i, t⟩ : Arr))) = (hideA m seen k ++ (hideF m seen k i ++ (pre.map (·.1)).map (fun t => (⟨k, i, t⟩ : Arr)))) ++ [⟨k, i, x.1⟩] := by simp
      rw [ee]
      clear ee
      have hlen : (hideA m seen k ++ (hideF m seen k i ++ (pre.map (·.1)).map (fun t => (⟨k, i, t⟩ : Arr)))).length ≤ 600000 := by rw [List.length_append, List.length_append]; omega
      generalize hideA m seen k ++ (hideF m seen k i ++ (pre.map (·.1)).map (fun t => (⟨k, i, t⟩ : Arr))) = Z at *
      have hgw := g1.lt
      have hwb := g1.bel.size
      simp (disch := first | with_reducible assumption | omega) only [push_cast, x_blk, x_cd, ↓reduceIte, Nat.reduceEqDiff, List.map_cons, List.map_nil, Int.reduceEq, Int.lt_irrefl, fr, g1.mac.m3 ty_ag_23, g2.ld ty_ag_3 0 (by simp), g3.ld ty_ag_3 0 (by simp), bl_arrow, bs_rec arrEnc slT_23 _ (by decide)]
      refine app_rec arrEnc slT_23 g1.ars (⟨(k : Int), (i : Int), x.1⟩ : Arr) (by omega) (by omega) hwb ?_
      intro Aa' ca' w18 hoA' g18 hA18 hs18 hz18
      have kn := fun {t : Nat} {cs : List Value} {g : Nat} (hb : Blk W g t cs) (ht : 85 ≠ t) => hb.grown g18.by_ (fun e => g1.ars.ne_blk hb ht e.symm)
      have b18 := g18.below (Below.refl w.heap.size W) hwb g1.ars.geB
      have k18 := kn g1.mac (by decide)
      have n1 := KeepsFrom.own (B := w3.heap.size) g1.ars g18
      simp (disch := first | with_reducible assumption | omega) only [push_cast, x_blk, x_cd, ↓reduceIte, Nat.reduceEqDiff, List.map_cons, List.map_nil, Int.reduceEq, Int.lt_irrefl, fr]
      refine sto_slice k18 (by kernel_rfl) 3 (by simp) _ _ _ ?_
      intro w19 k19 g19 z19
      have k20 : Blk w19 gn 25 (MV.cells ⟨v.As, v.cs, Aa', ca', v.Ae, v.ce⟩ ⟨m.states, seen.length, wideL m seen m.starts, Z ++ [⟨k, i, x.1⟩], m.ends⟩) := by
        simp only [MV.cells, List.length_append, List.length_cons, List.length_nil, Nat.zero_add]
        exact k19
      have o1 := (g1.st.grew g18 (Own.apart g1.st g1.ars (by decide)))
      have o2 := (g1.en.grew g18 (Own.apart g1.en g1.ars (by decide)))
      have b19 := g19.below b18 (by have := b18.size; omega) (by intro a ha; injection ha with ha; subst ha; show w.heap.size ≤ gn; omega)
      have kk := fun {t : Nat} {cs : List Value} {g : Nat} (hb : Blk w18 g t cs) (hne : g ≠ gn) => hb.grown g19.by_ (by simpa using hne)
      simp (disch := first | with_reducible assumption | omega) only [push_cast, x_blk, x_cd, ↓reduceIte, Nat.reduceEqDiff, List.map_cons, List.map_nil, Int.reduceEq, Int.lt_irrefl, fr]
      exact ⟨n1.trans (KeepsFrom.blk k18 g19), b19, ⟨v.As, v.cs, Aa', ca', v.Ae, v.ce⟩, ⟨kk (kn g1.box (by decide)) (by omega), kk (kn g1.res (by decide)) (by omega), kk (kn g1.row (by decide)) (by omega), k20, o1.grew g19 (.inr (o1.ne_blk k18 (by decide))), o2.grew g19 (.inr (o2.ne_blk k18 (by decide))),
        hoA'.grew g19 (.inr (hoA'.ne_blk k18 (by decide))), g1.bel.trans b19, (g1.cl.grewO g1.ars g18).grewB k18 g19, g1.ge, g1.lt⟩, kk (kn g2 (by decide)) (by omega), kk (kn g3 (by decide)) (by omega)⟩
    · rintro D xs a4 W hDl' hxs ⟨v, g1, g2, g3⟩ hWD hf4
      rw [hxs, hrs, ← hFK] at g1
      replace hf4 : Fits Tryd.f19.ntmps ((D :: Ds).map coll) a4 f := hf4
      replace g1 := g1.mark hz3 hDl hDl' hWD
      show wps Tryd.prog _ [i4] a4 W
      refine segs (k1 := [i4]) (k2 := []) (n := 1000) (E := fun f' w' => (f' 1 = .slice A seen.length c ∧ f' 2 = .pointer (some ⟨w.heap.size, 0, none⟩) ∧ f' 4 = .pointer (some ⟨g4, 0, none⟩) ∧ f' 6 = .slice (some ⟨gL, 0, none⟩) m.states.toNat m.states.toNat ∧ f' 7 = .pointer (some ⟨gn, 0, none⟩) ∧ f' 8 = .pointer (some ⟨g8, 0, none⟩) ∧ f' 44 = .int .i64 m.states ∧ f' 45 = .int .i64 k ∧ f' 48 = .slice A seen.length c ∧ f' 49 = .int .i64 seen.length ∧ f' 50 = .int .i64 ((i + 1 : Nat) : Int)) ∧ w' = W) (R := fun _ _ => False) mixed hf4 ?_ ?_ (fun _ _ _ _ h => h.elim)
      · show x _ _ _ _ [.c (cC _ i4), .lp _] _ _ _
        rw [hi4]
        simp (disch := first | with_reducible assumption | omega) only [push_cast, x_blk, x_cd, ↓reduceIte, Nat.reduceEqDiff, List.map_cons, List.map_nil, Int.reduceEq, Int.lt_irrefl, fr]
        exact ⟨(by simp only [push_cast, ↓reduceIte, Nat.reduceEqDiff, Int.reduceEq, fr, and_self, eq_self]), trivial⟩
      · rintro a5 f5 w5 hf5 ⟨fr5, rfl⟩
        exact ⟨seen.length - (i + 1), by omega, i + 1, f5, D :: Ds, v, rfl, by omega, hf5, fr5, g2, g1⟩
  · rintro a1 f w1 hf1 ⟨g, e, hx4, k4, hr, hx5⟩
    exact finM_c2 (Ds := []) (.inr rfl) hf1 (clean_nil _) (fun D hD => by cases hD) k4 ty_ag_25 (e5 _ _) hx4 hr
end Go.Proofs.YtcjedgiglimipaaDoor
