/-
  Chapter 13's reference: find, leads, Twins, Delay: by their contracts.
-/
import Derived.Test.YtfckamjbeplceaaZDelM
import Derived.Test.YtfckamjbeplceaaZSame
import Derived.Test.YtfckamjbeplceaaZReachD
import Derived.Test.YtfckamjbeplceaaZTyB
namespace Go.Proofs.Ytfckamjbeplceaa
set_option linter.unusedSimpArgs false
set_option linter.unusedVariables false
set_option linter.unusedSectionVars false
open Go.RowKit

section
variable {P : Program} {K : Fr → World → Prop} {w : World} {f : Fr} {d : Option Nat} {t ty e sz bytes : Nat}
theorem e_makeSlice (t : TypeId) (l c : Operand) : EffX P K (.makeSlice t l c) ty f d w = Eff1 P K (Instr.makeSlice t (ev f l) (ev f c)) f d w := by simp [EffX, valOf]
theorem mk_ints (hT : SlT P t e 1 8) (hz : (P.info? e).bind (·.zero) = some (.int .i64 0)) (n : Nat) (hn : n ≤ 100000)
    (hk : ∀ w', OwnI w.heap.size e w' (some ⟨w.heap.size, 0, none⟩) n (List.replicate n 0) → Below w.heap.size w w' → K (updO f d (.slice (some ⟨w.heap.size, 0, none⟩) n n)) w') :
    Eff1 P K (Instr.makeSlice t (.int .i64 (n : Int)) (.int .i64 (n : Int))) f d w := by
  obtain ⟨i, z, hi, hz', hsz, hby, hc⟩ := hT.get
  have hz0 : z = .int .i64 0 := by rw [hi] at hz; simp [hz'] at hz; exact hz
  subst hz0
  obtain ⟨w', hr, ho, hg⟩ := run_makeSlice_full (P := P) (w := w) w.heap.size t e i _ 1 hT.under hi hz' hsz .i64 .i64 n (by omega) (by rw [hby]; omega) (by unfold maxLen; omega) (Nat.le_refl _)
  rw [eff1_of hr]
  have hl : (madeCells (Value.int .i64 0).cells (n * 1)).toList = iv (List.replicate n 0) := by
    show (madeCells #[Value.int .i64 0] (n * 1)).toList = _
    rw [toList_madeCells_one, Nat.mul_one, iv, List.map_replicate]
  refine hk w' ⟨?_⟩ ?_
  · rw [List.length_replicate, ← hl]; exact ho
  · exact (Below.refl _ _).grown hg (Nat.le_refl _) (fun k hk => by cases hk)
end

def twA (x : Tw) : Arr := ⟨x.1, x.2.1, (cnt x.2.2 : Int)⟩
abbrev twC (x : Tw) : List Value := arrCells (twA x)
theorem twA_inj {x y : Tw} : twA x = twA y ↔ x = y := by
  constructor
  · intro h
    obtain ⟨a, b, c⟩ := x
    obtain ⟨a', b', c'⟩ := y
    simp only [twA, Arr.mk.injEq] at h
    obtain ⟨rfl, rfl, h⟩ := h
    cases c <;> cases c' <;> first | rfl | exact absurd h (by decide)
  · rintro rfl; rfl
theorem twEnc : Enc twC 3 := ⟨fun x => arrEnc.len _, fun x => arrEnc.one _⟩
theorem tw_fields : (Try.prog.fieldsOf 61).toList.map (fun f => ((f.name != "_"), f.type, f.offset)) = [(true, 3, 0), (true, 3, 1), (true, 3, 2)] := by kernel_rfl
theorem equal_tw (w : World) (a b : Arr) : (Op.equalIn 10000 61 (arrVal a) (arrVal b)).run Try.prog w = .ok (decide (a = b)) w := by
  have hx := tw_fields
  have hs : Try.prog.underlying 61 = some (.struct (Try.prog.fieldsOf 61)) := by kernel_rfl
  rw [run_equalIn_agg w 9999 61 _ _ hs (by kernel_rfl)]
  generalize (Try.prog.fieldsOf 61).toList = fs at hx
  obtain ⟨f0, f1, f2, rfl⟩ : ∃ f0 f1 f2, fs = [f0, f1, f2] := by
    have hl : fs.length = 3 := by simpa using congrArg List.length hx
    match fs, hl with
    | [a, b, c], _ => exact ⟨a, b, c, rfl⟩
  simp only [List.map_cons, List.map_nil, List.cons.injEq, Prod.mk.injEq] at hx
  obtain ⟨⟨n0, t0, o0⟩, ⟨n1, t1, o1⟩, ⟨n2, t2, o2⟩, _⟩ := hx
  rw [eqFields_int w 9998 _ _ [f0, f1, f2] [a.frm, a.evt, a.to_] [b.frm, b.evt, b.to_] (by
    intro f hf
    rcases List.mem_cons.1 hf with rfl | hf
    · exact ⟨n0, t0⟩
    · rcases List.mem_cons.1 hf with rfl | hf
      · exact ⟨n1, t1⟩
      · rw [List.mem_singleton.1 hf]; exact ⟨n2, t2⟩) rfl rfl (by
    intro i f hi
    match i, hi with
    | 0, hi => cases hi; rw [o0]; exact ⟨run_part_arr w a 0 (by decide), run_part_arr w b 0 (by decide)⟩
    | 1, hi => cases hi; rw [o1]; exact ⟨run_part_arr w a 1 (by decide), run_part_arr w b 1 (by decide)⟩
    | 2, hi => cases hi; rw [o2]; exact ⟨run_part_arr w a 2 (by decide), run_part_arr w b 2 (by decide)⟩
    | n + 3, hi => cases hi)]
  have he : decide ([a.frm, a.evt, a.to_] = [b.frm, b.evt, b.to_]) = decide (a = b) := decide_eq_decide.2 ⟨fun h => by cases a; cases b; simp_all, fun h => by rw [h]⟩
  rw [he]
theorem eql_tw {K : Fr → World → Prop} {u w : World} {f : Fr} {d : Option Nat} {xo yo : Operand} (a b : Arr) : Val1 Try.prog K (binS .eql 61 xo yo (arrVal a) (arrVal b)) u f d w = K (updO f d (.bool (decide (a = b)))) w :=
  val1_of u f d w fun w' _ => by
    unfold binS
    rw [Sem.run_bind, run_eqGuard_agg w' .eql 61 xo yo _ _ (by kernel_rfl), Result.andThen_ok, run_eql_struct w', equal_tw w' a b]; rfl

theorem ref13_find {w : World} {L : Option Addr} {c : Nat} {l : List Tw} (hR : Recs twC 3 (· < w.heap.size) w L l) (hn : l.length ≤ 100000) (x : Tw) :
    Cal Try.prog 31 [.slice L l.length c, arrVal (twA x)] w fun v w' => ∃ i : Nat, v = .int .i64 i ∧ ((i = l.length ∧ x ∉ l) ∨ l[i]? = some x) ∧ Below w.heap.size w w' := by
  refine cal_ref13_find (by simp) 100000 fun Q hQ => ?_
  simp (disch := first | with_reducible assumption | omega) only [push_cast, x_blk, x_cd, ↓reduceIte, Nat.reduceEqDiff, List.map_cons, List.map_nil, Int.reduceEq, Int.lt_irrefl, F_ref13_find]
  refine blk_of (box_agg _ (arrCells (twA x))) ?_
  intro w1 k1 b1 z1
  simp (disch := first | with_reducible assumption | omega) only [push_cast, x_blk, x_cd, ↓reduceIte, Nat.reduceEqDiff, List.map_cons, List.map_nil, Int.reduceEq, Int.lt_irrefl]
  refine loop_rule (fun f w' => ∃ i : Nat, i ≤ l.length ∧ (f 0 = .slice L l.length c ∧ f 3 = .pointer (some ⟨w.heap.size, 0, none⟩) ∧ f 5 = .int .i64 i) ∧ (∀ (j : Nat) (y : Tw), j < i → l[j]? = some y → y ≠ x) ∧ Below w1.heap.size w1 w')
    (fun f _ => l.length - (intOf (f 5)).toNat) ⟨0, Nat.zero_le _, ⟨rfl, rfl, rfl⟩, fun j y hj => absurd hj (by omega), Below.refl _ _⟩ ?_
  rintro f w2 ⟨i, hi, fr, hno, b2⟩ J hJ
  have bb := b1.trans (b2.mono b1.size)
  by_cases hlt : i < l.length
  case neg =>
    obtain rfl : i = l.length := by omega
    simp (disch := first | with_reducible assumption | omega) only [push_cast, x_blk, x_cd, ↓reduceIte, Nat.reduceEqDiff, List.map_cons, List.map_nil, Int.reduceEq, Int.lt_irrefl, L_ref13_find_0, fr, Nat.lt_irrefl]
    exact fin_1 (hQ _ _ ⟨l.length, (by simp only [push_cast, ↓reduceIte, Nat.reduceEqDiff, Int.reduceEq, fr]), .inl ⟨rfl, fun hx => by
      obtain ⟨j, hj, hjx⟩ := List.getElem_of_mem hx
      exact hno j x hj (by rw [List.getElem?_eq_getElem hj, hjx]) rfl⟩, bb⟩)
  obtain ⟨y, hy⟩ : ∃ y, l[i]? = some y := ⟨_, List.getElem?_eq_getElem hlt⟩
  have d2 : Same w2 w2.drew := (Same.refl w2).drew
  have k2 := ((k1.below b2 k1.lt).same d2)
  have hR2 := (hR.below bb).same d2
  have hA := hR2.isSome (by omega)
  have ly := fun {K : Fr → World → Prop} {f : Fr} {d : Option Nat} {w' : World} => hR2.ldAll (P := Try.prog) (K := K) (f := f) (d := d) (w := w') twEnc ty_ag_61 hy ty_sz_61
  by_cases e : y = x
  · simp (disch := first | with_reducible assumption | omega) only [push_cast, x_blk, x_cd, ↓reduceIte, Nat.reduceEqDiff, List.map_cons, List.map_nil, Int.reduceEq, Int.lt_irrefl, L_ref13_find_0, fr, hlt, ly, k2.aA ty_ag_61 ty_sz_61, eql_tw, twA_inj, e, decide_true]
    exact fin_1 (hQ _ _ ⟨i, (by simp only [push_cast, ↓reduceIte, Nat.reduceEqDiff, Int.reduceEq, fr]), .inr (e ▸ hy), bb.trans (d2.below _)⟩)
  · simp (disch := first | with_reducible assumption | omega) only [push_cast, x_blk, x_cd, ↓reduceIte, Nat.reduceEqDiff, List.map_cons, List.map_nil, Int.reduceEq, Int.lt_irrefl, L_ref13_find_0, fr, hlt, ly, k2.aA ty_ag_61 ty_sz_61, eql_tw, twA_inj, e, decide_false]
    exact hJ _ _ ⟨i + 1, hlt, (by simp only [push_cast, ↓reduceIte, Nat.reduceEqDiff, true_and, and_true, and_self, eq_self, fr]), fun j z hj hz => by
      by_cases q : j = i
      · subst q; rw [hy] at hz; rw [← Option.some.inj hz]; exact e
      · exact hno j z (by omega) hz, b2.trans (d2.below _)⟩ (by simp only [push_cast, ↓reduceIte, Nat.reduceEqDiff, intOf, fr]; omega)

abbrev boC (b : Bool) : List Value := [.bool b]
theorem boEnc : Enc boC 1 := ⟨fun _ => rfl, fun b u hu => by rw [List.mem_singleton.1 hu]; rfl⟩
theorem blt_tw : builtPl Try.prog 61 = some ([(0, 1), (1, 1), (2, 1)], [.int .i64 0, .int .i64 0, .int .i64 0]) := by kernel_rfl
theorem bl_tw {K : Fr → World → Prop} {u : World} {f : Fr} {d : Option Nat} {w : World} (x y z : Int) :
    Val1 Try.prog K (Instr.build 61 #[(0, .int .i64 x), (1, .int .i64 y), (2, .int .i64 z)]) u f d w = K (updO f d (.agg (arrCells ⟨x, y, z⟩).toArray)) w := by
  have := bld_3 (P := Try.prog) (K := K) (u := u) (f := f) (d := d) (w := w) blt_tw rfl rfl rfl rfl (v0 := .int .i64 x) (v1 := .int .i64 y) (v2 := .int .i64 z) rfl rfl rfl
  rw [this]; rfl
theorem twA_0 (x : Tw) : (twA x).frm = x.1 := rfl
theorem twA_1 (x : Tw) : (twA x).evt = x.2.1 := rfl
theorem twA_2 (x : Tw) : (twA x).to_ = (cnt x.2.2 : Int) := rfl
theorem cnt_one (b : Bool) : decide ((cnt b : Int) = 1) = b := by cases b <;> rfl
theorem bsl1_bo {K : Fr → World → Prop} {f : Fr} {d : Option Nat} {w : World} (b : Bool) : Eff1 Try.prog K (Instr.buildSlice 69 1 #[(0, .bool b)]) f d w = K (updO f d (.slice (some ⟨w.heap.size, 0, none⟩) 1 1)) (w.alloc (.cells [.bool b].toArray 4)) := bs_69 b
theorem Own.ne_lt {B e sz c n g : Nat} {w : World} {A : Option Addr} {xs : List Value} (h : Own B e sz w A c n xs) (hg : g < B) : some g ≠ A.map (·.block) := by
  intro e
  cases A with
  | none => cases e
  | some a => have e' : g = a.block := Option.some.inj e; have := h.geB a rfl; omega
/-- Two rows side by side: where it leads to, and what counts. -/
structure LQ (B : Nat) (w : World) (A C : Option Addr) (ca cc : Nat) (l : List (Tw × Bool)) : Prop where
  a : OwnR twC B 61 3 w A ca (l.map (·.1))
  c : OwnR boC B 4 1 w C cc (l.map (·.2))
theorem LQ.below {B : Nat} {w w' : World} {A C : Option Addr} {ca cc : Nat} {l : List (Tw × Bool)} (h : LQ B w A C ca cc l) (b : Below w.heap.size w w') : LQ B w' A C ca cc l := ⟨h.a.below b (Nat.le_refl _), h.c.below b (Nat.le_refl _)⟩
theorem secs_fault {m : Mach} {faults : List Int} {x : Tw} {e : Int} (h : e ∈ faults) : secs m faults x e = [] := if_pos h
theorem secs_not {m : Mach} {faults : List Int} {x : Tw} {e : Int} (h : e ∉ faults) : secs m faults x e = stepL m [x.2.1] e := if_neg h
theorem ref13_leads {w : World} {a : MV} {m : Mach} (h : IsM (· < w.heap.size) w a m) (hf : m.Fits) (p1 : m.May) (p3 : m.states ≤ 6) {A1 : Option Addr} {c1 : Nat} {seen : List Int} (h1 : Ints (· < w.heap.size) w A1 seen) (n1 : seen.length ≤ 17592186043904)
    {A2 : Option Addr} {c2 : Nat} {faults : List Int} (h2 : Ints (· < w.heap.size) w A2 faults) (n2 : faults.length ≤ 17592186043904) (x : Tw) :
    Cal Try.prog 30 [a.val m, .slice A1 seen.length c1, .slice A2 faults.length c2, arrVal (twA x)] w fun v w' => ∃ (A C : Option Addr) (ca cc : Nat), v = .tuple #[.slice A ((leadsL m seen faults x m.events.toNat).map (·.1)).length ca, .slice C ((leadsL m seen faults x m.events.toNat).map (·.2)).length cc] ∧
      LQ w.heap.size w' A C ca cc (leadsL m seen faults x m.events.toNat) ∧ Below w.heap.size w w' := by
  have ev0 : 0 ≤ m.events := p1.2.2.1
  have ev8 : m.events ≤ 8 := p1.2.2.2.1
  refine cal_ref13_leads (by simp) 100000 fun Q hQ => ?_
  simp (disch := first | with_reducible assumption | omega) only [push_cast, x_blk, x_cd, ↓reduceIte, Nat.reduceEqDiff, List.map_cons, List.map_nil, Int.reduceEq, Int.lt_irrefl, F_ref13_leads]
  refine blk_of (box_agg _ (a.cells m)) ?_
  intro w1 k1 b1 z1
  simp (disch := first | with_reducible assumption | omega) only [push_cast, x_blk, x_cd, ↓reduceIte, Nat.reduceEqDiff, List.map_cons, List.map_nil, Int.reduceEq, Int.lt_irrefl]
  refine blk_of (box_agg _ (arrCells (twA x))) ?_
  intro w2 k2 b2 z2
  have l1 := k1.lt
  replace k1 := k1.below b2 l1
  have bb := b1.trans (b2.mono b1.size)
  have hg1 : w.heap.size < w1.heap.size := by omega
  generalize hgx : w1.heap.size = G at *
  simp (disch := first | with_reducible assumption | omega) only [push_cast, x_blk, x_cd, ↓reduceIte, Nat.reduceEqDiff, List.map_cons, List.map_nil, Int.reduceEq, Int.lt_irrefl]
  refine loop_rule (fun f w' => ∃ (k : Nat) (A C : Option Addr) (ca cc : Nat), k ≤ m.events.toNat ∧ (f 1 = .slice A1 seen.length c1 ∧ f 2 = .slice A2 faults.length c2 ∧ f 4 = .pointer (some ⟨w.heap.size, 0, none⟩) ∧ f 7 = .pointer (some ⟨G, 0, none⟩) ∧ f 10 = .slice A ((leadsL m seen faults x k).map (·.1)).length ca ∧ f 11 = .slice C ((leadsL m seen faults x k).map (·.2)).length cc ∧ f 12 = .int .i64 k) ∧
      LQ (G + 1) w' A C ca cc (leadsL m seen faults x k) ∧ Blk w' w.heap.size 25 (a.cells m) ∧ Blk w' G 61 (arrCells (twA x)) ∧ Below w.heap.size w w')
    (fun f _ => m.events.toNat - (intOf (f 12)).toNat) ⟨0, none, none, 0, 0, Nat.zero_le _, ⟨rfl, rfl, rfl, rfl, rfl, rfl, rfl⟩, ⟨Own.nil _ _ _ _, Own.nil _ _ _ _⟩, k1, k2, bb⟩ ?_
  clear k1 k2 bb b1 b2 z1 z2
  rintro f w3 ⟨k, A, C, ca, cc, hk, fr, q, k1, k2, bb⟩ J hJ
  by_cases hlt : (k : Int) < m.events
  case neg =>
    obtain rfl : k = m.events.toNat := by omega
    simp (disch := first | with_reducible assumption | omega) only [push_cast, x_blk, x_cd, ↓reduceIte, Nat.reduceEqDiff, List.map_cons, List.map_nil, Int.reduceEq, Int.lt_irrefl, L_ref13_leads_4, fr, hlt, k1.m1 ty_ag_3]
    exact fin_2 (hQ _ _ ⟨A, C, ca, cc, (by simp only [push_cast, ↓reduceIte, Nat.reduceEqDiff, Int.reduceEq, fr]), ⟨q.a.base (by omega), q.c.base (by omega)⟩, bb⟩)
  have hmu : (intOf (f 12)).toNat = k := by rw [fr.2.2.2.2.2.2]; simp [intOf]
  have hll := leadsL_len p1 p3 seen faults x k
  have hsucc := leadsL_succ m seen faults x k
  have ll36 := leadsE_len p1 p3 seen faults x k
  simp (disch := first | with_reducible assumption | omega) only [push_cast, x_blk, x_cd, ↓reduceIte, Nat.reduceEqDiff, List.map_cons, List.map_nil, Int.reduceEq, Int.lt_irrefl, L_ref13_leads_4, fr, hlt, k1.m1 ty_ag_3, k1.mA ty_ag_25 ty_sz_25, k2.a0 ty_ag_3, bs_22, twA_0]
  have oX := own_int1 w3 x.1 3
  have bX : Below w3.heap.size w3 (w3.alloc (.cells [.int .i64 x.1].toArray 3)) := (Below.refl _ _).alloc (Nat.le_refl _) _
  generalize w3.alloc (.cells [.int .i64 x.1].toArray 3) = w4 at *
  have bb4 := bb.trans (bX.mono bb.size)
  refine call_of (ref2_Step (l := [x.1]) (h.up bb4) hf (Ints.lt (OwnI.ints oX)) (by simp) (k : Int)) ?_
  rintro v w5 ⟨As, cs, rfl, oA, b5⟩
  have b35 := bX.trans (b5.mono bX.size)
  replace q := q.below b35
  replace k1 := k1.below b35 k1.lt
  replace k2 := k2.below b35 k2.lt
  replace bb := bb.trans (b35.mono bb.size)
  clear oX bX bb4 b5 b35
  have sA := stepL_len p1 p3 [x.1] (k : Int)
  have sB := stepL_len p1 p3 [x.2.1] (k : Int)
  simp (disch := first | with_reducible assumption | omega) only [push_cast, x_blk, x_cd, ↓reduceIte, Nat.reduceEqDiff, List.map_cons, List.map_nil, Int.reduceEq, Int.lt_irrefl, fr, k1.mA ty_ag_25 ty_sz_25, k2.a1 ty_ag_3, bs_22, twA_1]
  have oX := own_int1 w5 x.2.1 3
  have bX : Below w5.heap.size w5 (w5.alloc (.cells [.int .i64 x.2.1].toArray 3)) := (Below.refl _ _).alloc (Nat.le_refl _) _
  generalize w5.alloc (.cells [.int .i64 x.2.1].toArray 3) = w6 at *
  have bb6 := bb.trans (bX.mono bb.size)
  refine call_of (ref2_Step (l := [x.2.1]) (h.up bb6) hf (Ints.lt (OwnI.ints oX)) (by simp) (k : Int)) ?_
  rintro v w7 ⟨Bs, cb, rfl, oB, b7⟩
  have b57 := bX.trans (b7.mono bX.size)
  replace q := q.below b57
  replace k1 := k1.below b57 k1.lt
  replace k2 := k2.below b57 k2.lt
  replace bb := bb.trans (b57.mono bb.size)
  have iA : Ints (TyB [3] w.heap.size w7) w7 As (stepL m [x.1] (k : Int)) := (OwnI.tyb oA (by decide)).keepT (KeepT.below b57)
  have iB : Ints (TyB [3] w.heap.size w7) w7 Bs (stepL m [x.2.1] (k : Int)) := OwnI.tyb oB (by decide)
  clear oX bX bb6 b7 b57 oA oB
  simp (disch := first | with_reducible assumption | omega) only [push_cast, x_blk, x_cd, ↓reduceIte, Nat.reduceEqDiff, List.map_cons, List.map_nil, Int.reduceEq, Int.lt_irrefl, fr]
  refine call_of (ref1_Has (h2.below bb) c2 _ (by omega)) ?_
  rintro v w8 ⟨rfl, s8⟩
  replace q := q.below (s8.below _)
  replace k1 := k1.same s8
  replace k2 := k2.same s8
  replace bb := bb.trans (s8.below _)
  replace iA := iA.keepT (KeepT.same s8)
  replace iB := iB.keepT (KeepT.same s8)
  clear s8
  obtain ⟨fv, hfv⟩ : ∃ fv : Bool, fv = (x.2.2 || decide ((k : Int) ∈ faults)) := ⟨_, rfl⟩
  obtain ⟨bs, hbs⟩ : ∃ bs : List Int, bs = secs m faults x (k : Int) := ⟨_, rfl⟩
  have hle : leadsE m seen faults x (k : Int) = if (k : Int) ∈ seen then (stepL m [x.1] (k : Int)).flatMap fun a => bs.map fun b => ((a, b, x.2.2), x.2.2) else (stepL m [x.1] (k : Int)).map (fun a => ((a, x.2.1, fv), x.2.2)) ++ bs.map fun b => ((x.1, b, x.2.2), false) := by rw [hbs, hfv]; rfl
  have nbs : bs.length ≤ 6 := by rw [hbs]; unfold secs; split; exact Nat.zero_le _; exact sB
  generalize hleads : leadsL m seen faults x k = l0 at *
  generalize stepL m [x.1] (k : Int) = as_ at *
  have hsplit : ((k : Int) ∈ faults ∧ bs = [] ∧ fv = true) ∨ ((k : Int) ∉ faults ∧ bs = stepL m [x.2.1] (k : Int) ∧ fv = x.2.2) := by
    by_cases c : (k : Int) ∈ faults
    · exact .inl ⟨c, by rw [hbs]; exact secs_fault c, by rw [hfv, decide_eq_true c, Bool.or_true]⟩
    · exact .inr ⟨c, by rw [hbs]; exact secs_not c, by rw [hfv, decide_eq_false c, Bool.or_false]⟩
  rcases hsplit with ⟨c, hb0, hf0⟩ | ⟨c, hb0, hf0⟩
  case' inl =>
    obtain ⟨Bz, cz, h14, iB'⟩ : ∃ (Bz : Option Addr) (cz : Nat), Value.slice none 0 0 = .slice Bz bs.length cz ∧ Ints (TyB [3] w.heap.size w8) w8 Bz bs := ⟨none, 0, by rw [hb0]; rfl, by rw [hb0]; exact Ints.nil _ _ _⟩
    have h16 : Value.int .i64 1 = .int .i64 (cnt fv : Int) := by rw [hf0]; rfl
    simp (disch := first | with_reducible assumption | omega) only [push_cast, x_blk, x_cd, ↓reduceIte, Nat.reduceEqDiff, List.map_cons, List.map_nil, Int.reduceEq, Int.lt_irrefl, decide_eq_true c, fr, k2.a2 ty_ag_3, twA_2]
  case' inr =>
    obtain ⟨Bz, cz, h14, iB'⟩ : ∃ (Bz : Option Addr) (cz : Nat), Value.slice Bs (stepL m [x.2.1] (k : Int)).length cb = .slice Bz bs.length cz ∧ Ints (TyB [3] w.heap.size w8) w8 Bz bs := ⟨Bs, cb, by rw [hb0], by rw [hb0]; exact iB⟩
    have h16 : Value.int .i64 (cnt x.2.2 : Int) = .int .i64 (cnt fv : Int) := by rw [hf0]
    simp (disch := first | with_reducible assumption | omega) only [push_cast, x_blk, x_cd, ↓reduceIte, Nat.reduceEqDiff, List.map_cons, List.map_nil, Int.reduceEq, Int.lt_irrefl, decide_eq_false c, fr, k2.a2 ty_ag_3, twA_2]
  all_goals
    clear iB
    refine call_of (ref1_Has (h1.below bb) c1 _ (by omega)) ?_
    rintro v w9 ⟨rfl, s9⟩
    replace q := q.below (s9.below _)
    replace k1 := k1.same s9
    replace k2 := k2.same s9
    replace bb := bb.trans (s9.below _)
    replace iA := iA.keepT (KeepT.same s9)
    replace iB' := iB'.keepT (KeepT.same s9)
    clear s9 hb0 hf0 c
    have zw := bb.size
    by_cases c5 : (k : Int) ∈ seen
    case pos =>
      rw [if_pos c5] at hle
      generalize hgf : (fun a : Int => bs.map fun b => (((a, b, x.2.2) : Tw), x.2.2)) = gf at hle
      have hgl : ∀ a, (gf a).length = bs.length := fun a => by rw [← hgf]; simp
      have hfl : ∀ i, ((as_.take i).flatMap gf).length ≤ 36 := fun i => by
        have : ∀ l : List Int, (l.flatMap gf).length = l.length * bs.length := fun l => by
          induction l with
          | nil => simp
          | cons a l ih => rw [List.flatMap_cons, List.length_append, ih, hgl, List.length_cons, Nat.succ_mul]; omega
        rw [this]
        have h6 : (as_.take i).length ≤ 6 := by rw [List.length_take]; omega
        exact Nat.mul_le_mul h6 nbs
      simp (disch := first | with_reducible assumption | omega) only [push_cast, x_blk, x_cd, ↓reduceIte, Nat.reduceEqDiff, List.map_cons, List.map_nil, Int.reduceEq, Int.lt_irrefl, decide_eq_true c5, fr]
      refine loop_rule (fun f' w' => ∃ (i : Nat) (A C : Option Addr) (ca cc : Nat), i ≤ as_.length ∧ (f' 1 = .slice A1 seen.length c1 ∧ f' 2 = .slice A2 faults.length c2 ∧ f' 4 = .pointer (some ⟨w.heap.size, 0, none⟩) ∧ f' 7 = .pointer (some ⟨G, 0, none⟩) ∧ f' 12 = .int .i64 k ∧ f' 13 = .slice As as_.length cs ∧ f' 14 = .slice Bz bs.length cz ∧ f' 16 = .int .i64 (cnt fv : Int) ∧ f' 10 = .slice A ((l0 ++ (as_.take i).flatMap gf).map (·.1)).length ca ∧ f' 11 = .slice C ((l0 ++ (as_.take i).flatMap gf).map (·.2)).length cc ∧ f' 17 = .int .i64 i) ∧
          LQ (G + 1) w' A C ca cc (l0 ++ (as_.take i).flatMap gf) ∧ Blk w' w.heap.size 25 (a.cells m) ∧ Blk w' G 61 (arrCells (twA x)) ∧ Ints (TyB [3] w.heap.size w') w' As as_ ∧ Ints (TyB [3] w.heap.size w') w' Bz bs ∧ Below w.heap.size w w')
        (fun f' _ => as_.length - (intOf (f' 17)).toNat) ⟨0, A, C, ca, cc, Nat.zero_le _, (by simp only [push_cast, ↓reduceIte, Nat.reduceEqDiff, true_and, and_true, and_self, eq_self, fr, fr, h14, h16, List.take_zero, List.flatMap_nil, List.append_nil]), by simpa using q, k1, k2, iA, iB', bb⟩ ?_
      clear q k1 k2 iA iB' bb fr h14 h16 zw A C ca cc
      rintro f w10 ⟨i, A, C, ca, cc, hi, fr, q, k1, k2, iA, iB, bb⟩ J2 hJ2
      have hmu2 : (intOf (f 17)).toNat = i := by rw [fr.2.2.2.2.2.2.2.2.2.2]; simp [intOf]
      by_cases hil : i < as_.length
      case neg =>
        obtain rfl : i = as_.length := by omega
        rw [List.take_length] at q fr
        rw [← hle, ← hsucc] at q fr
        simp (disch := first | with_reducible assumption | omega) only [push_cast, x_blk, x_cd, ↓reduceIte, Nat.reduceEqDiff, List.map_cons, List.map_nil, Int.reduceEq, Int.lt_irrefl, L_ref13_leads_3, fr, Nat.lt_irrefl]
        exact hJ _ _ ⟨k + 1, A, C, ca, cc, by omega, (by simp only [push_cast, ↓reduceIte, Nat.reduceEqDiff, true_and, and_true, and_self, eq_self, fr]), q, k1, k2, bb⟩ (by rw [hmu]; simp only [push_cast, ↓reduceIte, Nat.reduceEqDiff, intOf, fr]; omega)
      have hfi := hfl i
      simp (disch := first | with_reducible assumption | omega) only [push_cast, x_blk, x_cd, ↓reduceIte, Nat.reduceEqDiff, List.map_cons, List.map_nil, Int.reduceEq, Int.lt_irrefl, L_ref13_leads_3, fr, hil]
      refine loop_rule (fun f' w' => ∃ (j : Nat) (A C : Option Addr) (ca cc : Nat), j ≤ bs.length ∧ (f' 1 = .slice A1 seen.length c1 ∧ f' 2 = .slice A2 faults.length c2 ∧ f' 4 = .pointer (some ⟨w.heap.size, 0, none⟩) ∧ f' 7 = .pointer (some ⟨G, 0, none⟩) ∧ f' 12 = .int .i64 k ∧ f' 13 = .slice As as_.length cs ∧ f' 14 = .slice Bz bs.length cz ∧ f' 16 = .int .i64 (cnt fv : Int) ∧ f' 10 = .slice A ((l0 ++ ((as_.take i).flatMap gf ++ (bs.take j).map fun b => (((as_.getD i 0, b, x.2.2) : Tw), x.2.2))).map (·.1)).length ca ∧ f' 11 = .slice C ((l0 ++ ((as_.take i).flatMap gf ++ (bs.take j).map fun b => (((as_.getD i 0, b, x.2.2) : Tw), x.2.2))).map (·.2)).length cc ∧ f' 17 = .int .i64 i ∧ f' 18 = .int .i64 j) ∧
          LQ (G + 1) w' A C ca cc (l0 ++ ((as_.take i).flatMap gf ++ (bs.take j).map fun b => (((as_.getD i 0, b, x.2.2) : Tw), x.2.2))) ∧ Blk w' w.heap.size 25 (a.cells m) ∧ Blk w' G 61 (arrCells (twA x)) ∧ Ints (TyB [3] w.heap.size w') w' As as_ ∧ Ints (TyB [3] w.heap.size w') w' Bz bs ∧ Below w.heap.size w w')
        (fun f' _ => bs.length - (intOf (f' 18)).toNat) ⟨0, A, C, ca, cc, Nat.zero_le _, (by simp only [push_cast, ↓reduceIte, Nat.reduceEqDiff, true_and, and_true, and_self, eq_self, fr, fr, List.take_zero, List.map_nil, List.append_nil]), by simpa using q, k1, k2, iA, iB, bb⟩ ?_
      clear q k1 k2 iA iB bb fr A C ca cc
      rintro f w11 ⟨j, A, C, ca, cc, hj, fr, q, k1, k2, iA, iB, bb⟩ J3 hJ3
      have hmu3 : (intOf (f 18)).toNat = j := by rw [fr.2.2.2.2.2.2.2.2.2.2.2]; simp [intOf]
      by_cases hjl : j < bs.length
      case neg =>
        obtain rfl : j = bs.length := by omega
        have hpart : (as_.take i).flatMap gf ++ (bs.take bs.length).map (fun b => (((as_.getD i 0, b, x.2.2) : Tw), x.2.2)) = (as_.take (i + 1)).flatMap gf := by
          rw [take_snoc as_ 0 i hil, List.flatMap_append, List.take_length, ← hgf]; simp
        rw [hpart] at q fr
        simp (disch := first | with_reducible assumption | omega) only [push_cast, x_blk, x_cd, ↓reduceIte, Nat.reduceEqDiff, List.map_cons, List.map_nil, Int.reduceEq, Int.lt_irrefl, L_ref13_leads_2, fr, Nat.lt_irrefl]
        exact hJ2 _ _ ⟨i + 1, A, C, ca, cc, by omega, (by simp only [push_cast, ↓reduceIte, Nat.reduceEqDiff, true_and, and_true, and_self, eq_self, fr]), q, k1, k2, iA, iB, bb⟩ (by rw [hmu2]; simp only [push_cast, ↓reduceIte, Nat.reduceEqDiff, intOf, fr]; omega)
      have hpart : (as_.take i).flatMap gf ++ (bs.take (j + 1)).map (fun b => (((as_.getD i 0, b, x.2.2) : Tw), x.2.2)) = ((as_.take i).flatMap gf ++ (bs.take j).map fun b => (((as_.getD i 0, b, x.2.2) : Tw), x.2.2)) ++ [((as_.getD i 0, bs.getD j 0, x.2.2), x.2.2)] := by
        rw [take_snoc bs 0 j hjl, List.map_append, List.append_assoc]; rfl
      have hplen : (l0 ++ ((as_.take i).flatMap gf ++ (bs.take j).map fun b => (((as_.getD i 0, b, x.2.2) : Tw), x.2.2))).length ≤ 1000 := by
        rw [List.length_append, List.length_append, List.length_map, List.length_take]; omega
      have hp1 : (l0 ++ ((as_.take i).flatMap gf ++ (bs.take (j + 1)).map (fun b => (((as_.getD i 0, b, x.2.2) : Tw), x.2.2)))).map (·.1) = (l0 ++ ((as_.take i).flatMap gf ++ (bs.take j).map fun b => (((as_.getD i 0, b, x.2.2) : Tw), x.2.2))).map (·.1) ++ [(as_.getD i 0, bs.getD j 0, x.2.2)] := by rw [hpart, ← List.append_assoc, List.map_append]; rfl
      have hp2 : (l0 ++ ((as_.take i).flatMap gf ++ (bs.take (j + 1)).map (fun b => (((as_.getD i 0, b, x.2.2) : Tw), x.2.2)))).map (·.2) = (l0 ++ ((as_.take i).flatMap gf ++ (bs.take j).map fun b => (((as_.getD i 0, b, x.2.2) : Tw), x.2.2))).map (·.2) ++ [x.2.2] := by rw [hpart, ← List.append_assoc, List.map_append]; rfl
      have hl1 : ((l0 ++ ((as_.take i).flatMap gf ++ (bs.take (j + 1)).map (fun b => (((as_.getD i 0, b, x.2.2) : Tw), x.2.2)))).map (·.1)).length = ((l0 ++ ((as_.take i).flatMap gf ++ (bs.take j).map fun b => (((as_.getD i 0, b, x.2.2) : Tw), x.2.2))).map (·.1)).length + 1 := by rw [hp1, List.length_append]; rfl
      have hl2 : ((l0 ++ ((as_.take i).flatMap gf ++ (bs.take (j + 1)).map (fun b => (((as_.getD i 0, b, x.2.2) : Tw), x.2.2)))).map (·.2)).length = ((l0 ++ ((as_.take i).flatMap gf ++ (bs.take j).map fun b => (((as_.getD i 0, b, x.2.2) : Tw), x.2.2))).map (·.2)).length + 1 := by rw [hp2, List.length_append]; rfl
      have dd : Same w11 w11.drew := (Same.refl w11).drew
      have qd := q.below (dd.below _)
      have k1d := k1.same dd
      have k2d := k2.same dd
      have iAd := iA.keepT (KeepT.same dd)
      have iBd := iB.keepT (KeepT.same dd)
      have bbd := bb.trans (dd.below _)
      generalize hud : w11.drew = u at *
      have sAd := iAd.isSome (by omega)
      have sBd := iBd.isSome (by omega)
      have la := fun {K : Fr → World → Prop} {f : Fr} {d : Option Nat} {w : World} => iAd.ld (P := Try.prog) (K := K) (f := f) (d := d) (w := w) ty_ag_3 i hil
      have lb := fun {K : Fr → World → Prop} {f : Fr} {d : Option Nat} {w : World} => iBd.ld (P := Try.prog) (K := K) (f := f) (d := d) (w := w) ty_ag_3 j hjl
      have hbs1 := fun {K : Fr → World → Prop} {f : Fr} {d : Option Nat} {w : World} => bs_rec (P := Try.prog) (K := K) (f := f) (d := d) (w := w) arrEnc slT_54 ⟨as_.getD i 0, bs.getD j 0, (cnt x.2.2 : Int)⟩ (by decide)
      simp (disch := first | with_reducible assumption | omega) only [push_cast, x_blk, x_cd, ↓reduceIte, Nat.reduceEqDiff, List.map_cons, List.map_nil, Int.reduceEq, Int.lt_irrefl, L_ref13_leads_2, fr, hjl, hil, hud, la, lb, k2d.a2 ty_ag_3, twA_2, bl_tw, hbs1]
      refine ⟨(Below.refl _ _).alloc (Nat.le_refl _) _, ?_⟩
      refine app_rec twEnc slT_54 qd.a (as_.getD i 0, bs.getD j 0, x.2.2) (by rw [List.length_map]; omega) (by rw [List.length_map]; omega) (by have := k2d.lt; omega) ?_
      intro Aa' ca' wa oa ga hAa hsa hza
      have kta := KeepT.grew (es := [3]) (B := w.heap.size) qd.a (by omega) (by decide) ga
      have oc := qd.c.grew ga (Own.apart qd.c qd.a (by decide))
      have k1a := k1d.grown ga.by_ (fun e => qd.a.ne_blk k1d (by decide) e.symm)
      have k2a := k2d.grown ga.by_ (qd.a.ne_lt (Nat.lt_succ_self _))
      have bba := ga.below bbd bbd.size (fun a ha => by have := qd.a.geB a ha; omega)
      simp (disch := first | with_reducible assumption | omega) only [push_cast, x_blk, x_cd, ↓reduceIte, Nat.reduceEqDiff, List.map_cons, List.map_nil, Int.reduceEq, Int.lt_irrefl, fr, cnt_one, k2a.a2 ty_ag_3, twA_2, bsl1_bo]
      refine app_rec boEnc slT_69 oc x.2.2 (by rw [List.length_map]; omega) (by rw [List.length_map]; omega) (by have := k2a.lt; omega) ?_
      intro C' cc' wb ob gb hCb hsb hzb
      have ktb := kta.trans (KeepT.grew (es := [3]) (B := w.heap.size) oc (by omega) (by decide) gb)
      have oab := oa.grew gb (Own.apart oa oc (by decide))
      have k1b := k1a.grown gb.by_ (fun e => oc.ne_blk k1a (by decide) e.symm)
      have k2b := k2a.grown gb.by_ (oc.ne_lt (Nat.lt_succ_self _))
      have bbb := gb.below bba bba.size (fun a ha => by have := oc.geB a ha; omega)
      simp (disch := first | with_reducible assumption | omega) only [push_cast, x_blk, x_cd, ↓reduceIte, Nat.reduceEqDiff, List.map_cons, List.map_nil, Int.reduceEq, Int.lt_irrefl, fr]
      exact hJ3 _ _ ⟨j + 1, Aa', C', ca', cc', by omega, (by simp only [push_cast, ↓reduceIte, Nat.reduceEqDiff, true_and, and_true, and_self, eq_self, fr, hl1, hl2]), ⟨by rw [hp1]; exact oab, by rw [hp2]; exact ob⟩, k1b, k2b, iAd.keepT ktb, iBd.keepT ktb, bbb⟩ (by rw [hmu3]; simp only [push_cast, ↓reduceIte, Nat.reduceEqDiff, intOf, fr]; omega)
    case neg =>
      rw [if_neg c5] at hle
      simp (disch := first | with_reducible assumption | omega) only [push_cast, x_blk, x_cd, ↓reduceIte, Nat.reduceEqDiff, List.map_cons, List.map_nil, Int.reduceEq, Int.lt_irrefl, decide_eq_false c5, fr]
      refine loop_rule (fun f' w' => ∃ (i : Nat) (A C : Option Addr) (ca cc : Nat), i ≤ as_.length ∧ (f' 1 = .slice A1 seen.length c1 ∧ f' 2 = .slice A2 faults.length c2 ∧ f' 4 = .pointer (some ⟨w.heap.size, 0, none⟩) ∧ f' 7 = .pointer (some ⟨G, 0, none⟩) ∧ f' 12 = .int .i64 k ∧ f' 13 = .slice As as_.length cs ∧ f' 14 = .slice Bz bs.length cz ∧ f' 16 = .int .i64 (cnt fv : Int) ∧ f' 10 = .slice A ((l0 ++ ((as_.take i).map (fun a => (((a, x.2.1, fv) : Tw), x.2.2)))).map (·.1)).length ca ∧ f' 11 = .slice C ((l0 ++ ((as_.take i).map (fun a => (((a, x.2.1, fv) : Tw), x.2.2)))).map (·.2)).length cc ∧ f' 19 = .int .i64 i) ∧
          LQ (G + 1) w' A C ca cc (l0 ++ ((as_.take i).map (fun a => (((a, x.2.1, fv) : Tw), x.2.2)))) ∧ Blk w' w.heap.size 25 (a.cells m) ∧ Blk w' G 61 (arrCells (twA x)) ∧ Ints (TyB [3] w.heap.size w') w' As as_ ∧ Ints (TyB [3] w.heap.size w') w' Bz bs ∧ Below w.heap.size w w')
        (fun f' _ => as_.length - (intOf (f' 19)).toNat) ⟨0, A, C, ca, cc, Nat.zero_le _, (by simp only [push_cast, ↓reduceIte, Nat.reduceEqDiff, true_and, and_true, and_self, eq_self, fr, fr, h14, h16, List.take_zero, List.map_nil, List.append_nil]), by simpa using q, k1, k2, iA, iB', bb⟩ ?_
      clear q k1 k2 iA iB' bb fr h14 h16 zw A C ca cc
      rintro f w11 ⟨i, A, C, ca, cc, hi, fr, q, k1, k2, iA, iB, bb⟩ J2 hJ2
      have hmu2 : (intOf (f 19)).toNat = i := by rw [fr.2.2.2.2.2.2.2.2.2.2]; simp [intOf]
      by_cases hil : i < as_.length
      case pos =>
        have hplen : (l0 ++ ((as_.take i).map (fun a => (((a, x.2.1, fv) : Tw), x.2.2)))).length ≤ 1000 := by rw [List.length_append, List.length_map, List.length_take]; omega
        have hpart : ((as_.take (i + 1)).map (fun a => (((a, x.2.1, fv) : Tw), x.2.2))) = ((as_.take i).map (fun a => (((a, x.2.1, fv) : Tw), x.2.2))) ++ [((as_.getD i 0, x.2.1, fv), x.2.2)] := by
          rw [take_snoc as_ 0 i hil, List.map_append]; rfl
        have hp1 : (l0 ++ ((as_.take (i + 1)).map (fun a => (((a, x.2.1, fv) : Tw), x.2.2)))).map (·.1) = (l0 ++ ((as_.take i).map (fun a => (((a, x.2.1, fv) : Tw), x.2.2)))).map (·.1) ++ [(as_.getD i 0, x.2.1, fv)] := by rw [hpart, ← List.append_assoc, List.map_append]; rfl
        have hp2 : (l0 ++ ((as_.take (i + 1)).map (fun a => (((a, x.2.1, fv) : Tw), x.2.2)))).map (·.2) = (l0 ++ ((as_.take i).map (fun a => (((a, x.2.1, fv) : Tw), x.2.2)))).map (·.2) ++ [x.2.2] := by rw [hpart, ← List.append_assoc, List.map_append]; rfl
        have hl1 : ((l0 ++ ((as_.take (i + 1)).map (fun a => (((a, x.2.1, fv) : Tw), x.2.2)))).map (·.1)).length = ((l0 ++ ((as_.take i).map (fun a => (((a, x.2.1, fv) : Tw), x.2.2)))).map (·.1)).length + 1 := by rw [hp1, List.length_append]; rfl
        have hl2 : ((l0 ++ ((as_.take (i + 1)).map (fun a => (((a, x.2.1, fv) : Tw), x.2.2)))).map (·.2)).length = ((l0 ++ ((as_.take i).map (fun a => (((a, x.2.1, fv) : Tw), x.2.2)))).map (·.2)).length + 1 := by rw [hp2, List.length_append]; rfl
        have dd : Same w11 w11.drew := (Same.refl w11).drew
        have qd := q.below (dd.below _)
        have k1d := k1.same dd
        have k2d := k2.same dd
        have iAd := iA.keepT (KeepT.same dd)
        have iBd := iB.keepT (KeepT.same dd)
        have bbd := bb.trans (dd.below _)
        generalize hud : w11.drew = u at *
        have sAd := iAd.isSome (by omega)
        have la := fun {K : Fr → World → Prop} {f : Fr} {d : Option Nat} {w : World} => iAd.ld (P := Try.prog) (K := K) (f := f) (d := d) (w := w) ty_ag_3 i hil
        have hbs1 := fun {K : Fr → World → Prop} {f : Fr} {d : Option Nat} {w : World} => bs_rec (P := Try.prog) (K := K) (f := f) (d := d) (w := w) arrEnc slT_54 ⟨as_.getD i 0, x.2.1, (cnt fv : Int)⟩ (by decide)
        simp (disch := first | with_reducible assumption | omega) only [push_cast, x_blk, x_cd, ↓reduceIte, Nat.reduceEqDiff, List.map_cons, List.map_nil, Int.reduceEq, Int.lt_irrefl, L_ref13_leads_1, fr, hil, hud, la, k2d.a1 ty_ag_3, twA_1, bl_tw, hbs1]
        refine ⟨(Below.refl _ _).alloc (Nat.le_refl _) _, ?_⟩
        refine app_rec twEnc slT_54 qd.a (as_.getD i 0, x.2.1, fv) (by rw [List.length_map]; omega) (by rw [List.length_map]; omega) (by have := k2d.lt; omega) ?_
        intro Aa' ca' wa oa ga hAa hsa hza
        have kta := KeepT.grew (es := [3]) (B := w.heap.size) qd.a (by omega) (by decide) ga
        have oc := qd.c.grew ga (Own.apart qd.c qd.a (by decide))
        have k1a := k1d.grown ga.by_ (fun e => qd.a.ne_blk k1d (by decide) e.symm)
        have k2a := k2d.grown ga.by_ (qd.a.ne_lt (Nat.lt_succ_self _))
        have bba := ga.below bbd bbd.size (fun a ha => by have := qd.a.geB a ha; omega)
        simp (disch := first | with_reducible assumption | omega) only [push_cast, x_blk, x_cd, ↓reduceIte, Nat.reduceEqDiff, List.map_cons, List.map_nil, Int.reduceEq, Int.lt_irrefl, fr, cnt_one, k2a.a2 ty_ag_3, twA_2, bsl1_bo]
        refine app_rec boEnc slT_69 oc x.2.2 (by rw [List.length_map]; omega) (by rw [List.length_map]; omega) (by have := k2a.lt; omega) ?_
        intro C' cc' wb ob gb hCb hsb hzb
        have ktb := kta.trans (KeepT.grew (es := [3]) (B := w.heap.size) oc (by omega) (by decide) gb)
        have oab := oa.grew gb (Own.apart oa oc (by decide))
        have k1b := k1a.grown gb.by_ (fun e => oc.ne_blk k1a (by decide) e.symm)
        have k2b := k2a.grown gb.by_ (oc.ne_lt (Nat.lt_succ_self _))
        have bbb := gb.below bba bba.size (fun a ha => by have := oc.geB a ha; omega)
        simp (disch := first | with_reducible assumption | omega) only [push_cast, x_blk, x_cd, ↓reduceIte, Nat.reduceEqDiff, List.map_cons, List.map_nil, Int.reduceEq, Int.lt_irrefl, fr]
        exact hJ2 _ _ ⟨i + 1, Aa', C', ca', cc', by omega, (by simp only [push_cast, ↓reduceIte, Nat.reduceEqDiff, true_and, and_true, and_self, eq_self, fr, hl1, hl2]), ⟨by rw [hp1]; exact oab, by rw [hp2]; exact ob⟩, k1b, k2b, iAd.keepT ktb, iBd.keepT ktb, bbb⟩ (by rw [hmu2]; simp only [push_cast, ↓reduceIte, Nat.reduceEqDiff, intOf, fr]; omega)
      obtain rfl : i = as_.length := by omega
      rw [List.take_length] at q fr
      simp (disch := first | with_reducible assumption | omega) only [push_cast, x_blk, x_cd, ↓reduceIte, Nat.reduceEqDiff, List.map_cons, List.map_nil, Int.reduceEq, Int.lt_irrefl, L_ref13_leads_1, fr, Nat.lt_irrefl]
      refine loop_rule (fun f' w' => ∃ (j : Nat) (A C : Option Addr) (ca cc : Nat), j ≤ bs.length ∧ (f' 1 = .slice A1 seen.length c1 ∧ f' 2 = .slice A2 faults.length c2 ∧ f' 4 = .pointer (some ⟨w.heap.size, 0, none⟩) ∧ f' 7 = .pointer (some ⟨G, 0, none⟩) ∧ f' 12 = .int .i64 k ∧ f' 13 = .slice As as_.length cs ∧ f' 14 = .slice Bz bs.length cz ∧ f' 16 = .int .i64 (cnt fv : Int) ∧ f' 10 = .slice A ((l0 ++ (as_.map (fun a => (((a, x.2.1, fv) : Tw), x.2.2)) ++ (bs.take j).map (fun b => (((x.1, b, x.2.2) : Tw), false)))).map (·.1)).length ca ∧ f' 11 = .slice C ((l0 ++ (as_.map (fun a => (((a, x.2.1, fv) : Tw), x.2.2)) ++ (bs.take j).map (fun b => (((x.1, b, x.2.2) : Tw), false)))).map (·.2)).length cc ∧ f' 20 = .int .i64 j) ∧
          LQ (G + 1) w' A C ca cc (l0 ++ (as_.map (fun a => (((a, x.2.1, fv) : Tw), x.2.2)) ++ (bs.take j).map (fun b => (((x.1, b, x.2.2) : Tw), false)))) ∧ Blk w' w.heap.size 25 (a.cells m) ∧ Blk w' G 61 (arrCells (twA x)) ∧ Ints (TyB [3] w.heap.size w') w' As as_ ∧ Ints (TyB [3] w.heap.size w') w' Bz bs ∧ Below w.heap.size w w')
        (fun f' _ => bs.length - (intOf (f' 20)).toNat) ⟨0, A, C, ca, cc, Nat.zero_le _, (by simp only [push_cast, ↓reduceIte, Nat.reduceEqDiff, true_and, and_true, and_self, eq_self, fr, fr, List.take_zero, List.map_nil, List.append_nil]), by simpa using q, k1, k2, iA, iB, bb⟩ ?_
      clear q k1 k2 iA iB bb fr A C ca cc hmu2
      rintro f w11 ⟨j, A, C, ca, cc, hj, fr, q, k1, k2, iA, iB, bb⟩ J3 hJ3
      have hmu3 : (intOf (f 20)).toNat = j := by rw [fr.2.2.2.2.2.2.2.2.2.2]; simp [intOf]
      by_cases hjl : j < bs.length
      case neg =>
        obtain rfl : j = bs.length := by omega
        rw [List.take_length] at q fr
        rw [← hle, ← hsucc] at q fr
        simp (disch := first | with_reducible assumption | omega) only [push_cast, x_blk, x_cd, ↓reduceIte, Nat.reduceEqDiff, List.map_cons, List.map_nil, Int.reduceEq, Int.lt_irrefl, L_ref13_leads_0, fr, Nat.lt_irrefl]
        exact hJ _ _ ⟨k + 1, A, C, ca, cc, by omega, (by simp only [push_cast, ↓reduceIte, Nat.reduceEqDiff, true_and, and_true, and_self, eq_self, fr]), q, k1, k2, bb⟩ (by rw [hmu]; simp only [push_cast, ↓reduceIte, Nat.reduceEqDiff, intOf, fr]; omega)
      have hplen : (l0 ++ (as_.map (fun a => (((a, x.2.1, fv) : Tw), x.2.2)) ++ (bs.take j).map (fun b => (((x.1, b, x.2.2) : Tw), false)))).length ≤ 1000 := by rw [List.length_append, List.length_append, List.length_map, List.length_map, List.length_take]; omega
      have hpart : (as_.map (fun a => (((a, x.2.1, fv) : Tw), x.2.2)) ++ (bs.take (j + 1)).map (fun b => (((x.1, b, x.2.2) : Tw), false))) = (as_.map (fun a => (((a, x.2.1, fv) : Tw), x.2.2)) ++ (bs.take j).map (fun b => (((x.1, b, x.2.2) : Tw), false))) ++ [((x.1, bs.getD j 0, x.2.2), false)] := by
        rw [take_snoc bs 0 j hjl, List.map_append, List.append_assoc]; rfl
      have hp1 : (l0 ++ (as_.map (fun a => (((a, x.2.1, fv) : Tw), x.2.2)) ++ (bs.take (j + 1)).map (fun b => (((x.1, b, x.2.2) : Tw), false)))).map (·.1) = (l0 ++ (as_.map (fun a => (((a, x.2.1, fv) : Tw), x.2.2)) ++ (bs.take j).map (fun b => (((x.1, b, x.2.2) : Tw), false)))).map (·.1) ++ [(x.1, bs.getD j 0, x.2.2)] := by rw [hpart, ← List.append_assoc, List.map_append]; rfl
      have hp2 : (l0 ++ (as_.map (fun a => (((a, x.2.1, fv) : Tw), x.2.2)) ++ (bs.take (j + 1)).map (fun b => (((x.1, b, x.2.2) : Tw), false)))).map (·.2) = (l0 ++ (as_.map (fun a => (((a, x.2.1, fv) : Tw), x.2.2)) ++ (bs.take j).map (fun b => (((x.1, b, x.2.2) : Tw), false)))).map (·.2) ++ [false] := by rw [hpart, ← List.append_assoc, List.map_append]; rfl
      have hl1 : ((l0 ++ (as_.map (fun a => (((a, x.2.1, fv) : Tw), x.2.2)) ++ (bs.take (j + 1)).map (fun b => (((x.1, b, x.2.2) : Tw), false)))).map (·.1)).length = ((l0 ++ (as_.map (fun a => (((a, x.2.1, fv) : Tw), x.2.2)) ++ (bs.take j).map (fun b => (((x.1, b, x.2.2) : Tw), false)))).map (·.1)).length + 1 := by rw [hp1, List.length_append]; rfl
      have hl2 : ((l0 ++ (as_.map (fun a => (((a, x.2.1, fv) : Tw), x.2.2)) ++ (bs.take (j + 1)).map (fun b => (((x.1, b, x.2.2) : Tw), false)))).map (·.2)).length = ((l0 ++ (as_.map (fun a => (((a, x.2.1, fv) : Tw), x.2.2)) ++ (bs.take j).map (fun b => (((x.1, b, x.2.2) : Tw), false)))).map (·.2)).length + 1 := by rw [hp2, List.length_append]; rfl
      have dd : Same w11 w11.drew := (Same.refl w11).drew
      have qd := q.below (dd.below _)
      have k1d := k1.same dd
      have k2d := k2.same dd
      have iAd := iA.keepT (KeepT.same dd)
      have iBd := iB.keepT (KeepT.same dd)
      have bbd := bb.trans (dd.below _)
      generalize hud : w11.drew = u at *
      have sBd := iBd.isSome (by omega)
      have lb := fun {K : Fr → World → Prop} {f : Fr} {d : Option Nat} {w : World} => iBd.ld (P := Try.prog) (K := K) (f := f) (d := d) (w := w) ty_ag_3 j hjl
      have hbs1 := fun {K : Fr → World → Prop} {f : Fr} {d : Option Nat} {w : World} => bs_rec (P := Try.prog) (K := K) (f := f) (d := d) (w := w) arrEnc slT_54 ⟨x.1, bs.getD j 0, (cnt x.2.2 : Int)⟩ (by decide)
      simp (disch := first | with_reducible assumption | omega) only [push_cast, x_blk, x_cd, ↓reduceIte, Nat.reduceEqDiff, List.map_cons, List.map_nil, Int.reduceEq, Int.lt_irrefl, L_ref13_leads_0, fr, hjl, hud, lb, k2d.a0 ty_ag_3, k2d.a2 ty_ag_3, twA_0, twA_2, bl_tw, hbs1]
      refine ⟨(Below.refl _ _).alloc (Nat.le_refl _) _, ?_⟩
      refine app_rec twEnc slT_54 qd.a (x.1, bs.getD j 0, x.2.2) (by rw [List.length_map]; omega) (by rw [List.length_map]; omega) (by have := k2d.lt; omega) ?_
      intro Aa' ca' wa oa ga hAa hsa hza
      have kta := KeepT.grew (es := [3]) (B := w.heap.size) qd.a (by omega) (by decide) ga
      have oc := qd.c.grew ga (Own.apart qd.c qd.a (by decide))
      have k1a := k1d.grown ga.by_ (fun e => qd.a.ne_blk k1d (by decide) e.symm)
      have k2a := k2d.grown ga.by_ (qd.a.ne_lt (Nat.lt_succ_self _))
      have bba := ga.below bbd bbd.size (fun a ha => by have := qd.a.geB a ha; omega)
      simp (disch := first | with_reducible assumption | omega) only [push_cast, x_blk, x_cd, ↓reduceIte, Nat.reduceEqDiff, List.map_cons, List.map_nil, Int.reduceEq, Int.lt_irrefl, fr, bsl1_bo]
      refine app_rec boEnc slT_69 oc false (by rw [List.length_map]; omega) (by rw [List.length_map]; omega) (by have := k2a.lt; omega) ?_
      intro C' cc' wb ob gb hCb hsb hzb
      have ktb := kta.trans (KeepT.grew (es := [3]) (B := w.heap.size) oc (by omega) (by decide) gb)
      have oab := oa.grew gb (Own.apart oa oc (by decide))
      have k1b := k1a.grown gb.by_ (fun e => oc.ne_blk k1a (by decide) e.symm)
      have k2b := k2a.grown gb.by_ (oc.ne_lt (Nat.lt_succ_self _))
      have bbb := gb.below bba bba.size (fun a ha => by have := oc.geB a ha; omega)
      simp (disch := first | with_reducible assumption | omega) only [push_cast, x_blk, x_cd, ↓reduceIte, Nat.reduceEqDiff, List.map_cons, List.map_nil, Int.reduceEq, Int.lt_irrefl, fr]
      exact hJ3 _ _ ⟨j + 1, Aa', C', ca', cc', by omega, (by simp only [push_cast, ↓reduceIte, Nat.reduceEqDiff, true_and, and_true, and_self, eq_self, fr, hl1, hl2]), ⟨by rw [hp1]; exact oab, by rw [hp2]; exact ob⟩, k1b, k2b, iAd.keepT ktb, iBd.keepT ktb, bbb⟩ (by rw [hmu3]; simp only [push_cast, ↓reduceIte, Nat.reduceEqDiff, intOf, fr]; omega)
end Go.Proofs.Ytfckamjbeplceaa
