/-
  What comes in: the arguments of a law, opened to integers, rows of integers, machines. No program in sight. (Two blocks after the guide's page on structs.)
  What comes in: plants. No program in sight.
-/
import Derived.Test.YtpinjiikiaakaaaZOwn
import Derived.ProofKit
import Derived.OpenShut
import Derived.Deep.Slices
import Derived.Deep.Fields
import Derived.ChangeSame
import Derived.ChangeOld
import Derived.Lib.SmallJoins
import Derived.SizedLaws
namespace Go.Proofs.Ytpinjiikiaakaaa
set_option linter.unusedSimpArgs false
set_option linter.unusedVariables false
set_option linter.unusedSectionVars false
section
open Go.RowKit Go.ChangeShapes Go.WideShapes Go.Deep Go.Joins

section
variable {H : Type} {enc : TypeId × Value → H} {P : Program} {w : World} {base : Nat} {spare : Nat → Bool} {held : Bool}
theorem open_slice_fields {t e : TypeId} {fs : Array Field} {fuel : Nat} {cs : List Value} {x : DataW H × List MemPlace} (ht : P.underlying t = some (.slice e)) (he : P.underlying e = some (.struct fs))
    (hone : oneCellFields P fs = true) (hC : P.cellsOf e = fs.size) (h : DataW.trod enc P w base spare held fuel t cs = some x) :
    (cs = [.slice none 0 0] ∧ x = (.nil, [])) ∨
    ∃ (a : Addr) (len cap m : Nat) (D : Nat → DataW H) (Pl : Nat → List MemPlace), cs = [.slice (some a) len cap] ∧ base ≤ a.block ∧ len ≤ cap ∧ cap ≤ maxLen ∧ m = (if spare a.block then cap else len) ∧
      x = (.slice ((List.range len).map D) ((List.range (m - len)).map fun j => D (len + j)), MemPlace.row a (m * fs.size) ++ (List.range m).flatMap Pl) ∧
      ∀ i, i < m → ∃ (ys : List (DataW H × List MemPlace)) (n : Nat), D i = .agg (ys.map (·.1)) ∧ Pl i = ys.flatMap (·.2) ∧ ys.length = fs.size ∧
        ∀ (j : Nat) (f : Field), fs[j]? = some f → ∃ (v : Value) (y : DataW H × List MemPlace), w.cell? (a.add (i * fs.size + j)) = some v ∧ ys[j]? = some y ∧ DataW.trod enc P w base spare held n f.type [v] = some y := by
  rcases open_slice ht h with h0 | ⟨a, len, cap, m, n, D, Pl, hcs, hb, hl, hm, hmm, hx, hi⟩
  · exact .inl h0
  · refine .inr ⟨a, len, cap, m, D, Pl, hcs, hb, hl, hm, hmm, by rw [hC] at hx; exact hx, fun i him => ?_⟩
    obtain ⟨cs', hc, ht'⟩ := hi i him
    rw [hC] at hc
    obtain ⟨ys, n', hn', hy, hlen, hyl, hf⟩ := DataW.trod_struct he ht'
    obtain ⟨_, hcl, hat⟩ := World.cells?_some hc
    simp only [Prod.mk.injEq] at hy
    refine ⟨ys, n', hy.1, hy.2, hyl, fun j f hj => ?_⟩
    obtain ⟨ho, hk⟩ := hone_of hone j f hj
    have hjl : j < fs.size := (Array.getElem?_eq_some_iff.1 hj).1
    have hcell := hat j hjl
    have hv : cs'[j]? = some (cs'[j]'(by omega)) := List.getElem?_eq_getElem (by omega)
    have h1 := hf j f hj
    rw [ho, hk] at h1
    have hone' : (cs'.drop j).take 1 = [cs'[j]'(by omega)] := by
      rw [List.drop_eq_getElem_cons (by omega)]
      rfl
    rw [hone'] at h1
    have hys : ys[j]? = some (ys[j]'(by omega)) := List.getElem?_eq_getElem (by omega)
    refine ⟨_, _, ?_, hys, h1.trans hys⟩
    rw [← Go.Deep.add_add, hcell, hv]
end

section
variable {H : Type} {enc : TypeId × Value → H} {P : Program} {w : World} {base : Nat} {spare : Nat → Bool} {held : Bool}
end

def Sized {H : Type} (P : Program) (t : TypeId) (d : DataW H) : Prop := ∀ n ∈ d.weights P t, n ≤ reachBytes
theorem sized_of {H : Type} {P : Program} {ts : List TypeId} {ds : List (DataW H)} (h : (DataW.weightsEach P ts ds).all (· ≤ reachBytes) = true) (j : Nat) {t : TypeId} {d : DataW H} (ht : ts[j]? = some t) (hd : ds[j]? = some d) : Sized P t d :=
  fun n hn => by simpa using List.all_eq_true.1 h n (DataW.weights_mem_each ht hd n hn)
theorem i64_of_wf {x : Int} (h : (Lit.int .i64 x).wf = true) : I64 x := by
  simp [Lit.wf, IntKind.min, IntKind.max, IntKind.signed, IntKind.bits] at h
  exact ⟨by omega, by omega⟩
section
variable {H : Type} {enc : TypeId × Value → H} {P : Program} {w : World} {base : Nat} {spare : Nat → Bool} {held : Bool}
theorem cell_int {t : TypeId} {n : Nat} {v : Value} {y : DataW H × List MemPlace} (ht : P.underlying t = some (.int .i64)) (h : DataW.trod enc P w base spare held n t [v] = some y) : ∃ x, v = .int .i64 x ∧ I64 x := by
  obtain ⟨x, hx, _, hw⟩ := DataW.trod_int ht h
  simp at hx
  exact ⟨x, hx, i64_of_wf hw⟩
theorem cell_ints {t e : TypeId} {n : Nat} {v : Value} {y : DataW H × List MemPlace} (ht : P.underlying t = some (.slice e)) (he : P.underlying e = some (.int .i64)) (hc : P.cellsOf e = 1) (hb : P.bytesOf e = 8)
    (h : DataW.trod enc P w base spare held n t [v] = some y) (hs : Sized P t y.1) :
    ∃ A c l, v = .slice A l.length c ∧ l.length ≤ c ∧ Ints (· < w.heap.size) w A l ∧ (∀ x ∈ l, I64 x) ∧ l.length ≤ 17592186043904 ∧ ((y.1 = .nil ∧ l = []) ∨ ∃ elems spare, y.1 = .slice elems spare ∧ elems.length = l.length) := by
  rcases open_ints ht he hc h with ⟨hcs, hx0⟩ | ⟨a, len, cap, zs, hcs, _, hl, hm, hz, hx, hcell, hwz⟩
  · simp at hcs
    exact ⟨none, 0, [], by simpa using hcs, by simp, Ints.nil _ _ _, by simp, by simp, .inl ⟨by rw [hx0], rfl⟩⟩
  · simp at hcs
    have hzl : len ≤ zs.length := by rw [hz]; split <;> omega
    have hlen : (zs.take len).length = len := by simp; omega
    refine ⟨some a, cap, zs.take len, by rw [hlen]; exact hcs, by rw [hlen]; exact hl, ⟨fun _ => rfl, fun h0 => ?_, fun i hi => ?_⟩, fun x hx' => i64_of_wf (hwz x (List.mem_of_mem_take hx')), ?_, .inr ⟨_, _, congrArg Prod.fst hx, by simp [lits]⟩⟩
    · have := World.block_lt_of_cell? w _ (hcell 0 (by omega))
      rwa [show (a.add 0).block = a.block from by unfold Addr.add; rfl] at this
    · have hi' : i < len := by omega
      rw [eA_some, hcell i (by omega)]
      simp [List.getD_eq_getElem?_getD, hi']
    · rw [hlen]
      have := hs ((zs.take len).length * 8 + (zs.drop len).length * 8) (by
        rw [show y.1 = _ from congrArg Prod.fst hx]
        simp [DataW.weights, ht, hb, lits, Nat.add_mul])
      rw [hlen] at this
      simp only [reachBytes] at this
      omega
theorem cell_arrs {t e : TypeId} {f0 f1 f2 : Field} {n : Nat} {v : Value} {y : DataW H × List MemPlace} (ht : P.underlying t = some (.slice e)) (he : P.underlying e = some (.struct #[f0, f1, f2])) (hone : oneCellFields P #[f0, f1, f2] = true) (hC : P.cellsOf e = 3)
    (hb : P.bytesOf e = 24) (h0 : P.underlying f0.type = some (.int .i64)) (h1 : P.underlying f1.type = some (.int .i64)) (h2 : P.underlying f2.type = some (.int .i64))
    (h : DataW.trod enc P w base spare held n t [v] = some y) (hs : Sized P t y.1) :
    ∃ A c l, v = .slice A l.length c ∧ l.length ≤ c ∧ Arrs (· < w.heap.size) w A l ∧ (∀ a ∈ l, I64 a.frm ∧ I64 a.evt ∧ I64 a.to_) ∧ l.length ≤ 17592186043904 := by
  rcases open_slice_fields ht he hone hC h with ⟨hcs, _⟩ | ⟨a, len, cap, m, D, Pl, hcs, _, hl, hm, hmm, hx, hi⟩
  · simp at hcs
    exact ⟨none, 0, [], by simpa using hcs, by simp, Arrs.nil _ _ _, by simp, by simp⟩
  · simp at hcs
    have hlm : len ≤ m := by rw [hmm]; split <;> omega
    have key : ∀ i, i < len → ∃ r : Arr, (I64 r.frm ∧ I64 r.evt ∧ I64 r.to_) ∧ ∀ j, j < 3 → w.cell? (eA (some a) (i * 3 + j)) = some (.int .i64 (r.cell j)) := by
      intro i hi'
      obtain ⟨ys, k, _, _, _, hf⟩ := hi i (by omega)
      obtain ⟨v0, y0, c0, _, t0⟩ := hf 0 f0 rfl
      obtain ⟨v1, y1, c1, _, t1⟩ := hf 1 f1 rfl
      obtain ⟨v2, y2, c2, _, t2⟩ := hf 2 f2 rfl
      obtain ⟨x0, rfl, w0⟩ := cell_int h0 t0
      obtain ⟨x1, rfl, w1⟩ := cell_int h1 t1
      obtain ⟨x2, rfl, w2⟩ := cell_int h2 t2
      refine ⟨⟨x0, x1, x2⟩, ⟨w0, w1, w2⟩, fun j hj => ?_⟩
      match j, hj with
      | 0, _ => exact c0
      | 1, _ => exact c1
      | 2, _ => exact c2
    have hch : ∃ g : Nat → Arr, ∀ i, i < len → (I64 (g i).frm ∧ I64 (g i).evt ∧ I64 (g i).to_) ∧ ∀ j, j < 3 → w.cell? (eA (some a) (i * 3 + j)) = some (.int .i64 ((g i).cell j)) :=
      ⟨fun i => if h : i < len then Classical.choose (key i h) else default, fun i h => by simp only [h, dite_true]; exact Classical.choose_spec (key i h)⟩
    obtain ⟨g, hg⟩ := hch
    have hlen : ((List.range len).map g).length = len := by simp
    have hget : ∀ i, i < len → ((List.range len).map g).getD i default = g i := fun i h => by simp [List.getD_eq_getElem?_getD, h]
    refine ⟨some a, cap, (List.range len).map g, by rw [hlen]; exact hcs, by rw [hlen]; exact hl, ⟨fun _ => rfl, fun h0 => ?_, fun i hi' j hj => ?_⟩, ?_, ?_⟩
    · have := World.block_lt_of_cell? w _ ((hg 0 (by omega)).2 0 (by decide))
      rwa [eA_block] at this
    · rw [hlen] at hi'
      rw [hget i hi']
      exact (hg i hi').2 j hj
    · intro r hr
      obtain ⟨i, hi', rfl⟩ := List.mem_map.1 hr
      exact (hg i (by simpa using hi')).1
    · rw [hlen]
      have := hs (len * 24 + (m - len) * 24) (by
        rw [show y.1 = _ from congrArg Prod.fst hx]
        simp [DataW.weights, ht, hb, Nat.add_mul])
      simp only [reachBytes] at this
      omega
end
section
variable {H : Type} {enc : TypeId × Value → H} {P : Program} {w : World} {base : Nat} {spare : Nat → Bool} {held : Bool} {r : Reach} {b0 : Nat} {v : Value} {d : DataW H} {p : List MemPlace}
/-- The closed facts on the type of machines. -/
structure TM (P : Program) (f0 f1 f2 f3 f4 : Field) (i e : TypeId) (g0 g1 g2 : Field) : Prop where
  one : oneCellFields P #[f0, f1, f2, f3, f4] = true
  u0 : P.underlying f0.type = some (.int .i64)
  u1 : P.underlying f1.type = some (.int .i64)
  u2 : P.underlying f2.type = some (.slice i)
  u4 : P.underlying f4.type = some (.slice i)
  ui : P.underlying i = some (.int .i64)
  ci : P.cellsOf i = 1
  bi : P.bytesOf i = 8
  u3 : P.underlying f3.type = some (.slice e)
  ue : P.underlying e = some (.struct #[g0, g1, g2])
  onee : oneCellFields P #[g0, g1, g2] = true
  ce : P.cellsOf e = 3
  be : P.bytesOf e = 24
  v0 : P.underlying g0.type = some (.int .i64)
  v1 : P.underlying g1.type = some (.int .i64)
  v2 : P.underlying g2.type = some (.int .i64)
/-- Its capacities. -/
structure MV.Caps (a : MV) (m : Mach) : Prop where
  s : m.starts.length ≤ a.cs
  a_ : m.arrows.length ≤ a.ca
  e : m.ends.length ≤ a.ce
end
end

section
open Go.RowKit Go.ChangeShapes Go.WideShapes Go.Deep Go.Joins

/-- A plant: a machine, the events that are seen, the secret states. -/
structure Plt where
  m : Mach
  seen : List Int
  secret : List Int
structure PV where
  m : MV
  Ap : Option Addr
  cp : Nat
  Aq : Option Addr
  cq : Nat
abbrev PV.cells (a : PV) (p : Plt) : List Value := [.int .i64 p.m.states, .int .i64 p.m.events, .slice a.m.As p.m.starts.length a.m.cs, .slice a.m.Aa p.m.arrows.length a.m.ca, .slice a.m.Ae p.m.ends.length a.m.ce, .slice a.Ap p.seen.length a.cp, .slice a.Aq p.secret.length a.cq]
abbrev PV.val (a : PV) (p : Plt) : Value := .agg (a.cells p).toArray
structure IsP (ok : Nat → Prop) (w : World) (a : PV) (p : Plt) : Prop where
  m : IsM ok w a.m p.m
  seen : Ints ok w a.Ap p.seen
  secret : Ints ok w a.Aq p.secret
section
variable {u w : World} {ok ok' : Nat → Prop} {a : PV} {p : Plt}
theorem IsP.mono (h : IsP ok u a p) (hk : ∀ b, ok b → ok' b) : IsP ok' u a p := ⟨h.m.mono hk, h.seen.mono hk, h.secret.mono hk⟩
theorem IsP.keep (h : IsP ok u a p) (hk : ∀ b, ok b → w.heap[b]? = u.heap[b]?) : IsP ok w a p := ⟨h.m.keep hk, h.seen.keep hk, h.secret.keep hk⟩
theorem IsP.below {B : Nat} (h : IsP (· < B) u a p) (hb : Below B u w) : IsP (· < B) w a p := h.keep fun b hlt => hb.block b hlt
theorem IsP.same (h : IsP ok u a p) (k : Same u w) : IsP ok w a p := h.keep fun b _ => by rw [k.heap]
end
/-- What every plant that comes in keeps to. -/
structure Plt.Fits (p : Plt) : Prop where
  m : p.m.Fits
  seen : ∀ x ∈ p.seen, I64 x
  secret : ∀ x ∈ p.secret, I64 x
  lenP : p.seen.length ≤ 17592186043904
  lenQ : p.secret.length ≤ 17592186043904
structure PV.Caps (a : PV) (p : Plt) : Prop where
  m : a.m.Caps p.m
  kp : p.seen.length ≤ a.cp
  kq : p.secret.length ≤ a.cq
section
variable {H : Type} {enc : TypeId × Value → H} {P : Program} {w : World} {base : Nat} {spare : Nat → Bool} {held : Bool} {r : Reach} {b0 : Nat} {v : Value} {d : DataW H} {pl : List MemPlace}
theorem cells_mach {t : TypeId} {f0 f1 f2 f3 f4 : Field} {i e : TypeId} {g0 g1 g2 : Field} {n : Nat} {cs : List Value} {y : DataW H × List MemPlace} (hu : P.underlying t = some (.struct #[f0, f1, f2, f3, f4])) (hC : P.cellsOf t = 5) (T : TM P f0 f1 f2 f3 f4 i e g0 g1 g2)
    (h : DataW.trod enc P w base spare held n t cs = some y) (hs : Sized P t y.1) :
    ∃ (a : MV) (m : Mach), cs = a.cells m ∧ IsM (· < w.heap.size) w a m ∧ m.Fits ∧ a.Caps m := by
  obtain ⟨xs, n', _, hx, hl, hlen, hg⟩ := DataW.trod_struct hu h
  obtain ⟨o0, k0⟩ := hone_of T.one 0 f0 rfl
  obtain ⟨o1, k1⟩ := hone_of T.one 1 f1 rfl
  obtain ⟨o2, k2⟩ := hone_of T.one 2 f2 rfl
  obtain ⟨o3, k3⟩ := hone_of T.one 3 f3 rfl
  obtain ⟨o4, k4⟩ := hone_of T.one 4 f4 rfl
  match cs, hl.trans hC with
  | [v0, v1, v2, v3, v4], _ =>
  match xs, hlen with
  | [y0, y1, y2, y3, y4], _ =>
    subst hx
    have t0 : DataW.trod enc P w base spare held n' f0.type [v0] = some y0 := by simpa [o0, k0] using hg 0 f0 rfl
    have t1 : DataW.trod enc P w base spare held n' f1.type [v1] = some y1 := by simpa [o1, k1] using hg 1 f1 rfl
    have t2 : DataW.trod enc P w base spare held n' f2.type [v2] = some y2 := by simpa [o2, k2] using hg 2 f2 rfl
    have t3 : DataW.trod enc P w base spare held n' f3.type [v3] = some y3 := by simpa [o3, k3] using hg 3 f3 rfl
    have t4 : DataW.trod enc P w base spare held n' f4.type [v4] = some y4 := by simpa [o4, k4] using hg 4 f4 rfl
    have hw : ∀ (j : Nat) (tj : TypeId) (dj : DataW H), [f0.type, f1.type, f2.type, f3.type, f4.type][j]? = some tj → [y0.1, y1.1, y2.1, y3.1, y4.1][j]? = some dj → Sized P tj dj := fun j tj dj ht hd x hx =>
      hs x (by simp only [DataW.weights, hu]; exact DataW.weights_mem_each ht hd x hx)
    obtain ⟨x0, rfl, w0⟩ := cell_int T.u0 t0
    obtain ⟨x1, rfl, w1⟩ := cell_int T.u1 t1
    obtain ⟨A2, c2, l2, rfl, k2, i2, b2, n2, _⟩ := cell_ints T.u2 T.ui T.ci T.bi t2 (hw 2 _ _ rfl rfl)
    obtain ⟨A3, c3, l3, rfl, k3, i3, b3, n3⟩ := cell_arrs T.u3 T.ue T.onee T.ce T.be T.v0 T.v1 T.v2 t3 (hw 3 _ _ rfl rfl)
    obtain ⟨A4, c4, l4, rfl, k4, i4, b4, n4, _⟩ := cell_ints T.u4 T.ui T.ci T.bi t4 (hw 4 _ _ rfl rfl)
    exact ⟨⟨A2, c2, A3, c3, A4, c4⟩, ⟨x0, x1, l2, l3, l4⟩, rfl, ⟨i2, i3, i4⟩, ⟨w0, w1, b2, b4, b3, n2, n4, n3⟩, ⟨k2, k3, k4⟩⟩
end
end
end Go.Proofs.Ytpinjiikiaakaaa
