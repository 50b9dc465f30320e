/-
  Chapter 12's reference: After: the places behind a list that was seen.
-/
import Derived.Test.YtcjinmgieiebbaaDoorZRef12
namespace Go.Proofs.YtcjinmgieiebbaaDoor
set_option linter.unusedSimpArgs false
set_option linter.unusedVariables false
set_option linter.unusedSectionVars false
open Go.RowKit

structure PlsAt (w : World) (L : Option Addr) (ps : List Atp) : Prop where
  recs : Recs Atp.cells 2 (· < w.heap.size) w L ps
  row : ∀ x ∈ ps, Ints (· < w.heap.size) w x.R x.s ∧ x.s.length ≤ 256
theorem PlsAt.below {w w' : World} {L : Option Addr} {ps : List Atp} (h : PlsAt w L ps) (b : Below w.heap.size w w') : PlsAt w' L ps :=
  ⟨(h.recs.below b).mono fun _ hb => Nat.lt_of_lt_of_le hb b.size, fun x hx => ⟨(h.row x hx).1.up b, (h.row x hx).2⟩⟩
theorem PlsAt.of {B B2 : Nat} {w : World} {L : Option Addr} {c : Nat} {ps : List Atp} (ho : OwnR Atp.cells B 99 2 w L c ps) (hg : ∀ x ∈ ps, AtAt B2 w x) : PlsAt w L ps :=
  ⟨Recs.lt atEnc (by decide) (OwnR.recs ho atEnc (by decide)), fun x hx => ⟨(hg x hx).r.lt, (hg x hx).n⟩⟩

/-- What are the places behind a list. -/
inductive AftP (m s : Mach) (seen : List Int) : List Int → List Pl → Prop
  | first {l : List Pl} : l = wIterP m s seen (firstPl m s m.starts.length) l.length → AftP m s seen [] l
  | step {v : List Int} {e : Int} {l l' : List Pl} : AftP m s seen v l → l' = wIterP m s seen (sUptoP m s e l l.length) l'.length → AftP m s seen (v ++ [e]) l'
theorem AftP.good {m s : Mach} {seen : List Int} (pm : m.May) (h6 : m.states ≤ 6) (hst : ∀ l e, IsRow l 6 → IsRow (stepL s l e) 6) (hs6 : IsRow s.starts 6) {v : List Int} {l : List Pl} (h : AftP m s seen v l) : GoodPl l := by
  induction h with
  | first e => rw [e]; exact (good_firstPl pm h6 hs6 _).iter pm h6 hst _
  | step _ e ih => rw [e]; exact (GoodPl.supto pm h6 hst ih.2 _).iter pm h6 hst _

theorem ref12_After {w : World} {am sv : MV} {m s : Mach} (hm : IsM (· < w.heap.size) w am m) (fm : m.Fits) (hs : IsM (· < w.heap.size) w sv s) (fs : s.Fits) (pm : m.May) (h6 : m.states ≤ 6) (hst : ∀ l e, IsRow l 6 → IsRow (stepL s l e) 6) (hs6 : IsRow s.starts 6)
    {A1 : Option Addr} {c1 : Nat} {seen : List Int} (h1 : Ints (· < w.heap.size) w A1 seen) (n1 : seen.length ≤ 17592186043904)
    {A2 : Option Addr} {c2 : Nat} {word : List Int} (h2 : Ints (· < w.heap.size) w A2 word) (n2 : word.length ≤ 17592186043904) :
    Cal Tryd.prog 29 [am.val m, sv.val s, .slice A1 seen.length c1, .slice A2 word.length c2] w fun v w' => ∃ (ps : List Atp) (L' : Option Addr) (c' : Nat), v = .slice L' ps.length c' ∧ AftP m s seen word (ps.map Atp.abs) ∧ PlsAt w' L' ps ∧ Below w.heap.size w w' := by
  refine cal_ref12_After (by simp) 100000 fun Q hQ => ?_
  simp (disch := first | with_reducible assumption | omega) only [push_cast, x_blk, x_cd, ↓reduceIte, Nat.reduceEqDiff, List.map_cons, List.map_nil, Int.reduceEq, Int.lt_irrefl, F_ref12_After]
  refine blk_of (box_agg _ (am.cells m)) ?_
  intro w1 k1 b1 z1
  simp (disch := first | with_reducible assumption | omega) only [push_cast, x_blk, x_cd, ↓reduceIte, Nat.reduceEqDiff, List.map_cons, List.map_nil, Int.reduceEq, Int.lt_irrefl]
  refine blk_of (box_agg _ (sv.cells s)) ?_
  intro w2 k2 b2 z2
  replace k1 := k1.below b2 k1.lt
  have bb := b1.trans (b2.mono b1.size)
  simp (disch := first | with_reducible assumption | omega) only [push_cast, x_blk, x_cd, ↓reduceIte, Nat.reduceEqDiff, List.map_cons, List.map_nil, Int.reduceEq, Int.lt_irrefl, k1.mA ty_ag_25 ty_sz_25, k2.mA ty_ag_25 ty_sz_25]
  refine call_of (ref12_First (Nat.le_refl _) (hm.up bb) fm (hs.up bb) fs pm h6 hst hs6 (hs.up bb).starts (h1.up bb) n1) ?_
  rintro v w3 ⟨ps, L', c', rfl, habs, ho, hg, b3⟩
  replace k1 := k1.below b3 k1.lt
  replace k2 := k2.below b3 k2.lt
  replace bb := bb.trans (b3.mono bb.size)
  have hP := PlsAt.of ho hg
  have hA0 : AftP m s seen (word.take 0) (ps.map Atp.abs) := .first (by rw [List.length_map]; exact habs)
  clear ho hg habs b1 b2 b3 z1 z2
  simp (disch := first | with_reducible assumption | omega) only [push_cast, x_blk, x_cd, ↓reduceIte, Nat.reduceEqDiff, List.map_cons, List.map_nil, Int.reduceEq, Int.lt_irrefl]
  refine loop_rule (fun f w' => ∃ (k : Nat) (ps : List Atp) (L' : Option Addr) (c' : Nat), k ≤ word.length ∧ (f 2 = .slice A1 seen.length c1 ∧ f 3 = .slice A2 word.length c2 ∧ f 4 = .pointer (some ⟨w.heap.size, 0, none⟩) ∧ f 5 = .pointer (some ⟨w1.heap.size, 0, none⟩) ∧ f 9 = .slice L' ps.length c' ∧ f 10 = .int .i64 k) ∧ AftP m s seen (word.take k) (ps.map Atp.abs) ∧
      PlsAt w' L' ps ∧ Blk w' w.heap.size 25 (am.cells m) ∧ Blk w' w1.heap.size 25 (sv.cells s) ∧ Below w.heap.size w w')
    (fun f _ => word.length - (intOf (f 10)).toNat) ⟨0, ps, L', c', Nat.zero_le _, ⟨rfl, rfl, rfl, rfl, rfl, rfl⟩, hA0, hP, k1, k2, bb⟩ ?_
  clear k1 k2 bb hA0 hP
  clear ps L' c'
  rintro f w4 ⟨k, ps, L', c', hk, fr, hAf, hP, k1, k2, bb⟩ J hJ
  by_cases hlt : k < word.length
  case neg =>
    obtain rfl : k = word.length := by omega
    rw [List.take_length] at hAf
    simp (disch := first | with_reducible assumption | omega) only [push_cast, x_blk, x_cd, ↓reduceIte, Nat.reduceEqDiff, List.map_cons, List.map_nil, Int.reduceEq, Int.lt_irrefl, L_ref12_After_0, fr, Nat.lt_irrefl]
    exact fin_1 (hQ _ _ ⟨ps, L', c', (by simp only [push_cast, ↓reduceIte, Nat.reduceEqDiff, Int.reduceEq, fr]), hAf, hP, bb⟩)
  have hmu : (intOf (f 10)).toNat = k := by rw [fr.2.2.2.2.2]; simp [intOf]
  have hg := hAf.good pm h6 hst hs6
  have nps := hg.len
  rw [List.length_map] at nps
  have sd : Same w4 w4.drew := (Same.refl w4).drew
  have k1c := k1.same sd
  have k2c := k2.same sd
  have hPd := hP.below (sd.below _)
  have bbd := bb.trans (sd.below _)
  have hI := h2.below bbd
  have hA := hI.isSome (by omega)
  have htk : word.take (k + 1) = word.take k ++ [word.getD k 0] := take_snoc word 0 k hlt
  have hld := fun {K : Fr → World → Prop} {f : Fr} {d : Option Nat} {w : World} => hI.ld (P := Tryd.prog) (K := K) (f := f) (d := d) (w := w) ty_ag_3 k hlt
  generalize word.getD k 0 = e at *
  simp (disch := first | with_reducible assumption | omega) only [push_cast, x_blk, x_cd, ↓reduceIte, Nat.reduceEqDiff, List.map_cons, List.map_nil, Int.reduceEq, Int.lt_irrefl, L_ref12_After_0, fr, hlt, hld, k1c.mA ty_ag_25 ty_sz_25, k2c.mA ty_ag_25 ty_sz_25]
  refine call_of (ref12_step (hm.up bbd) fm (hs.up bbd) fs pm h6 hst (h1.up bbd) n1 hPd.recs (by omega) hPd.row hg.2 e) ?_
  rintro v w5 ⟨ps', L2, c3, rfl, habs, ho, hg2, b5⟩
  have bb5 := bbd.trans (b5.mono bbd.size)
  simp (disch := first | with_reducible assumption | omega) only [push_cast, x_blk, x_cd, ↓reduceIte, Nat.reduceEqDiff, List.map_cons, List.map_nil, Int.reduceEq, Int.lt_irrefl, fr]
  exact hJ _ _ ⟨k + 1, ps', L2, c3, hlt, (by simp only [push_cast, ↓reduceIte, Nat.reduceEqDiff, true_and, and_true, and_self, eq_self, fr]), by
    rw [htk]; refine .step hAf ?_
    rw [List.length_map, List.length_map]; exact habs, PlsAt.of ho hg2, k1c.below b5 k1c.lt, k2c.below b5 k2c.lt, bb5⟩ (by simp only [push_cast, ↓reduceIte, Nat.reduceEqDiff, intOf, fr]; omega)
end Go.Proofs.YtcjinmgieiebbaaDoor
