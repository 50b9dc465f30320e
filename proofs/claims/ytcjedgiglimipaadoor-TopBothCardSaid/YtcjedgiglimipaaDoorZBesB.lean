/-
  Chapter 4: the program's Beside puts two machines together: by its contract.
-/
import Derived.Test.YtcjedgiglimipaaDoorZBesD
namespace Go.Proofs.YtcjedgiglimipaaDoor
set_option linter.unusedSimpArgs false
set_option linter.unusedVariables false
set_option linter.unusedSectionVars false
open Go.RowKit

def BesSpec (a b : Mach) (ofA ofB : List Int) (dm : Mach) (rows : List (List Int)) (e : Int) : Prop :=
  (¬ (a.May ∧ b.May) ∧ dm = mach0 ∧ rows = [] ∧ e = 2) ∨
  ((a.May ∧ b.May) ∧ a.events ≠ b.events ∧ dm = mach0 ∧ rows = [] ∧ e = 3) ∨
  ((a.May ∧ b.May) ∧ a.events = b.events ∧ ¬ (IsRow ofA a.events ∧ IsRow ofB a.events) ∧ dm = mach0 ∧ rows = [] ∧ e = 2) ∨
  ((a.May ∧ b.May) ∧ a.events = b.events ∧ (IsRow ofA a.events ∧ IsRow ofB a.events) ∧ bsAll a b ofA ofB = none ∧ dm = mach0 ∧ rows = [] ∧ e = 1) ∨
  ((a.May ∧ b.May) ∧ a.events = b.events ∧ (IsRow ofA a.events ∧ IsRow ofB a.events) ∧ ∃ st, bsAll a b ofA ofB = some st ∧ dm = bsM a b st ∧ rows = st.ps.map prL ∧ e = 0)
def BesRes (a b : Mach) (ofA ofB : List Int) (w : World) (v : Value) (w' : World) : Prop :=
  ∃ (d : MV) (dm : Mach) (R : Option Addr) (cr : Nat) (hs : List Hd) (e : Int), v = .tuple #[d.val dm, .slice R hs.length cr, .int .i64 e] ∧ IsM (· < w'.heap.size) w' d dm ∧
    Recs Hd.cells 1 (· < w'.heap.size) w' R hs ∧ RowsAt (· < w'.heap.size) w' hs ∧ Below w.heap.size w w' ∧ BesSpec a b ofA ofB dm (hs.map (·.l)) e
theorem FF.nodup {a b : Mach} {ofA ofB : List Int} {st : FSt} (h : FF a b ofA ofB st) : st.ar.Nodup := by
  obtain ⟨⟨T, hF⟩, _⟩ := h
  rw [hF.fi.ar]
  have key : ∀ x ∈ T, ∀ y ∈ T, bsArr st.ps x = bsArr st.ps y → x = y := by
    rintro ⟨i, e, q⟩ hx ⟨i', e', q'⟩ hy heq
    unfold bsArr at heq
    injection heq with h1 h2 h3
    have h4 := fnd_at (hF.fi.mem _ hx)
    have h5 := fnd_at (hF.fi.mem _ hy)
    simp only at h1 h2 h3 h4 h5
    have h6 : fnd q st.ps = fnd q' st.ps := by omega
    rw [h6, h5] at h4
    injection h4 with h4
    have h7 : i = i' := by omega
    rw [h7, h2, h4]
  exact List.Pairwise.map _ (fun a b hab => hab) (List.Pairwise.imp_of_mem (fun {x y} hx hy hxy e => hxy (key x hx y hy e)) hF.nodup)
theorem FF.asm {a b : Mach} {ofA ofB : List Int} {st : FSt} (h : FF a b ofA ofB st) (ha : a.May) : ∀ x ∈ st.ar, ASm x := by
  obtain ⟨⟨T, hF⟩, ho⟩ := h
  intro x hx
  have h8 := ha.2.2.2.1
  have hl := ho.1
  obtain ⟨i, p, q, h2, h3, h4, h5, h6, h7⟩ := (FF.arrow hF x).1 ((sortA_spec _).2 x |>.2 hx)
  have l1 := (List.getElem?_eq_some_iff.1 h3).1
  have l2 := fnd_lt h5
  have l3 := evs_mem.1 h2
  unfold ASm
  rw [h6, h7]
  omega
theorem valA_of_val1 {P : Program} {K : Fr → World → Prop} {s : Sem Value} {v : Value} {f : Fr} {d : Option Nat} {w : World} (h : ∀ (K : Fr → World → Prop) (u : World) (f : Fr) (d : Option Nat) (w : World), Val1 P K s u f d w = K (updO f d v) w) : ValA P K s f d w = K (updO f d v) w :=
  valA_of f d w fun w' => by
    have h1 := h (fun f' _ => f' 0 = v) w' f (some 0) w'
    have h2 : Val1 P (fun f' _ => f' 0 = v) s w' f (some 0) w' := by rw [h1]; show upd f 0 v 0 = v; unfold upd; rw [if_pos rfl]
    obtain ⟨v', hr, hv⟩ := h2
    have : v' = v := by
      have hv' : upd f 0 v' 0 = v := hv
      unfold upd at hv'
      rwa [if_pos rfl] at hv'
    rw [← this]
    exact hr w' (Below.refl _ _)
theorem blt_pr : builtPl Tryd.prog 139 = some ([(0, 1), (1, 1)], [.int .i64 0, .int .i64 0]) := by kernel_rfl
theorem bl_prA {K : Fr → World → Prop} {f : Fr} {d : Option Nat} {w : World} (x y : Int) :
    ValA Tryd.prog K (Instr.build 139 #[(0, .int .i64 x), (1, .int .i64 y)]) f d w = K (updO f d (prV (x, y))) w :=
  valA_of_val1 fun K u f d w => by
    have := bld_2 (P := Tryd.prog) (K := K) (u := u) (f := f) (d := d) (w := w) blt_pr rfl rfl rfl (v0 := .int .i64 x) (v1 := .int .i64 y) rfl rfl
    rw [this]; rfl
theorem bl_arrA {K : Fr → World → Prop} {f : Fr} {d : Option Nat} {w : World} (x y z : Int) :
    ValA Tryd.prog K (Instr.build 85 #[(0, .int .i64 x), (1, .int .i64 y), (2, .int .i64 z)]) f d w = K (updO f d (.agg (arrCells ⟨x, y, z⟩).toArray)) w :=
  valA_of_val1 fun K u f d w => bl_arrow x y z
theorem blt_fin : builtPl Tryd.prog 136 = some ([(0, 5), (5, 1), (6, 1)], [.int .i64 0, .int .i64 0, .slice none 0 0, .slice none 0 0, .slice none 0 0, .map none, .slice none 0 0]) := by kernel_rfl
theorem bl_fin {K : Fr → World → Prop} {u : World} {f : Fr} {d : Option Nat} {w : World} (gm : Nat) :
    Val1 Tryd.prog K (Instr.build 136 #[(1, .map (some gm))]) u f d w = K (updO f d (.agg (fC 0 ⟨none, 0, none, 0, none, 0⟩ 0 0 0 gm).toArray)) w := by
  refine bld_of ?_
  rw [built_of blt_fin]
  rw [fill_cons (off := 5) (size := 1) rfl rfl (by decide), fill_nil]
  rfl
section
variable {B : Nat} {w w1 w2 : World} {g gm : Nat} {E : Int} {v : FV} {S : List Int} {ar : List Arr} {ps : List Pr}
theorem FinW.arr (h : FinW B w g gm E v S ar ps) {x : Arr} {A' : Option Addr} {c' : Nat} (o : OwnR arrCells B 85 3 w1 A' c' (ar ++ [x])) (g1 : Grew w w1 v.A2) (k : Blk w2 g 136 (fC E { v with A2 := A', c2 := c' } S.length (ar.length + 1) ps.length gm)) (g2 : Grew w1 w2 (some ⟨g, 0, none⟩)) :
    FinW B w2 g gm E { v with A2 := A', c2 := c' } S (ar ++ [x]) ps := by
  have k1 := h.blk.grown g1.by_ (fun e => h.ar.ne_blk h.blk (by decide) e.symm)
  have m1 := h.map.grown g1.by_ (h.map.ne_own h.ar)
  have st1 := h.st.grew g1 (own_far h.st h.ar (by decide))
  have ps1 := h.ps.grew g1 (own_far h.ps h.ar (by decide))
  exact ⟨by rw [List.length_append]; exact k, m1.grown g2.by_ (by have := h.ne; simp; omega), st1.grew g2 (own_farB st1 k1 (by decide)), o.grew g2 (own_farB o k1 (by decide)), ps1.grew g2 (own_farB ps1 k1 (by decide)), h.gB, h.gmB⟩
theorem FinW.start (h : FinW B w g gm E v S ar ps) {x : Int} {A' : Option Addr} {c' : Nat} (o : OwnI B 3 w1 A' c' (S ++ [x])) (g1 : Grew w w1 v.A1) (k : Blk w2 g 136 (fC E { v with A1 := A', c1 := c' } (S.length + 1) ar.length ps.length gm)) (g2 : Grew w1 w2 (some ⟨g, 0, none⟩)) :
    FinW B w2 g gm E { v with A1 := A', c1 := c' } (S ++ [x]) ar ps := by
  have k1 := h.blk.grown g1.by_ (fun e => h.st.ne_blk h.blk (by decide) e.symm)
  have m1 := h.map.grown g1.by_ (h.map.ne_own h.st)
  have ar1 := h.ar.grew g1 (own_far h.ar h.st (by decide))
  have ps1 := h.ps.grew g1 (own_far h.ps h.st (by decide))
  exact ⟨by rw [List.length_append]; exact k, m1.grown g2.by_ (by have := h.ne; simp; omega), o.grew g2 (own_farB o k1 (by decide)), ar1.grew g2 (own_farB ar1 k1 (by decide)), ps1.grew g2 (own_farB ps1 k1 (by decide)), h.gB, h.gmB⟩
end
/-- Within a round. -/
structure BW (B : Nat) (w0 w : World) (g gm q : Nat) (E : Int) (v : FV) (S : List Int) (p : Pr) (st : FSt) : Prop where
  fin : FinW B w g gm E v S st.ar st.ps
  box : Blk w q 139 (prP p)
  far : some q ≠ v.A4.map (·.block)
  bel : Below B w0 w
theorem BW.below {B : Nat} {w0 w w' : World} {g gm q : Nat} {E : Int} {v : FV} {S : List Int} {p : Pr} {st : FSt} (h : BW B w0 w g gm q E v S p st) (b : Below w.heap.size w w') (hB : B ≤ w.heap.size) : BW B w0 w' g gm q E v S p st :=
  ⟨h.fin.below b, h.box.below b h.box.lt, h.far, h.bel.trans (b.mono hB)⟩
/-- Behind a number that was asked for. -/
theorem BW.num {B : Nat} {w0 w w' : World} {g gm q : Nat} {E : Int} {v : FV} {S : List Int} {p : Pr} {st : FSt} (h : BW B w0 w g gm q E v S p st) (hq : q ≠ g) (hq2 : q ≠ gm) {A' : Option Addr} {c' : Nat} {ps' : List Pr} (hf : FinW B w' g gm E { v with A4 := A', c4 := c' } S st.ar ps')
    (bb : Below B w w') (hk : KeepN [some g, some gm, v.A4.map (·.block)] w w') (hm : MovN w v.A4 A') : BW B w0 w' g gm q E { v with A4 := A', c4 := c' } S p ⟨ps', st.ar⟩ := by
  refine ⟨hf, hk.blk h.box (fun x hx => ?_), ?_, h.bel.trans bb⟩
  · rcases List.mem_cons.1 hx with rfl | hx
    · simpa using hq
    · rcases List.mem_cons.1 hx with rfl | hx
      · simpa using hq2
      · rw [List.mem_singleton.1 hx]; exact h.far
  · rcases hm with e | ⟨g', e, hz⟩
    · show some q ≠ A'.map (·.block)
      rw [e]; exact h.far
    · show some q ≠ A'.map (·.block)
      rw [e]
      have := h.box.lt
      intro hh
      injection hh with hh
      omega
/-- Behind an arrow that was put there. -/
theorem BW.arr {B : Nat} {w0 w w1 w2 : World} {g gm q : Nat} {E : Int} {v : FV} {S : List Int} {p : Pr} {st : FSt} (h : BW B w0 w g gm q E v S p st) (hq : q ≠ g) (hB : B ≤ w.heap.size) {x : Arr} {A' : Option Addr} {c' : Nat} (o : OwnR arrCells B 85 3 w1 A' c' (st.ar ++ [x])) (g1 : Grew w w1 v.A2)
    (k : Blk w2 g 136 (fC E { v with A2 := A', c2 := c' } S.length (st.ar.length + 1) st.ps.length gm)) (g2 : Grew w1 w2 (some ⟨g, 0, none⟩)) : BW B w0 w2 g gm q E { v with A2 := A', c2 := c' } S p ⟨st.ps, st.ar ++ [x]⟩ := by
  refine ⟨h.fin.arr o g1 k g2, ?_, h.far, g2.below (g1.below h.bel hB h.fin.ar.geB) (by have := g1.by_.size; omega) (by intro a ha; injection ha with ha; subst ha; exact h.fin.gB)⟩
  exact (h.box.grown g1.by_ (fun e => h.fin.ar.ne_blk h.box (by decide) e.symm)).grown g2.by_ (by simpa using hq)
theorem BW.arrT {B : Nat} {w0 w w1 w2 : World} {g gm q : Nat} {E : Int} {v : FV} {S : List Int} {p : Pr} {st : FSt} (h : BW B w0 w g gm q E v S p st) {cs : List Value} (k1 : Blk w1 g 136 cs) (g1 : Grew w w1 v.A2) (g2 : Grew w1 w2 (some ⟨g, 0, none⟩)) : KeepT [3] B w w2 :=
  (KeepT.grew (es := [3]) (B := B) h.fin.ar (Nat.le_refl _) (by decide) g1).trans (KeepT.grewB (es := [3]) (B := B) k1 h.fin.gB (by decide) g2)
end Go.Proofs.YtcjedgiglimipaaDoor
