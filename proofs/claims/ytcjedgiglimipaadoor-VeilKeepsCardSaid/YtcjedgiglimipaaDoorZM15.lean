/-
  Chapter 15: the program's Make: by its contract.
-/
import Derived.Test.YtcjedgiglimipaaDoorZM14
import Derived.Test.YtcjedgiglimipaaDoorZM13
namespace Go.Proofs.YtcjedgiglimipaaDoor
set_option linter.unusedSimpArgs false
set_option linter.unusedVariables false
set_option linter.unusedSectionVars false
open Go.RowKit

abbrev MvT := Int × Int × List Int × Int
def MvH.abs (x : MvH) : MvT := (x.n, x.e, x.st, x.to_)
def Mv.abs (x : Mv) : MvT := ((x.node : Int), x.evt, x.stay, (x.to_ : Int))
abbrev veil0 : List Value := [.slice none 0 0, .slice none 0 0]
abbrev vlC (A : Option Addr) (n c : Nat) (A' : Option Addr) (n' c' : Nat) : List Value := [.slice A n c, .slice A' n' c']
theorem e2_vl (A : Option Addr) (n c : Nat) (A' : Option Addr) (n' c' : Nat) : tySize Tryd.prog 47 = some (vlC A n c A' n' c').length := ty_sz_47
theorem vl_one (A : Option Addr) (n c : Nat) (A' : Option Addr) (n' c' : Nat) : (vlC A n c A' n' c').all (·.oneCell') = true := rfl
def VeilOkP (p : Plt) (free : List Int) : Prop := AllIn free p.seen ∧ PlainM p.m
/-- A veil that can be read. -/
def VeilAt (w : World) (v : Value) (st : VS) : Prop :=
  ∃ (An : Option Addr) (cn : Nat) (hs : List Hd) (Am : Option Addr) (cm : Nat) (ms : List MvH), v = .agg (vlC An hs.length cn Am ms.length cm).toArray ∧
    Recs Hd.cells 1 (· < w.heap.size) w An hs ∧ RowsAt (· < w.heap.size) w hs ∧ hs.map (·.l) = st.nodes ∧
    Recs MvH.cells 4 (· < w.heap.size) w Am ms ∧ (∀ x ∈ ms, Ints (· < w.heap.size) w x.A x.st) ∧ ms.map MvH.abs = st.moves.map Mv.abs
def VMakeRes (p : Plt) (free : List Int) (w : World) (v : Value) (w' : World) : Prop := Below w.heap.size w w' ∧
  ((¬ (p.May ∧ IsRow free p.m.events) ∧ v = .tuple #[.agg veil0.toArray, .bool false, .int .i64 2]) ∨
   ((p.May ∧ IsRow free p.m.events) ∧ ¬ VeilOkP p free ∧ v = .tuple #[.agg veil0.toArray, .bool false, .int .i64 3]) ∨
   ((p.May ∧ IsRow free p.m.events) ∧ VeilOkP p free ∧ ¬ (firstP p ≠ [] ∧ Kp p free (firstP p)) ∧ v = .tuple #[.agg veil0.toArray, .bool false, .int .i64 0]) ∨
   ((p.May ∧ IsRow free p.m.events) ∧ VeilOkP p free ∧ (firstP p ≠ [] ∧ Kp p free (firstP p)) ∧ ∃ k V, (vIter p free k).nodes.length = k ∧ VeilAt w' V (vIter p free k) ∧ v = .tuple #[V, .bool true, .int .i64 0]))
theorem bl_veil0 {K : Fr → World → Prop} {u : World} {f : Fr} {d : Option Nat} {w : World} : Val1 Tryd.prog K (Instr.build 47 #[]) u f d w = K (updO f d (.agg veil0.toArray)) w := bld_of (by kernel_rfl)
theorem blt_keep : builtPl Tryd.prog 108 = some ([(0, 7), (7, 1), (8, 1)], [.int .i64 0, .int .i64 0, .slice none 0 0, .slice none 0 0, .slice none 0 0, .slice none 0 0, .slice none 0 0, .slice none 0 0, .map none]) := by kernel_rfl
theorem bl_keeper {K : Fr → World → Prop} {u : World} {f : Fr} {d : Option Nat} {w : World} (a : PV) (p : Plt) (A : Option Addr) (free : List Int) (c gM : Nat) :
    Val1 Tryd.prog K (Instr.build 108 #[(0, a.val p), (1, .slice A free.length c), (2, .map (some gM))]) u f d w = K (updO f d (.agg (kpC a p A free c gM).toArray)) w := by
  have := bld_3 (P := Tryd.prog) (K := K) (u := u) (f := f) (d := d) (w := w) blt_keep rfl rfl rfl rfl (v0 := a.val p) (v1 := .slice A free.length c) (v2 := .map (some gM)) rfl rfl rfl
  rw [this]; rfl
section
variable {K : Fr → World → Prop} {u : World} {f : Fr} {d : Option Nat} {w : World} {g t ty : Nat} {A A' : Option Addr} {n c n' c' : Nat}
theorem Blk.w0 (h : Blk u g t (vlC A n c A' n' c')) (ht : tyAgg Tryd.prog ty = some false) : Val1 Tryd.prog K (Instr.loadAt ty (.pointer (some ⟨g, 0, none⟩))) u f d w = K (updO f d (.slice A n c)) w := h.ld ht 0 (by simp)
theorem Blk.w1 (h : Blk u g t (vlC A n c A' n' c')) (ht : tyAgg Tryd.prog ty = some false) : Val1 Tryd.prog K (Instr.loadAt ty (.pointer (some ⟨g, 1, none⟩))) u f d w = K (updO f d (.slice A' n' c')) w := h.ld ht 1 (by simp)
theorem Blk.wA (h : Blk u g t (vlC A n c A' n' c')) : Val1 Tryd.prog K (Instr.loadAt 47 (.pointer (some ⟨g, 0, none⟩))) u f d w = K (updO f d (.agg (vlC A n c A' n' c').toArray)) w := h.ldAll ty_ag_47 (e2_vl A n c A' n' c')
end
theorem KeepT.ofM {es : List Nat} {B gM : Nat} {w w' : World} {φ : List Int → Option Int} (k : KeepM gM w w') (hM : SMap w gM φ) (hB : B ≤ gM) : KeepT es B w w' :=
  ⟨k.size, fun b hb => k.block b hb.1 (fun e => by
    subst e
    rcases hb.2 with h | ⟨t, _, cs, r, h⟩
    · omega
    · obtain ⟨kv, ⟨es, cl, hh, _⟩, _⟩ := hM
      rw [hh] at h; cases h)⟩
theorem SMap.keepM {w w' : World} {g gM : Nat} {φ : List Int → Option Int} (h : SMap w g φ) (k : KeepM gM w w') (hne : g ≠ gM) : SMap w' g φ := h.keep (k.block g h.lt hne)
structure VMem (w0 : World) (a : PV) (p : Plt) (A1 : Option Addr) (free : List Int) (c1 gR gM gK gN gV : Nat) (w : World) (st : VS) (AN : Option Addr) (cN : Nat) (hs : List Hd) (An : Option Addr) (cn : Nat) (ms : List MvH) (Am : Option Addr) (cm : Nat) : Prop where
  kP : Blk w w0.heap.size 43 (a.cells p)
  kR : Blk w gR 47 veil0
  kK : Blk w gK 108 (kpC a p A1 free c1 gM)
  kV : Blk w gV 47 (vlC An hs.length cn Am ms.length cm)
  mM : ∃ χ, GOk p free χ ∧ SMap w gM χ
  mN : ∃ ψ, SMap w gN ψ ∧ ∀ t, IsRow t 6 → ψ t = if t ∈ st.nodes then some (ixL t st.nodes : Int) else none
  oN : OwnR setC (gN + 1) 76 4 w AN cN st.nodes
  oH : OwnR Hd.cells (gN + 1) 22 1 w An cn hs
  oM : OwnR MvH.cells (gN + 1) 56 4 w Am cm ms
  rH : ∀ x ∈ hs, Ints (TyB [3] 0 w) w x.A x.l
  rM : ∀ x ∈ ms, Ints (TyB [3] 0 w) w x.A x.st
  ab : ms.map MvH.abs = st.moves.map Mv.abs
  bel : Below w0.heap.size w0 w
section
variable {w0 : World} {a : PV} {p : Plt} {A1 : Option Addr} {free : List Int} {c1 gR gM gK gN gV : Nat} {w w' : World} {st : VS} {AN : Option Addr} {cN : Nat} {hs : List Hd} {An : Option Addr} {cn : Nat} {ms : List MvH} {Am : Option Addr} {cm : Nat}
theorem VMem.below (h : VMem w0 a p A1 free c1 gR gM gK gN gV w st AN cN hs An cn ms Am cm) (b : Below w.heap.size w w') : VMem w0 a p A1 free c1 gR gM gK gN gV w' st AN cN hs An cn ms Am cm :=
  { kP := h.kP.below b h.kP.lt
    kR := h.kR.below b h.kR.lt
    kK := h.kK.below b h.kK.lt
    kV := h.kV.below b h.kV.lt
    mM := by obtain ⟨χ, h1, h2⟩ := h.mM; exact ⟨χ, h1, h2.below b h2.lt⟩
    mN := by obtain ⟨ψ, h1, h2⟩ := h.mN; exact ⟨ψ, h1.below b h1.lt, h2⟩
    oN := h.oN.below b (Nat.le_refl _)
    oH := h.oH.below b (Nat.le_refl _)
    oM := h.oM.below b (Nat.le_refl _)
    rH := fun x hx => (h.rH x hx).keepT (.below b)
    rM := fun x hx => (h.rM x hx).keepT (.below b)
    ab := h.ab
    bel := h.bel.trans (b.mono h.bel.size) }
theorem VMem.row (h : VMem w0 a p A1 free c1 gR gM gK gN gV w st AN cN hs An cn ms Am cm) (q1 : w0.heap.size < gN + 1) (q2 : gR < gN + 1) (q3 : gK < gN + 1) (q4 : gM < gN + 1) (q5 : gN < gV) {x : Hd} (hx : Ints (TyB [3] 0 w) w x.A x.l) {A' : Option Addr} {c' : Nat} {w2 : World}
    (o : OwnR Hd.cells (gN + 1) 22 1 w' A' c' (hs ++ [x])) (g : Grew w w' An) (k : Blk w2 gV 47 (vlC A' (hs ++ [x]).length c' Am ms.length cm)) (g2 : Grew w' w2 (some ⟨gV, 0, none⟩)) : VMem w0 a p A1 free c1 gR gM gK gN gV w2 st AN cN (hs ++ [x]) A' c' ms Am cm := by
  have kV' := h.kV.grown g.by_ (h.oH.ne_blk h.kV (by decide)).symm
  have kt := (KeepT.grew (es := [3]) h.oH (Nat.zero_le _) (by decide) g).trans (KeepT.grewB kV' (Nat.zero_le _) (by decide) g2)
  have nv : ∀ y, y < gN + 1 → some y ≠ (some (⟨gV, 0, none⟩ : Addr)).map (·.block) := fun y hy => by simp; omega
  have oN' := h.oN.grew g (Own.apart h.oN h.oH (by decide))
  have oM' := h.oM.grew g (Own.apart h.oM h.oH (by decide))
  have b1 := g.below h.bel h.bel.size (fun a ha => by have := h.oH.geB a ha; omega)
  exact {
    kP := (h.kP.grown g.by_ (h.oH.ne_ltV q1)).grown g2.by_ (nv _ q1)
    kR := (h.kR.grown g.by_ (h.oH.ne_ltV q2)).grown g2.by_ (nv _ q2)
    kK := (h.kK.grown g.by_ (h.oH.ne_ltV q3)).grown g2.by_ (nv _ q3)
    kV := k
    mM := by obtain ⟨χ, h1, h2⟩ := h.mM; exact ⟨χ, h1, (h2.grown g.by_ (h.oH.ne_ltV q4)).grown g2.by_ (nv _ q4)⟩
    mN := by obtain ⟨ψ, h1, h2⟩ := h.mN; exact ⟨ψ, (h1.grown g.by_ (h.oH.ne_ltV (Nat.lt_succ_self _))).grown g2.by_ (nv _ (Nat.lt_succ_self _)), h2⟩
    oN := oN'.grew g2 (.inr (oN'.ne_blk kV' (by decide)))
    oH := o.grew g2 (.inr (o.ne_blk kV' (by decide)))
    oM := oM'.grew g2 (.inr (oM'.ne_blk kV' (by decide)))
    rH := fun y hy => by
      rcases List.mem_append.1 hy with hy | hy
      · exact (h.rH y hy).keepT kt
      · rw [List.mem_singleton.1 hy]; exact hx.keepT kt
    rM := fun y hy => (h.rM y hy).keepT kt
    ab := h.ab
    bel := g2.below b1 b1.size (by intro a ha; injection ha with ha; subst ha; show w0.heap.size ≤ gV; omega) }
theorem VMem.move (h : VMem w0 a p A1 free c1 gR gM gK gN gV w st AN cN hs An cn ms Am cm) (q1 : w0.heap.size < gN + 1) (q2 : gR < gN + 1) (q3 : gK < gN + 1) (q4 : gM < gN + 1) (q5 : gN < gV) {x : MvH} (hx : Ints (TyB [3] 0 w) w x.A x.st) {A' : Option Addr} {c' : Nat} {w2 : World} {st' : VS} (e1 : st'.nodes = st.nodes) (e2 : st'.moves.map Mv.abs = st.moves.map Mv.abs ++ [x.abs])
    (o : OwnR MvH.cells (gN + 1) 56 4 w' A' c' (ms ++ [x])) (g : Grew w w' Am) (k : Blk w2 gV 47 (vlC An hs.length cn A' (ms ++ [x]).length c')) (g2 : Grew w' w2 (some ⟨gV, 0, none⟩)) : VMem w0 a p A1 free c1 gR gM gK gN gV w2 st' AN cN hs An cn (ms ++ [x]) A' c' := by
  have kV' := h.kV.grown g.by_ (h.oM.ne_blk h.kV (by decide)).symm
  have kt := (KeepT.grew (es := [3]) h.oM (Nat.zero_le _) (by decide) g).trans (KeepT.grewB kV' (Nat.zero_le _) (by decide) g2)
  have nv : ∀ y, y < gN + 1 → some y ≠ (some (⟨gV, 0, none⟩ : Addr)).map (·.block) := fun y hy => by simp; omega
  have oN' := h.oN.grew g (Own.apart h.oN h.oM (by decide))
  have oH' := h.oH.grew g (Own.apart h.oH h.oM (by decide))
  have b1 := g.below h.bel h.bel.size (fun a ha => by have := h.oM.geB a ha; omega)
  exact {
    kP := (h.kP.grown g.by_ (h.oM.ne_ltV q1)).grown g2.by_ (nv _ q1)
    kR := (h.kR.grown g.by_ (h.oM.ne_ltV q2)).grown g2.by_ (nv _ q2)
    kK := (h.kK.grown g.by_ (h.oM.ne_ltV q3)).grown g2.by_ (nv _ q3)
    kV := k
    mM := by obtain ⟨χ, h1, h2⟩ := h.mM; exact ⟨χ, h1, (h2.grown g.by_ (h.oM.ne_ltV q4)).grown g2.by_ (nv _ q4)⟩
    mN := by obtain ⟨ψ, h1, h2⟩ := h.mN; exact ⟨ψ, (h1.grown g.by_ (h.oM.ne_ltV (Nat.lt_succ_self _))).grown g2.by_ (nv _ (Nat.lt_succ_self _)), by rw [e1]; exact h2⟩
    oN := by rw [e1]; exact oN'.grew g2 (.inr (oN'.ne_blk kV' (by decide)))
    oH := oH'.grew g2 (.inr (oH'.ne_blk kV' (by decide)))
    oM := o.grew g2 (.inr (o.ne_blk kV' (by decide)))
    rH := fun y hy => (h.rH y hy).keepT kt
    rM := fun y hy => by
      rcases List.mem_append.1 hy with hy | hy
      · exact (h.rM y hy).keepT kt
      · rw [List.mem_singleton.1 hy]; exact hx.keepT kt
    ab := by rw [List.map_append, h.ab, e2]; rfl
    bel := g2.below b1 b1.size (by intro a ha; injection ha with ha; subst ha; show w0.heap.size ≤ gV; omega) }
/-- A new node: the map knows it, and it is in the row. -/
theorem VMem.node (h : VMem w0 a p A1 free c1 gR gM gK gN gV w st AN cN hs An cn ms Am cm) (q1 : w0.heap.size < gN) (q2 : gR < gN) (q3 : gK < gN) (q4 : gM < gN) (q5 : gN < gV) {y : List Int} {ψ' : List Int → Option Int} {wm : World} {A' : Option Addr} {c' : Nat} {w2 : World}
    (g : Grew w wm (some ⟨gN, 0, none⟩)) (mN : SMap wm gN ψ') (hψ2 : ∀ t, IsRow t 6 → ψ' t = if t ∈ st.nodes ++ [y] then some (ixL t (st.nodes ++ [y]) : Int) else none)
    (o : OwnR setC (gN + 1) 76 4 w2 A' c' (st.nodes ++ [y])) (g2 : Grew wm w2 AN) : VMem w0 a p A1 free c1 gR gM gK gN gV w2 ⟨st.nodes ++ [y], st.moves⟩ A' c' hs An cn ms Am cm := by
  have nv : ∀ z, z ≠ gN → some z ≠ (some (⟨gN, 0, none⟩ : Addr)).map (·.block) := fun z hz => by simp; exact hz
  have nm : ∀ {A : Option Addr} {e sz c n : Nat} {xs : List Value}, Own (gN + 1) e sz w A c n xs → A.map (·.block) ≠ (some (⟨gN, 0, none⟩ : Addr)).map (·.block) := fun o => (o.ne_ltV (Nat.lt_succ_self gN)).symm
  have oN1 := h.oN.grew g (.inr (nm h.oN))
  have oH1 := h.oH.grew g (.inr (nm h.oH))
  have oM1 := h.oM.grew g (.inr (nm h.oM))
  have b1 := g.below h.bel h.bel.size (by intro a ha; injection ha with ha; subst ha; show w0.heap.size ≤ gN; omega)
  have lV : gV ≠ gN := by omega
  have kV1 := h.kV.grown g.by_ (nv _ lV)
  have kt1 : KeepT [3] 0 w wm := ⟨g.by_.size, fun b hb => g.by_.block b hb.1 (nv _ (fun e => by
    subst e
    rcases hb.2 with hb | ⟨e', _, cs, r, hh⟩
    · omega
    · obtain ⟨ψ, ⟨kv, ⟨es, cl, hm, _⟩, _⟩, _⟩ := h.mN
      rw [hm] at hh; cases hh))⟩
  have kt := kt1.trans (KeepT.grew (es := [3]) oN1 (Nat.zero_le _) (by decide) g2)
  exact {
    kP := (h.kP.grown g.by_ (nv _ (by omega))).grown g2.by_ (oN1.ne_ltV (by omega))
    kR := (h.kR.grown g.by_ (nv _ (by omega))).grown g2.by_ (oN1.ne_ltV (by omega))
    kK := (h.kK.grown g.by_ (nv _ (by omega))).grown g2.by_ (oN1.ne_ltV (by omega))
    kV := kV1.grown g2.by_ (oN1.ne_blk kV1 (by decide)).symm
    mM := by obtain ⟨χ, h1, h2⟩ := h.mM; exact ⟨χ, h1, (h2.grown g.by_ (nv _ (by omega))).grown g2.by_ (oN1.ne_ltV (by omega))⟩
    mN := ⟨ψ', mN.grown g2.by_ (oN1.ne_ltV (Nat.lt_succ_self _)), hψ2⟩
    oN := o
    oH := oH1.grew g2 (Own.apart oH1 oN1 (by decide))
    oM := oM1.grew g2 (Own.apart oM1 oN1 (by decide))
    rH := fun y hy => (h.rH y hy).keepT kt
    rM := fun y hy => (h.rM y hy).keepT kt
    ab := h.ab
    bel := g2.below b1 b1.size (fun a ha => by have := oN1.geB a ha; omega) }
theorem Blk.ne_ty {w : World} {g g' t t' : Nat} {cs cs' : List Value} (h : Blk w g t cs) (h' : Blk w g' t' cs') (ht : t ≠ t') : g ≠ g' := fun e => by
  subst e
  unfold Blk at h h'
  rw [h] at h'
  injection h' with h'
  injection h' with _ e2
  exact ht e2
/-- A move that is none of these is written to. -/
theorem VMem.grownF (h : VMem w0 a p A1 free c1 gR gM gK gN gV w st AN cN hs An cn ms Am cm) {g i : Nat} {cs : List Value} (hk : Blk w g 56 cs) (q0 : w0.heap.size ≤ g) (hA : Am.map (·.block) ≠ some g) (gr : Grew w w' (some ⟨g, i, none⟩)) : VMem w0 a p A1 free c1 gR gM gK gN gV w' st AN cN hs An cn ms Am cm := by
  have nv : ∀ z, z ≠ g → some z ≠ (some (⟨g, i, none⟩ : Addr)).map (·.block) := fun z hz => by simp; exact hz
  have kt := KeepT.grewB (es := [3]) (B := 0) hk (Nat.zero_le _) (by decide) gr
  exact {
    kP := h.kP.grown gr.by_ (nv _ (h.kP.ne_ty hk (by decide)))
    kR := h.kR.grown gr.by_ (nv _ (h.kR.ne_ty hk (by decide)))
    kK := h.kK.grown gr.by_ (nv _ (h.kK.ne_ty hk (by decide)))
    kV := h.kV.grown gr.by_ (nv _ (h.kV.ne_ty hk (by decide)))
    mM := by obtain ⟨χ, h1, h2⟩ := h.mM; exact ⟨χ, h1, h2.grown gr.by_ (nv _ (hk.ne_map h2).symm)⟩
    mN := by obtain ⟨ψ, h1, h2⟩ := h.mN; exact ⟨ψ, h1.grown gr.by_ (nv _ (hk.ne_map h1).symm), h2⟩
    oN := h.oN.grew gr (.inr (h.oN.ne_blk hk (by decide)))
    oH := h.oH.grew gr (.inr (h.oH.ne_blk hk (by decide)))
    oM := h.oM.grew gr (.inr hA)
    rH := fun y hy => (h.rH y hy).keepT kt
    rM := fun y hy => (h.rM y hy).keepT kt
    ab := h.ab
    bel := gr.below h.bel h.bel.size (by intro a ha; injection ha with ha; subst ha; exact q0) }
theorem VMem.keepM (h : VMem w0 a p A1 free c1 gR gM gK gN gV w st AN cN hs An cn ms Am cm) (q0 : w0.heap.size < gM) (q2 : gR < gM) (q3 : gK ≠ gM) (q4 : gM < gN) (q5 : gN < gV) (k : KeepM gM w w') (hM : ∃ χ, GOk p free χ ∧ SMap w' gM χ) : VMem w0 a p A1 free c1 gR gM gK gN gV w' st AN cN hs An cn ms Am cm := by
  obtain ⟨χ0, _, hM0⟩ := h.mM
  have kt := KeepT.ofM (es := [3]) (B := 0) k hM0 (Nat.zero_le _)
  exact {
    kP := h.kP.keepM k (by omega)
    kR := h.kR.keepM k (by omega)
    kK := h.kK.keepM k q3
    kV := h.kV.keepM k (by omega)
    mM := hM
    mN := by obtain ⟨ψ, h1, h2⟩ := h.mN; exact ⟨ψ, h1.keepM k (by omega), h2⟩
    oN := h.oN.keepM (by omega) k
    oH := h.oH.keepM (by omega) k
    oM := h.oM.keepM (by omega) k
    rH := fun y hy => (h.rH y hy).keepT kt
    rM := fun y hy => (h.rM y hy).keepT kt
    ab := h.ab
    bel := k.to_below h.bel h.bel.size (by omega) }
end
theorem ixL_min {x : List Int} : ∀ {l : List (List Int)} {i : Nat}, i < ixL x l → l[i]? = some x → False
  | [], i, h, _ => by simp [ixL] at h
  | y :: l, i, h, hi => by
    unfold ixL at h
    by_cases c : y = x
    · rw [if_pos c] at h; omega
    · rw [if_neg c] at h
      cases i with
      | zero => simp at hi; exact c hi
      | succ i => exact ixL_min (l := l) (i := i) (Nat.lt_of_succ_lt_succ h) (by simpa using hi)
theorem KeepT.grewM {es : List Nat} {w w' : World} {g o : Nat} {nodes : List (List Int)} (h : ∃ ψ, SMap w g ψ ∧ ∀ t, IsRow t 6 → ψ t = if t ∈ nodes then some (ixL t nodes : Int) else none) (gr : Grew w w' (some ⟨g, o, none⟩)) : KeepT es 0 w w' :=
  ⟨gr.by_.size, fun b hb => gr.by_.block b hb.1 (by
    simp only [Option.map_some, ne_eq, Option.some.injEq]
    rintro rfl
    rcases hb.2 with hb | ⟨e', _, cs, r, hh⟩
    · omega
    · obtain ⟨ψ, ⟨kv, ⟨es, cl, hm, _⟩, _⟩, _⟩ := h
      rw [hm] at hh; cases hh)⟩
theorem vFold_len {p : Plt} {free : List Int} (k : Nat) : ∀ (es : List Int) (st : VS), (es.foldl (vE p free k) st).moves.length ≤ st.moves.length + es.length
  | [], _ => Nat.le_refl _
  | e :: es, st => by
    have h1 := vFold_len (p := p) (free := free) k es (vE p free k st e)
    have h2 : (vE p free k st e).moves.length ≤ st.moves.length + 1 := by
      unfold vE
      split
      · omega
      · simp
    rw [List.foldl_cons, List.length_cons]; omega
theorem vIter_len {p : Plt} {free : List Int} (hn : p.seen.length ≤ 8) : ∀ k, (vIter p free k).moves.length ≤ 8 * k
  | 0 => by simp [vIter]
  | k + 1 => by
    have h1 := vFold_len (p := p) (free := free) k p.seen (vIter p free k)
    have h2 := vIter_len (p := p) (free := free) hn k
    show (p.seen.foldl (vE p free k) (vIter p free k)).moves.length ≤ _
    omega
theorem vPart_len {p : Plt} {free : List Int} (hn : p.seen.length ≤ 8) (k j : Nat) : (vPart p free k j).moves.length ≤ 8 * k + 8 := by
  have h1 := vFold_len (p := p) (free := free) k (p.seen.take j) (vIter p free k)
  have h2 := vIter_len (p := p) (free := free) hn k
  have h3 := List.length_take_le j p.seen
  show ((p.seen.take j).foldl (vE p free k) (vIter p free k)).moves.length ≤ _
  rw [List.length_take] at h1
  omega
set_option maxHeartbeats 4000000 in
theorem veil_Make {w : World} {a : PV} {p : Plt} (ha : IsP (· < w.heap.size) w a p) (hf : p.Fits) (hT : Tab w) {A1 : Option Addr} {c1 : Nat} {free : List Int} (h1 : Ints (· < w.heap.size) w A1 free) (n1 : free.length ≤ 17592186043904) :
    Cal Tryd.prog 30 [a.val p, .slice A1 free.length c1] w (VMakeRes p free w) := by
  refine cal_veil_Make (by simp) 1000000 fun Q hQ => ?_
  simp (disch := first | with_reducible assumption | omega) only [push_cast, x_blk, x_cd, ↓reduceIte, Nat.reduceEqDiff, List.map_cons, List.map_nil, Int.reduceEq, Int.lt_irrefl, F_veil_Make]
  refine blk_of (box_agg _ (a.cells p)) ?_
  intro w1 kP b1 z1
  simp (disch := first | with_reducible assumption | omega) only [push_cast, x_blk, x_cd, ↓reduceIte, Nat.reduceEqDiff, List.map_cons, List.map_nil, Int.reduceEq, Int.lt_irrefl]
  refine blk_of (cs := veil0) al_47 ?_
  intro w2 kR b2 z2
  have b02 := b1.trans (b2.mono b1.size)
  replace kP := kP.below b2 kP.lt
  have lP := kP.lt
  have lR := kR.lt
  have hz2 := b02.size
  simp (disch := first | with_reducible assumption | omega) only [push_cast, x_blk, x_cd, ↓reduceIte, Nat.reduceEqDiff, List.map_cons, List.map_nil, Int.reduceEq, Int.lt_irrefl, kP.pA']
  refine call_of (current_May (ha.up b02) hf) ?_
  rintro v w3 ⟨rfl, b3⟩
  have b03 := b02.trans (b3.mono hz2)
  replace kP := kP.below b3 kP.lt
  replace kR := kR.below b3 kR.lt
  by_cases pm : p.May
  case neg =>
    have bx := b03
    simp (disch := first | with_reducible assumption | omega) only [push_cast, x_blk, x_cd, ↓reduceIte, Nat.reduceEqDiff, List.map_cons, List.map_nil, Int.reduceEq, Int.lt_irrefl, decide_eq_false pm, bl_veil0]
    refine sto_blk kR (cs := veil0) (e2_vl none 0 0 none 0 0) rfl rfl ?_
    intro wx kRx gx zx
    have fr := True.intro
    simp (disch := first | with_reducible assumption | omega) only [push_cast, x_blk, x_cd, ↓reduceIte, Nat.reduceEqDiff, List.map_cons, List.map_nil, Int.reduceEq, Int.lt_irrefl, fr]
    exact fin_c3 kRx ty_ag_47 (e2_vl none 0 0 none 0 0) (by simp only [push_cast, ↓reduceIte, Nat.reduceEqDiff, Int.reduceEq]) (hQ _ _ ⟨gx.below bx bx.size (by intro a ha; injection ha with ha; subst ha; exact b1.size), .inl ⟨fun h => pm h.1, (by simp only [push_cast, ↓reduceIte, Nat.reduceEqDiff, Int.reduceEq])⟩⟩)
  simp (disch := first | with_reducible assumption | omega) only [push_cast, x_blk, x_cd, ↓reduceIte, Nat.reduceEqDiff, List.map_cons, List.map_nil, Int.reduceEq, Int.lt_irrefl, decide_eq_true pm, kP.p1]
  refine call_of (row_Is (h1.up b03) c1 p.m.events (by omega)) ?_
  rintro v w4 ⟨rfl, s4⟩
  have b34 := s4.below w3.heap.size
  have b04 := b03.trans (b34.mono b03.size)
  replace kP := kP.below b34 kP.lt
  replace kR := kR.below b34 kR.lt
  by_cases pr : IsRow free p.m.events
  case neg =>
    have bx := b04
    simp (disch := first | with_reducible assumption | omega) only [push_cast, x_blk, x_cd, ↓reduceIte, Nat.reduceEqDiff, List.map_cons, List.map_nil, Int.reduceEq, Int.lt_irrefl, decide_eq_false pr, bl_veil0]
    refine sto_blk kR (cs := veil0) (e2_vl none 0 0 none 0 0) rfl rfl ?_
    intro wx kRx gx zx
    have fr := True.intro
    simp (disch := first | with_reducible assumption | omega) only [push_cast, x_blk, x_cd, ↓reduceIte, Nat.reduceEqDiff, List.map_cons, List.map_nil, Int.reduceEq, Int.lt_irrefl, fr]
    exact fin_c3 kRx ty_ag_47 (e2_vl none 0 0 none 0 0) (by simp only [push_cast, ↓reduceIte, Nat.reduceEqDiff, Int.reduceEq]) (hQ _ _ ⟨gx.below bx bx.size (by intro a ha; injection ha with ha; subst ha; exact b1.size), .inl ⟨fun h => pr h.2, (by simp only [push_cast, ↓reduceIte, Nat.reduceEqDiff, Int.reduceEq])⟩⟩)
  have hpr : p.May ∧ IsRow free p.m.events := ⟨pm, pr⟩
  have hm := pm.1
  have ev8 := hm.2.2.2.1
  have hsm : Small free := pr.small (by omega)
  have sm2 : Small p.seen := pm.2.2.1.small (by omega)
  have bd4 : Below w4.heap.size w4 w4.drew := (Same.refl w4).drew.below _
  have b05 := b04.trans (bd4.mono b04.size)
  replace kP := kP.below bd4 kP.lt
  replace kR := kR.below bd4 kR.lt
  clear b34 b3 bd4 s4 b03 b02 b2
  have hz5 := b05.size
  have hz4 := b04.size
  generalize hu5 : w4.drew = u5 at *
  simp (disch := first | with_reducible assumption | omega) only [push_cast, x_blk, x_cd, ↓reduceIte, Nat.reduceEqDiff, List.map_cons, List.map_nil, Int.reduceEq, Int.lt_irrefl, decide_eq_true pr, hu5, kP.p5]
  refine call_of (machine_Of' (h1.up b05) c1 n1 hsm) ?_
  rintro v w6 ⟨rfl, b6⟩
  have b06 := b05.trans (b6.mono hz5)
  simp (disch := first | with_reducible assumption | omega) only [push_cast, x_blk, x_cd, ↓reduceIte, Nat.reduceEqDiff, List.map_cons, List.map_nil, Int.reduceEq, Int.lt_irrefl]
  refine ⟨b6, ?_⟩
  refine call_of (machine_Of' (ha.up b06).seen a.cp hf.lenP sm2) ?_
  rintro v w7 ⟨rfl, b7⟩
  have b57 := b6.trans (b7.mono b6.size)
  have b07 := b05.trans (b57.mono hz5)
  simp (disch := first | with_reducible assumption | omega) only [push_cast, x_blk, x_cd, ↓reduceIte, Nat.reduceEqDiff, List.map_cons, List.map_nil, Int.reduceEq, Int.lt_irrefl]
  refine ⟨b57, ?_⟩
  refine call_of (set_Within hsm w7) ?_
  rintro v w8 ⟨rfl, b8⟩
  have b58 := b57.trans (b8.mono b57.size)
  have b08 := b05.trans (b58.mono hz5)
  have kP8 := kP.below b58 kP.lt
  have kR8 := kR.below b58 kR.lt
  by_cases hAll : AllIn free p.seen
  case neg =>
    simp (disch := first | with_reducible assumption | omega) only [push_cast, x_blk, x_cd, ↓reduceIte, Nat.reduceEqDiff, List.map_cons, List.map_nil, Int.reduceEq, Int.lt_irrefl, decide_eq_false hAll]
    refine ⟨b58, ?_⟩
    clear kP kR
    have kR := kR8
    have bx := b08
    simp (disch := first | with_reducible assumption | omega) only [push_cast, x_blk, x_cd, ↓reduceIte, Nat.reduceEqDiff, List.map_cons, List.map_nil, Int.reduceEq, Int.lt_irrefl, bl_veil0]
    refine ⟨b58, ?_⟩
    refine sto_blk kR (cs := veil0) (e2_vl none 0 0 none 0 0) rfl rfl ?_
    intro wx kRx gx zx
    have fr := True.intro
    simp (disch := first | with_reducible assumption | omega) only [push_cast, x_blk, x_cd, ↓reduceIte, Nat.reduceEqDiff, List.map_cons, List.map_nil, Int.reduceEq, Int.lt_irrefl, fr]
    exact fin_c3 kRx ty_ag_47 (e2_vl none 0 0 none 0 0) (by simp only [push_cast, ↓reduceIte, Nat.reduceEqDiff, Int.reduceEq]) (hQ _ _ ⟨gx.below bx bx.size (by intro a ha; injection ha with ha; subst ha; exact b1.size), .inr (.inl ⟨hpr, fun h => hAll h.1, (by simp only [push_cast, ↓reduceIte, Nat.reduceEqDiff, Int.reduceEq])⟩)⟩)
  simp (disch := first | with_reducible assumption | omega) only [push_cast, x_blk, x_cd, ↓reduceIte, Nat.reduceEqDiff, List.map_cons, List.map_nil, Int.reduceEq, Int.lt_irrefl, decide_eq_true hAll, kP.pA']
  refine ⟨b58, ?_⟩
  refine call_of (veil_plain (ha.up b08) hm) ?_
  rintro v w9 ⟨⟨bp, rfl, hbp⟩, b9⟩
  have b59 := b58.trans (b9.mono b58.size)
  have b09 := b05.trans (b59.mono hz5)
  replace kP := kP.below b59 kP.lt
  replace kR := kR.below b59 kR.lt
  clear kP8 kR8
  cases bp with
  | false =>
    have hnp : ¬ PlainM p.m := fun h => by have := hbp.2 h; cases this
    have bx := b09
    simp (disch := first | with_reducible assumption | omega) only [push_cast, x_blk, x_cd, ↓reduceIte, Nat.reduceEqDiff, List.map_cons, List.map_nil, Int.reduceEq, Int.lt_irrefl]
    refine ⟨b59, ?_⟩
    simp (disch := first | with_reducible assumption | omega) only [push_cast, x_blk, x_cd, ↓reduceIte, Nat.reduceEqDiff, List.map_cons, List.map_nil, Int.reduceEq, Int.lt_irrefl, bl_veil0]
    refine sto_blk kR (cs := veil0) (e2_vl none 0 0 none 0 0) rfl rfl ?_
    intro wx kRx gx zx
    have fr := True.intro
    simp (disch := first | with_reducible assumption | omega) only [push_cast, x_blk, x_cd, ↓reduceIte, Nat.reduceEqDiff, List.map_cons, List.map_nil, Int.reduceEq, Int.lt_irrefl, fr]
    exact fin_c3 kRx ty_ag_47 (e2_vl none 0 0 none 0 0) (by simp only [push_cast, ↓reduceIte, Nat.reduceEqDiff, Int.reduceEq]) (hQ _ _ ⟨gx.below bx bx.size (by intro a ha; injection ha with ha; subst ha; exact b1.size), .inr (.inl ⟨hpr, fun h => hnp h.2, (by simp only [push_cast, ↓reduceIte, Nat.reduceEqDiff, Int.reduceEq])⟩)⟩)
  | true =>
  have hpl := hbp.1 rfl
  have hok : VeilOkP p free := ⟨hAll, hpl⟩
  clear hbp b57 b06 b07 b08 b6 b7 b8 b58 b9
  have hz9 := b09.size
  simp (disch := first | with_reducible assumption | omega) only [push_cast, x_blk, x_cd, ↓reduceIte, Nat.reduceEqDiff, List.map_cons, List.map_nil, Int.reduceEq, Int.lt_irrefl]
  refine ⟨b59, ?_⟩
  simp (disch := first | with_reducible assumption | omega) only [push_cast, x_blk, x_cd, ↓reduceIte, Nat.reduceEqDiff, List.map_cons, List.map_nil, Int.reduceEq, Int.lt_irrefl, kP.pA', e_makeMap]
  have lR9 := kR.lt
  refine map_made (k := 76) _ ?_
  intro w10 m10 b10 z10
  have mM := SMap.empty m10
  have b010 := b09.trans (b10.mono hz9)
  replace kP := kP.below b10 kP.lt
  replace kR := kR.below b10 kR.lt
  have lM := mM.lt
  clear m10 b10 b59 b05 b04
  generalize hgM : w9.heap.size = gM at *
  simp (disch := first | with_reducible assumption | omega) only [push_cast, x_blk, x_cd, ↓reduceIte, Nat.reduceEqDiff, List.map_cons, List.map_nil, Int.reduceEq, Int.lt_irrefl, bl_keeper]
  refine blk_of (box_agg _ (kpC a p A1 free c1 gM)) ?_
  intro w11 kK b11 z11
  have b011 := b010.trans (b11.mono b010.size)
  replace kP := kP.below b11 kP.lt
  replace kR := kR.below b11 kR.lt
  replace mM := mM.below b11 mM.lt
  have lK := kK.lt
  generalize hgK : w10.heap.size = gK at *
  simp (disch := first | with_reducible assumption | omega) only [push_cast, x_blk, x_cd, ↓reduceIte, Nat.reduceEqDiff, List.map_cons, List.map_nil, Int.reduceEq, Int.lt_irrefl, kP.pA']
  refine call_of (current_First (ha.up b011) hf hm) ?_
  rintro v w12 ⟨rfl, b12⟩
  have b012 := b011.trans (b12.mono b011.size)
  replace kP := kP.below b12 kP.lt
  replace kR := kR.below b12 kR.lt
  replace mM := mM.below b12 mM.lt
  replace kK := kK.below b12 lK
  have hz12 := b12.size
  simp (disch := first | with_reducible assumption | omega) only [push_cast, x_blk, x_cd, ↓reduceIte, Nat.reduceEqDiff, List.map_cons, List.map_nil, Int.reduceEq, Int.lt_irrefl]
  refine blk_of (cs := setCells (wordsOf [])) al_76 ?_
  intro w13 k8 b13 z13
  have b013 := b012.trans (b13.mono b012.size)
  replace kP := kP.below b13 kP.lt
  replace kR := kR.below b13 kR.lt
  replace mM := mM.below b13 mM.lt
  replace kK := kK.below b13 kK.lt
  simp (disch := first | with_reducible assumption | omega) only [push_cast, x_blk, x_cd, ↓reduceIte, Nat.reduceEqDiff, List.map_cons, List.map_nil, Int.reduceEq, Int.lt_irrefl]
  refine sto_blk k8 (cs := setCells (wordsOf (firstP p))) (e4_set _) (by rw [setCells_4, setCells_4]) (setCells_one _) ?_
  intro w14 k8' g14 z14
  have b014 := g14.below b013 b013.size (by intro a ha; injection ha with ha; subst ha; exact b012.size)
  replace kP := kP.grown g14.by_ (by simp; omega)
  replace kR := kR.grown g14.by_ (by simp; omega)
  replace mM := mM.grown g14.by_ (by simp; omega)
  replace kK := kK.grown g14.by_ (by simp; omega)
  generalize hg8 : w12.heap.size = g8 at *
  have l8 := k8'.lt
  clear k8 g14 b13 b12 b11
  have rF := firstP_row hm
  have hne : wordsOf (firstP p) = wordsOf [] ↔ firstP p = [] := words_nil (rF.small (by have := pm.2.1; omega))
  by_cases hF : firstP p = []
  · have bx := b014
    simp (disch := first | with_reducible assumption | omega) only [push_cast, x_blk, x_cd, ↓reduceIte, Nat.reduceEqDiff, List.map_cons, List.map_nil, Int.reduceEq, Int.lt_irrefl, k8'.setA (wordsOf_words _) ty_ag_76 ty_sz_76, bl_set0, eql_set, decide_eq_true (hne.2 hF), bl_veil0]
    refine sto_blk kR (cs := veil0) (e2_vl none 0 0 none 0 0) rfl rfl ?_
    intro wx kRx gx zx
    have fr := True.intro
    simp (disch := first | with_reducible assumption | omega) only [push_cast, x_blk, x_cd, ↓reduceIte, Nat.reduceEqDiff, List.map_cons, List.map_nil, Int.reduceEq, Int.lt_irrefl, fr]
    exact fin_c3 kRx ty_ag_47 (e2_vl none 0 0 none 0 0) (by simp only [push_cast, ↓reduceIte, Nat.reduceEqDiff, Int.reduceEq]) (hQ _ _ ⟨gx.below bx bx.size (by intro a ha; injection ha with ha; subst ha; exact b1.size), .inr (.inr (.inl ⟨hpr, hok, fun h => h.1 hF, (by simp only [push_cast, ↓reduceIte, Nat.reduceEqDiff, Int.reduceEq])⟩))⟩)
  simp (disch := first | with_reducible assumption | omega) only [push_cast, x_blk, x_cd, ↓reduceIte, Nat.reduceEqDiff, List.map_cons, List.map_nil, Int.reduceEq, Int.lt_irrefl, k8'.setA (wordsOf_words _) ty_ag_76 ty_sz_76, bl_set0, eql_set, decide_eq_false (fun h => hF (hne.1 h))]
  refine call_of (veil_keeps (ha.up b014) hf pm (h1.up b014) n1 kK (φ := fun _ => none) (fun _ _ _ h => by cases h) mM rF) ?_
  intro v w15 h15
  obtain ⟨⟨bk, rfl, hbk⟩, ⟨χ, hχ, mM15⟩, k15⟩ := keepsKM h15
  have b015 : Below w.heap.size w w15 := k15.to_below b014 b014.size (by omega)
  replace kP := kP.keepM k15 (by omega)
  replace kR := kR.keepM k15 (by omega)
  replace kK := kK.keepM k15 (by omega)
  replace k8' := k8'.keepM k15 (by omega)
  clear k15 h15 mM b014 b013 b012 b011 b010 b09
  cases bk with
  | false =>
    have hnk : ¬ Kp p free (firstP p) := fun h => by have := hbk.2 h; cases this
    have bx := b015
    simp (disch := first | with_reducible assumption | omega) only [push_cast, x_blk, x_cd, ↓reduceIte, Nat.reduceEqDiff, List.map_cons, List.map_nil, Int.reduceEq, Int.lt_irrefl, bl_veil0]
    refine sto_blk kR (cs := veil0) (e2_vl none 0 0 none 0 0) rfl rfl ?_
    intro wx kRx gx zx
    have fr := True.intro
    simp (disch := first | with_reducible assumption | omega) only [push_cast, x_blk, x_cd, ↓reduceIte, Nat.reduceEqDiff, List.map_cons, List.map_nil, Int.reduceEq, Int.lt_irrefl, fr]
    exact fin_c3 kRx ty_ag_47 (e2_vl none 0 0 none 0 0) (by simp only [push_cast, ↓reduceIte, Nat.reduceEqDiff, Int.reduceEq]) (hQ _ _ ⟨gx.below bx bx.size (by intro a ha; injection ha with ha; subst ha; exact b1.size), .inr (.inr (.inl ⟨hpr, hok, fun h => hnk h.2, (by simp only [push_cast, ↓reduceIte, Nat.reduceEqDiff, Int.reduceEq])⟩))⟩)
  | true =>
  have hkF := hbk.1 rfl
  have l8b := k8'.lt
  simp (disch := first | with_reducible assumption | omega) only [push_cast, x_blk, x_cd, ↓reduceIte, Nat.reduceEqDiff, List.map_cons, List.map_nil, Int.reduceEq, Int.lt_irrefl, k8'.setA (wordsOf_words _) ty_ag_76 ty_sz_76, e_makeMap]
  refine map_made (k := 76) _ ?_
  intro w16 m16 b16 z16
  have mN := SMap.empty m16
  have lN := mN.lt
  have b016 := b015.trans (b16.mono b015.size)
  have hz15 := mM15.lt
  replace kP := kP.below b16 kP.lt
  replace kR := kR.below b16 kR.lt
  replace kK := kK.below b16 kK.lt
  replace k8' := k8'.below b16 k8'.lt
  have mM := mM15.below b16 mM15.lt
  clear m16 b16 mM15 b015
  have l8 := k8'.lt
  generalize hgN : w15.heap.size = gN at *
  simp (disch := first | with_reducible assumption | omega) only [push_cast, x_blk, x_cd, ↓reduceIte, Nat.reduceEqDiff, List.map_cons, List.map_nil, Int.reduceEq, Int.lt_irrefl, e_insert, k8'.setA (wordsOf_words _) ty_ag_76 ty_sz_76]
  have rF6 : IsRow (firstP p) 6 := rF.more pm.2.1
  refine mN.put rF6 0 ?_
  intro w17 mN17 g17 z17
  have b017 := g17.below b016 b016.size (by intro a ha; injection ha with ha; subst ha; show w.heap.size ≤ gN; omega)
  replace kP := kP.grown g17.by_ (by simp; omega)
  replace kR := kR.grown g17.by_ (by simp; omega)
  replace kK := kK.grown g17.by_ (by simp; omega)
  replace k8' := k8'.grown g17.by_ (by simp; omega)
  replace mM := mM.grown g17.by_ (by simp; omega)
  clear mN g17 b016
  simp (disch := first | with_reducible assumption | omega) only [push_cast, x_blk, x_cd, ↓reduceIte, Nat.reduceEqDiff, List.map_cons, List.map_nil, Int.reduceEq, Int.lt_irrefl, k8'.setA (wordsOf_words _) ty_ag_76 ty_sz_76, bs_rec setEnc slT_72 _ (by decide)]
  have oN := own_rec setEnc w17 (firstP p) 76
  have bE : Below w17.heap.size w17 (w17.alloc (.cells (setC (firstP p)).toArray 76)) := (Below.refl _ _).alloc (Nat.le_refl _) _
  generalize w17.alloc (.cells (setC (firstP p)).toArray 76) = w18 at *
  have b018 := b017.trans (bE.mono b017.size)
  have hz17 := bE.size
  have lN17 := mN17.lt
  replace kP := kP.below bE kP.lt
  replace kR := kR.below bE kR.lt
  replace kK := kK.below bE kK.lt
  replace mM := mM.below bE mM.lt
  have mN := mN17.below bE mN17.lt
  replace oN := oN.base (B' := gN + 1) (by omega)
  clear mN17 k8' b017 l8
  refine blk_of (cs := veil0) al_47 ?_
  intro w19 kV b19 z19
  have b019 := b018.trans (b19.mono b018.size)
  replace kP := kP.below b19 kP.lt
  replace kR := kR.below b19 kR.lt
  replace kK := kK.below b19 kK.lt
  replace mM := mM.below b19 mM.lt
  replace mN := mN.below b19 mN.lt
  replace oN := oN.below b19 (Nat.le_refl _)
  generalize hgV : w18.heap.size = gV at *
  clear b19 bE b018
  simp (disch := first | with_reducible assumption | omega) only [push_cast, x_blk, x_cd, ↓reduceIte, Nat.reduceEqDiff, List.map_cons, List.map_nil, Int.reduceEq, Int.lt_irrefl]
  have hTw := hT.on b019
  have n8 : p.seen.length ≤ 8 := by have := row_lenV pm.2.2.1; omega
  have M0 : VMem w a p A1 free c1 w1.heap.size gM gK gN gV w19 (vIter p free 0) (some ⟨w17.heap.size, 0, none⟩) 1 [] none 0 [] none 0 :=
    { kP := kP, kR := kR, kK := kK, kV := kV
      mM := ⟨χ, hχ, mM⟩
      mN := ⟨_, mN, fun t ht => by
        unfold putF
        by_cases c : t = firstP p
        · rw [if_pos c, if_pos (by simp [vIter, c])]
          simp [vIter, ixL, c]
        · rw [if_neg c, if_neg (by simp [vIter, c])]⟩
      oN := oN
      oH := Own.nil _ _ _ _
      oM := Own.nil _ _ _ _
      rH := fun x hx => absurd hx (by simp)
      rM := fun x hx => absurd hx (by simp)
      ab := rfl
      bel := b019 }
  have hgV2 : gN < gV := by omega
  have hgKM : gK ≠ gM := by omega
  clear kP kR kK kV mM mN oN hχ hbk hTw
  refine loop_rule (fun f w' => ∃ (n : Nat) (AN : Option Addr) (cN : Nat) (hs : List Hd) (An : Option Addr) (cn : Nat) (ms : List MvH) (Am : Option Addr) (cm : Nat), n ≤ (vIter p free n).nodes.length ∧
      (f 2 = .pointer (some ⟨w.heap.size, 0, none⟩) ∧ f 4 = .pointer (some ⟨w1.heap.size, 0, none⟩) ∧ f 7 = .pointer (some ⟨gK, 0, none⟩) ∧ f 9 = .map (some gN) ∧ f 10 = .slice AN (vIter p free n).nodes.length cN ∧ f 11 = .pointer (some ⟨gV, 0, none⟩) ∧ f 12 = .int .i64 n) ∧
      hs.map (·.l) = (vIter p free n).nodes.take n ∧ VMem w a p A1 free c1 w1.heap.size gM gK gN gV w' (vIter p free n) AN cN hs An cn ms Am cm)
    (fun f _ => 65 - (intOf (f 12)).toNat) ⟨0, _, _, [], none, 0, [], none, 0, Nat.zero_le _, ⟨rfl, rfl, rfl, rfl, rfl, rfl, rfl⟩, by simp, M0⟩ ?_
  clear M0 b019
  rintro f w20 ⟨n, AN, cN, hs, An, cn, ms, Am, cm, hn, fr, hhs, M⟩ J hJ
  have hG := vIter_good (free := free) hm n
  have hl64 := hG.len pm.2.1
  have hhl : hs.length = n := by have := congrArg List.length hhs; rw [List.length_map, List.length_take] at this; omega
  have hz20 := M.bel.size
  have hTw := hT.on M.bel
  by_cases hlt : n < (vIter p free n).nodes.length
  case neg =>
    have hne : (vIter p free n).nodes.length = n := by omega
    have kR := M.kR
    simp (disch := first | with_reducible assumption | omega) only [push_cast, x_blk, x_cd, ↓reduceIte, Nat.reduceEqDiff, List.map_cons, List.map_nil, Int.reduceEq, Int.lt_irrefl, L_veil_Make_1, fr, hlt, M.kV.wA]
    refine sto_blk kR (cs := vlC An hs.length cn Am ms.length cm) (e2_vl _ _ _ _ _ _) rfl (vl_one _ _ _ _ _ _) ?_
    intro w21 k21 g21 z21
    have kt := KeepT.grewB (es := [3]) (B := 0) kR (Nat.zero_le _) (by decide) g21
    have oH' := M.oH.grew g21 (.inr (fun h => M.oH.ne_ltV (show w1.heap.size < gN + 1 by omega) h.symm))
    have oM' := M.oM.grew g21 (.inr (fun h => M.oM.ne_ltV (show w1.heap.size < gN + 1 by omega) h.symm))
    simp (disch := first | with_reducible assumption | omega) only [push_cast, x_blk, x_cd, ↓reduceIte, Nat.reduceEqDiff, List.map_cons, List.map_nil, Int.reduceEq, Int.lt_irrefl, fr]
    exact fin_c3 k21 ty_ag_47 (e2_vl _ _ _ _ _ _) (by simp only [push_cast, ↓reduceIte, Nat.reduceEqDiff, Int.reduceEq, fr]) (hQ _ _ ⟨g21.below M.bel M.bel.size (by intro a ha; injection ha with ha; subst ha; exact b1.size), .inr (.inr (.inr ⟨hpr, hok, ⟨hF, hkF⟩, n, _, hne,
      ⟨An, cn, hs, Am, cm, ms, rfl, Recs.lt hdEnc (by decide) (OwnR.recs oH' hdEnc (by decide)), fun x hx => ((M.rH x hx).keepT kt).tlt, by rw [hhs, List.take_of_length_le (by omega)], Recs.lt mvEnc (by decide) (OwnR.recs oM' mvEnc (by decide)), fun x hx => ((M.rM x hx).keepT kt).tlt, M.ab⟩, (by simp only [push_cast, ↓reduceIte, Nat.reduceEqDiff, Int.reduceEq, fr])⟩))⟩)
  have hNn : (vIter p free n).nodes[n]? = some ((vIter p free n).nodes.getD n []) := by rw [List.getD_eq_getElem?_getD, List.getElem?_eq_getElem hlt]; rfl
  have rN := hG.row _ (List.mem_of_getElem? hNn)
  have htk : (vIter p free n).nodes.take (n + 1) = (vIter p free n).nodes.take n ++ [(vIter p free n).nodes.getD n []] := take_snoc _ [] n hlt
  have bd : Below w20.heap.size w20 w20.drew := (Same.refl w20).drew.below _
  have hTu := hTw.on bd
  replace M := M.below bd
  have kV0 := M.kV
  generalize hu20 : w20.drew = u20 at *
  have hRN := Recs.lt setEnc (by decide) (OwnR.recs M.oN setEnc (by decide))
  have sN := hRN.isSome (by omega)
  have hldN := fun {K : Fr → World → Prop} {f : Fr} {d : Option Nat} {w' : World} => hRN.ldAll (P := Tryd.prog) (K := K) (f := f) (d := d) (w := w') setEnc ty_ag_76 hNn ty_sz_76
  have hzu := M.bel.size
  have hmu : (intOf (f 12)).toNat = n := by rw [fr.2.2.2.2.2.2]; simp [intOf]
  generalize hN : (vIter p free n).nodes.getD n [] = N at *
  simp (disch := first | with_reducible assumption | omega) only [push_cast, x_blk, x_cd, ↓reduceIte, Nat.reduceEqDiff, List.map_cons, List.map_nil, Int.reduceEq, Int.lt_irrefl, L_veil_Make_1, fr, hlt, hu20, kV0.w0 ty_ag_44, sN, hldN]
  refine call_of (set_Row' rN.strict (rN.small (by have := pm.2.1; omega)) hTu) ?_
  rintro v w22 ⟨A22, c22, rfl, o22, b22⟩
  have M22 := M.below b22
  have rO := OwnI.tyb (es := [3]) (B := 0) o22 (by decide)
  simp (disch := first | with_reducible assumption | omega) only [push_cast, x_blk, x_cd, ↓reduceIte, Nat.reduceEqDiff, List.map_cons, List.map_nil, Int.reduceEq, Int.lt_irrefl, bs_44]
  have hz22 := b22.size
  refine ⟨b22, (b22.trans ((Below.refl _ _).alloc hz22 _)), ?_⟩
  refine app_rec hdEnc slT_44 M22.oH ⟨A22, c22, N⟩ (by omega) (by omega) (by have := M22.kV.lt; omega) ?_
  intro A23 c23 w23 o23 g23 hA23 hs23 z23
  have kV23 := M22.kV.grown g23.by_ (M22.oH.ne_blk M22.kV (by decide)).symm
  simp (disch := first | with_reducible assumption | omega) only [push_cast, x_blk, x_cd, ↓reduceIte, Nat.reduceEqDiff, List.map_cons, List.map_nil, Int.reduceEq, Int.lt_irrefl, fr]
  refine sto_slice kV23 (by kernel_rfl) 0 (by simp) A23 _ c23 ?_
  intro w24 k24 g24 z24
  have e24 : (vlC An hs.length cn Am ms.length cm).set 0 (.slice A23 (hs.length + 1) c23) = vlC A23 (hs ++ [(⟨A22, c22, N⟩ : Hd)]).length c23 Am ms.length cm := by rw [List.length_append]; rfl
  rw [e24] at k24
  have q1 : w.heap.size < gN + 1 := by omega
  have q2 : w1.heap.size < gN + 1 := by omega
  have q3 : gK < gN := by omega
  have M24 := M22.row q1 q2 (by omega) (by omega) hgV2 rO o23 g23 k24 g24
  have hhs2 : (hs ++ [(⟨A22, c22, N⟩ : Hd)]).map (·.l) = (vIter p free n).nodes.take (n + 1) := by rw [List.map_append, hhs, htk]; rfl
  generalize hs ++ [(⟨A22, c22, N⟩ : Hd)] = hs at *
  clear M22 M k24 g24 o23 g23 kV23 rO b22 kV0 hRN bd
  have hz24 := M24.bel.size
  simp (disch := first | with_reducible assumption | omega) only [push_cast, x_blk, x_cd, ↓reduceIte, Nat.reduceEqDiff, List.map_cons, List.map_nil, Int.reduceEq, Int.lt_irrefl, fr, M24.kP.p5]
  refine loop_rule (fun f' w' => ∃ (j : Nat) (AN : Option Addr) (cN : Nat) (ms : List MvH) (Am : Option Addr) (cm : Nat), j ≤ p.seen.length ∧
      (f' 2 = .pointer (some ⟨w.heap.size, 0, none⟩) ∧ f' 4 = .pointer (some ⟨w1.heap.size, 0, none⟩) ∧ f' 7 = .pointer (some ⟨gK, 0, none⟩) ∧ f' 9 = .map (some gN) ∧ f' 10 = .slice AN (vPart p free n j).nodes.length cN ∧ f' 11 = .pointer (some ⟨gV, 0, none⟩) ∧ f' 12 = .int .i64 n ∧ f' 84 = .slice a.Ap p.seen.length a.cp ∧ f' 85 = .int .i64 p.seen.length ∧ f' 86 = .int .i64 j) ∧
      VMem w a p A1 free c1 w1.heap.size gM gK gN gV w' (vPart p free n j) AN cN hs A23 c23 ms Am cm)
    (fun f' _ => p.seen.length - (intOf (f' 86)).toNat) ⟨0, AN, cN, ms, Am, cm, Nat.zero_le _, (by simp only [push_cast, ↓reduceIte, Nat.reduceEqDiff, true_and, and_true, and_self, eq_self, fr, vPart_zero]), by rw [vPart_zero]; exact M24⟩ ?_
  clear M24 fr
  rintro f w25 ⟨j, AN, cN, ms, Am, cm, hj, fr, M⟩ J2 hJ2
  obtain ⟨hGp, hpre⟩ := vPart_good (p := p) (free := free) hm n j
  by_cases hjl : j < p.seen.length
  case neg =>
    obtain rfl : j = p.seen.length := by omega
    rw [vPart_all] at fr M
    have hpre1 := (vIter_pre (p := p) (free := free) (Nat.le_succ n)).2
    simp (disch := first | with_reducible assumption | omega) only [push_cast, x_blk, x_cd, ↓reduceIte, Nat.reduceEqDiff, List.map_cons, List.map_nil, Int.reduceEq, Int.lt_irrefl, L_veil_Make_0, fr, Nat.lt_irrefl]
    exact hJ _ _ ⟨n + 1, AN, cN, hs, A23, c23, ms, Am, cm, Nat.le_trans hlt hpre1.length_le, (by simp only [push_cast, ↓reduceIte, Nat.reduceEqDiff, true_and, and_true, and_self, eq_self, fr]), by
      obtain ⟨t, ht⟩ := hpre1
      rw [hhs2, ← ht, List.take_append_of_le_length hlt], M⟩ (by rw [hmu]; simp only [push_cast, ↓reduceIte, Nat.reduceEqDiff, intOf, fr]; omega)
  have hNp : (vPart p free n j).nodes[n]? = some N := by rw [prefix_getElem? hpre hlt, hNn]
  have hNd : (vPart p free n j).nodes.getD n [] = N := by rw [List.getD_eq_getElem?_getD, hNp]; rfl
  have hlp : n < (vPart p free n j).nodes.length := Nat.lt_of_lt_of_le hlt hpre.length_le
  have hl64p := hGp.len pm.2.1
  have hz25 := M.bel.size
  have hTw2 := hT.on M.bel
  have hIs := (ha.up M.bel).seen
  have sI := hIs.isSome (by omega)
  have hld := fun {K : Fr → World → Prop} {f : Fr} {d : Option Nat} {w : World} => hIs.ld (P := Tryd.prog) (K := K) (f := f) (d := d) (w := w) ty_ag_3 j hjl
  have hem := getD_mem p.seen 0 j hjl
  have hsucc := vPart_succ (p := p) (free := free) n hjl
  have hmvl := vPart_len (p := p) (free := free) n8 n j
  generalize p.seen.getD j 0 = e at *
  generalize vPart p free n j = st at *
  have hmu2 : (intOf (f 86)).toNat = j := by rw [fr.2.2.2.2.2.2.2.2.2]; simp [intOf]
  have hRN := Recs.lt setEnc (by decide) (OwnR.recs M.oN setEnc (by decide))
  have sN := hRN.isSome (by omega)
  have hldN := fun {K : Fr → World → Prop} {f : Fr} {d : Option Nat} {w' : World} => hRN.ldAll (P := Tryd.prog) (K := K) (f := f) (d := d) (w := w') setEnc ty_ag_76 hNp ty_sz_76
  obtain ⟨χ, hχ, hMχ⟩ := M.mM
  have hmsl : ms.length = st.moves.length := by have := congrArg List.length M.ab; simpa using this
  have kK25 := M.kK
  simp (disch := first | with_reducible assumption | omega) only [push_cast, x_blk, x_cd, ↓reduceIte, Nat.reduceEqDiff, List.map_cons, List.map_nil, Int.reduceEq, Int.lt_irrefl, L_veil_Make_0, fr, hjl, sI, hld, hlp, sN, hldN]
  refine call_of (veil_move (B := w.heap.size) hz25 (ha.below M.bel) hf pm hpl hTw2 (h1.below M.bel) n1 (by omega) kK25 hχ hMχ rN e) ?_
  rintro v w26 ⟨A26, c26, rfl, o26, ⟨hM26, k26⟩, hT26⟩
  have M26 := M.keepM (by omega) (by omega) hgKM hz15 hgV2 k26 hM26
  have rO := OwnI.tyb (es := [3]) (B := 0) o26 (by decide)
  have rT := toL_row (free := free) hm N e
  have rW := wideL_row (seen := p.seen) hm (row_range rT)
  have hE : vE p free n st e = if stayL p.m (toL p free N e) N e = [] then st else ⟨if wideL p.m p.seen (toL p free N e) ∈ st.nodes then st.nodes else st.nodes ++ [wideL p.m p.seen (toL p free N e)], st.moves ++ [⟨n, e, stayL p.m (toL p free N e) N e, ixL (wideL p.m p.seen (toL p free N e)) st.nodes⟩]⟩ := by unfold vE; rw [hNd]
  rw [hE] at hsucc
  clear hE M hRN hldN hMχ kK25
  generalize toL p free N e = T at *
  generalize wideL p.m p.seen T = W at *
  generalize stayL p.m T N e = S at *
  simp (disch := first | with_reducible assumption | omega) only [push_cast, x_blk, x_cd, ↓reduceIte, Nat.reduceEqDiff, List.map_cons, List.map_nil, Int.reduceEq, Int.lt_irrefl, fr]
  have hAm : Am.map (·.block) ≠ some w26.heap.size := fun hh => by have := M26.oM.ltB hh.symm; omega
  have hz26 := M26.bel.size
  have lN26 : gN < w26.heap.size := by obtain ⟨ψ, hh, _⟩ := M26.mN; exact hh.lt
  refine blk_of (cs := MvH.cells ⟨0, 0, none, 0, [], 0⟩) al_56 ?_
  intro w27 k15 b27 z27
  simp (disch := first | with_reducible assumption | omega) only [push_cast, x_blk, x_cd, ↓reduceIte, Nat.reduceEqDiff, List.map_cons, List.map_nil, Int.reduceEq, Int.lt_irrefl, fr]
  refine blk_of (cs := setCells (wordsOf [])) al_76 ?_
  intro w28 k16 b28 z28
  replace k15 := k15.below b28 k15.lt
  have b268 := b27.trans (b28.mono b27.size)
  simp (disch := first | with_reducible assumption | omega) only [push_cast, x_blk, x_cd, ↓reduceIte, Nat.reduceEqDiff, List.map_cons, List.map_nil, Int.reduceEq, Int.lt_irrefl, fr]
  refine sto_blk k15 (cs := MvH.cells ⟨0, e, A26, c26, S, 0⟩) (e4_mv _) rfl (mv_one _) ?_
  intro w29 k15' g29 z29
  have b269 := g29.below b268 b268.size (by intro a ha; injection ha with ha; subst ha; exact Nat.le_refl _)
  have k16' := k16.grown g29.by_ (by simp; omega)
  simp (disch := first | with_reducible assumption | omega) only [push_cast, x_blk, x_cd, ↓reduceIte, Nat.reduceEqDiff, List.map_cons, List.map_nil, Int.reduceEq, Int.lt_irrefl, fr]
  refine sto_blk k16' (cs := setCells (wordsOf W)) (e4_set _) (by rw [setCells_4, setCells_4]) (setCells_one _) ?_
  intro w30 k16'' g30 z30
  have b2630 := g30.below b269 b269.size (by intro a ha; injection ha with ha; subst ha; exact b27.size)
  have k15'' := k15'.grown g30.by_ (by simp; omega)
  have M30 := M26.below b2630
  have rO30 := rO.keepT (.below b2630)
  clear k15 k16 k15' k16' g29 g30 b269 b268 b28 b27 M26 rO o26
  have k15 := k15''
  have k16 := k16''
  clear k15'' k16''
  by_cases hS : S = []
  · rw [if_pos hS] at hsucc
    have hd : decide (0 < S.length) = false := by rw [hS]; rfl
    simp (disch := first | with_reducible assumption | omega) only [push_cast, x_blk, x_cd, ↓reduceIte, Nat.reduceEqDiff, List.map_cons, List.map_nil, Int.reduceEq, Int.lt_irrefl, fr, hd]
    exact hJ2 _ _ ⟨j + 1, AN, cN, ms, Am, cm, hjl, (by simp only [push_cast, ↓reduceIte, Nat.reduceEqDiff, true_and, and_true, and_self, eq_self, fr, hsucc]), by rw [hsucc]; exact M30⟩ (by rw [hmu2]; simp only [push_cast, ↓reduceIte, Nat.reduceEqDiff, intOf, fr]; omega)
  rw [if_neg hS] at hsucc
  have hd : decide (0 < S.length) = true := decide_eq_true (by cases S with | nil => exact absurd rfl hS | cons _ _ => simp)
  have hmN30 := M30.mN
  obtain ⟨ψ, hψm, hψ⟩ := hmN30
  have W6 : IsRow W 6 := rW.more pm.2.1
  have hlk : ∀ {K : Fr → World → Prop} {f : Fr} {d : Option Nat} {w : World}, Val1 Tryd.prog K (Instr.lookup 106 (.map (some gN)) (.agg (setC W).toArray) true) w30 f d w = K (updO f d (.tuple #[.int .i64 ((ψ W).getD 0), .bool (ψ W).isSome])) w := fun {K f d w} => hψm.look2 W6
  rw [hψ W W6] at hlk
  by_cases hW : W ∈ st.nodes
  · rw [if_pos hW] at hlk hsucc
    have M32 := M30
    have rO32 := rO30
    generalize AN = ANx at *
    generalize cN = cNx at *
    have hndl := True.intro
    simp (disch := first | with_reducible assumption | omega) only [push_cast, x_blk, x_cd, ↓reduceIte, Nat.reduceEqDiff, List.map_cons, List.map_nil, Int.reduceEq, Int.lt_irrefl, fr, hd, k16.setA (wordsOf_words _) ty_ag_76 ty_sz_76, v_lookup, hlk, Option.getD_some, Option.isSome_some]
    refine sto_cell k15 (by kernel_rfl) 0 (by simp [MvH.cells]) .i64 (n : Int) ?_
    intro w40 k40 g40 z40
    simp (disch := first | with_reducible assumption | omega) only [push_cast, x_blk, x_cd, ↓reduceIte, Nat.reduceEqDiff, List.map_cons, List.map_nil, Int.reduceEq, Int.lt_irrefl, fr]
    refine sto_cell k40 (by kernel_rfl) 3 (by simp [MvH.cells]) .i64 _ ?_
    intro w41 k41 g41 z41
    replace k41 : Blk w41 w26.heap.size 56 (MvH.cells ⟨n, e, A26, c26, S, (ixL W st.nodes : Nat)⟩) := by first | exact k41 | (rw [hix]; exact k41)
    have M41 := (M32.grownF k15 (by omega) hAm g40).grownF k40 (by omega) hAm g41
    have rO41 := (rO32.keepT (KeepT.grewB k15 (Nat.zero_le _) (by decide) g40)).keepT (KeepT.grewB k40 (Nat.zero_le _) (by decide) g41)
    simp (disch := first | with_reducible assumption | omega) only [push_cast, x_blk, x_cd, ↓reduceIte, Nat.reduceEqDiff, List.map_cons, List.map_nil, Int.reduceEq, Int.lt_irrefl, fr, M41.kV.w1 ty_ag_45, k41.vA, bs_rec mvEnc slT_45 _ (by decide)]
    refine app_rec mvEnc slT_45 M41.oM ⟨n, e, A26, c26, S, (ixL W st.nodes : Nat)⟩ (by omega) (by omega) (by have := M41.kV.lt; omega) ?_
    intro A42 c42 w42 o42 g42 hA42 hs42 z42
    have kV42 := M41.kV.grown g42.by_ (M41.oM.ne_blk M41.kV (by decide)).symm
    simp (disch := first | with_reducible assumption | omega) only [push_cast, x_blk, x_cd, ↓reduceIte, Nat.reduceEqDiff, List.map_cons, List.map_nil, Int.reduceEq, Int.lt_irrefl, fr]
    refine sto_slice kV42 (by kernel_rfl) 1 (by simp) A42 _ c42 ?_
    intro w43 k43 g43 z43
    have e43 : (vlC A23 hs.length c23 Am ms.length cm).set 1 (.slice A42 (ms.length + 1) c42) = vlC A23 hs.length c23 A42 (ms ++ [(⟨n, e, A26, c26, S, (ixL W st.nodes : Nat)⟩ : MvH)]).length c42 := by rw [List.length_append]; rfl
    rw [e43] at k43
    have M43 := M41.move (st' := ⟨st.nodes, st.moves ++ [⟨n, e, S, ixL W st.nodes⟩]⟩) q1 q2 (by omega) (by omega) hgV2 rO41 rfl (by rw [List.map_append]; rfl) o42 g42 k43 g43
    simp (disch := first | with_reducible assumption | omega) only [push_cast, x_blk, x_cd, ↓reduceIte, Nat.reduceEqDiff, List.map_cons, List.map_nil, Int.reduceEq, Int.lt_irrefl, fr]
    exact hJ2 _ _ ⟨j + 1, ANx, cNx, ms ++ [⟨n, e, A26, c26, S, (ixL W st.nodes : Nat)⟩], A42, c42, hjl, (by simp only [push_cast, ↓reduceIte, Nat.reduceEqDiff, true_and, and_true, and_self, eq_self, fr, hsucc, hndl, List.length_append, List.length_cons, List.length_nil]), by rw [hsucc]; exact M43⟩ (by rw [hmu2]; simp only [push_cast, ↓reduceIte, Nat.reduceEqDiff, intOf, fr]; omega)
  rw [if_neg hW] at hlk hsucc
  simp (disch := first | with_reducible assumption | omega) only [push_cast, x_blk, x_cd, ↓reduceIte, Nat.reduceEqDiff, List.map_cons, List.map_nil, Int.reduceEq, Int.lt_irrefl, fr, hd, k16.setA (wordsOf_words _) ty_ag_76 ty_sz_76, v_lookup, hlk, Option.getD_none, Option.isSome_none]
  have hg15 := k15.lt
  refine hψm.put W6 (st.nodes.length : Int) ?_
  intro w31 mN31 g31 z31
  have oN31 := M30.oN.grew g31 (.inr (fun h => M30.oN.ne_ltV (Nat.lt_succ_self gN) h.symm))
  have k15b := k15.grown g31.by_ (by simp; omega)
  have k16b := k16.grown g31.by_ (by simp; omega)
  simp (disch := first | with_reducible assumption | omega) only [push_cast, x_blk, x_cd, ↓reduceIte, Nat.reduceEqDiff, List.map_cons, List.map_nil, Int.reduceEq, Int.lt_irrefl, fr, k16b.setA (wordsOf_words _) ty_ag_76 ty_sz_76, bs_rec setEnc slT_72 _ (by decide)]
  refine app_rec setEnc slT_72 oN31 W (by omega) (by omega) (by have := M30.kV.lt; omega) ?_
  intro ANx cNx w32 oN32 g32 hA32 hs32 z32
  have hix := ixL_none hW
  have M32 := M30.node (y := W) (ψ' := putF ψ W (st.nodes.length : Int)) (by omega) (by omega) q3 (by omega) hgV2 g31 mN31 (fun t ht => by
    unfold putF
    by_cases c : t = W
    · rw [if_pos c, if_pos (by simp [c]), c]
      have : ixL W (st.nodes ++ [W]) = st.nodes.length := ixL_first (by simp) (fun i hi hh => hW (by rw [List.getElem?_append_left hi] at hh; exact List.mem_of_getElem? hh))
      rw [this]
    · rw [if_neg c, hψ t ht]
      by_cases c2 : t ∈ st.nodes
      · rw [if_pos c2, if_pos (by simp [c2])]
        have := ixL_lt c2
        have h2 : ixL t (st.nodes ++ [W]) = ixL t st.nodes := ixL_first (by rw [List.getElem?_append_left this.1]; exact this.2) (fun i hi hh => by
          rw [List.getElem?_append_left (by omega)] at hh
          exact ixL_min hi hh)
        rw [h2]
      · rw [if_neg c2, if_neg (by simp [c2, c])]) oN32 g32
  have rO32 := (rO30.keepT (KeepT.grewM M30.mN g31)).keepT (KeepT.grew (es := [3]) oN31 (Nat.zero_le _) (by decide) g32)
  have k15 := k15b.grown g32.by_ (oN31.ne_blk k15b (by decide)).symm
  have hndl : (st.nodes ++ [W]).length = st.nodes.length + 1 := by simp
  generalize hNd2 : st.nodes ++ [W] = nd at *
  simp (disch := first | with_reducible assumption | omega) only [push_cast, x_blk, x_cd, ↓reduceIte, Nat.reduceEqDiff, List.map_cons, List.map_nil, Int.reduceEq, Int.lt_irrefl, fr]
  refine sto_cell k15 (by kernel_rfl) 0 (by simp [MvH.cells]) .i64 (n : Int) ?_
  intro w40 k40 g40 z40
  simp (disch := first | with_reducible assumption | omega) only [push_cast, x_blk, x_cd, ↓reduceIte, Nat.reduceEqDiff, List.map_cons, List.map_nil, Int.reduceEq, Int.lt_irrefl, fr]
  refine sto_cell k40 (by kernel_rfl) 3 (by simp [MvH.cells]) .i64 _ ?_
  intro w41 k41 g41 z41
  replace k41 : Blk w41 w26.heap.size 56 (MvH.cells ⟨n, e, A26, c26, S, (ixL W st.nodes : Nat)⟩) := by first | exact k41 | (rw [hix]; exact k41)
  have M41 := (M32.grownF k15 (by omega) hAm g40).grownF k40 (by omega) hAm g41
  have rO41 := (rO32.keepT (KeepT.grewB k15 (Nat.zero_le _) (by decide) g40)).keepT (KeepT.grewB k40 (Nat.zero_le _) (by decide) g41)
  simp (disch := first | with_reducible assumption | omega) only [push_cast, x_blk, x_cd, ↓reduceIte, Nat.reduceEqDiff, List.map_cons, List.map_nil, Int.reduceEq, Int.lt_irrefl, fr, M41.kV.w1 ty_ag_45, k41.vA, bs_rec mvEnc slT_45 _ (by decide)]
  refine app_rec mvEnc slT_45 M41.oM ⟨n, e, A26, c26, S, (ixL W st.nodes : Nat)⟩ (by omega) (by omega) (by have := M41.kV.lt; omega) ?_
  intro A42 c42 w42 o42 g42 hA42 hs42 z42
  have kV42 := M41.kV.grown g42.by_ (M41.oM.ne_blk M41.kV (by decide)).symm
  simp (disch := first | with_reducible assumption | omega) only [push_cast, x_blk, x_cd, ↓reduceIte, Nat.reduceEqDiff, List.map_cons, List.map_nil, Int.reduceEq, Int.lt_irrefl, fr]
  refine sto_slice kV42 (by kernel_rfl) 1 (by simp) A42 _ c42 ?_
  intro w43 k43 g43 z43
  have e43 : (vlC A23 hs.length c23 Am ms.length cm).set 1 (.slice A42 (ms.length + 1) c42) = vlC A23 hs.length c23 A42 (ms ++ [(⟨n, e, A26, c26, S, (ixL W st.nodes : Nat)⟩ : MvH)]).length c42 := by rw [List.length_append]; rfl
  rw [e43] at k43
  have M43 := M41.move (st' := ⟨nd, st.moves ++ [⟨n, e, S, ixL W st.nodes⟩]⟩) q1 q2 (by omega) (by omega) hgV2 rO41 rfl (by rw [List.map_append]; rfl) o42 g42 k43 g43
  simp (disch := first | with_reducible assumption | omega) only [push_cast, x_blk, x_cd, ↓reduceIte, Nat.reduceEqDiff, List.map_cons, List.map_nil, Int.reduceEq, Int.lt_irrefl, fr]
  exact hJ2 _ _ ⟨j + 1, ANx, cNx, ms ++ [⟨n, e, A26, c26, S, (ixL W st.nodes : Nat)⟩], A42, c42, hjl, (by simp only [push_cast, ↓reduceIte, Nat.reduceEqDiff, true_and, and_true, and_self, eq_self, fr, hsucc, hndl, List.length_append, List.length_cons, List.length_nil]), by rw [hsucc]; exact M43⟩ (by rw [hmu2]; simp only [push_cast, ↓reduceIte, Nat.reduceEqDiff, intOf, fr]; omega)
end Go.Proofs.YtcjedgiglimipaaDoor

/-
  Chapter 15's reference: Plain, Make: by their contracts.
-/
namespace Go.Proofs.YtcjedgiglimipaaDoor
set_option linter.unusedSimpArgs false
set_option linter.unusedVariables false
set_option linter.unusedSectionVars false
open Go.RowKit

theorem ref15_Plain2 {w : World} {a : PV} {p : Plt} (ha : IsP (· < w.heap.size) w a p) (hf : p.Fits) (hm : p.m.May) :
    Cal Tryd.prog 74 [a.val p] w fun v w' => (∃ b : Bool, v = .bool b ∧ (b = true ↔ PlainM p.m)) ∧ Below w.heap.size w w' := by
  have nS := hf.m.lenS
  have m256 := hm.2.1
  have e8 := hm.2.2.2.1
  have e0 := hm.2.2.1
  refine cal_ref15_Plain (by simp) 100000 fun Q hQ => ?_
  simp (disch := first | with_reducible assumption | omega) only [push_cast, x_blk, x_cd, ↓reduceIte, Nat.reduceEqDiff, List.map_cons, List.map_nil, Int.reduceEq, Int.lt_irrefl, F_ref15_Plain]
  refine blk_of (box_agg _ (a.cells p)) ?_
  intro w1 k1 b1 z1
  by_cases c1 : (1 : Int) < (p.m.starts.length : Int)
  · simp (disch := first | with_reducible assumption | omega) only [push_cast, x_blk, x_cd, ↓reduceIte, Nat.reduceEqDiff, List.map_cons, List.map_nil, Int.reduceEq, Int.lt_irrefl, k1.p2, c1]
    exact fin_1 (hQ _ _ ⟨⟨false, (by simp only [push_cast, ↓reduceIte, Nat.reduceEqDiff, Int.reduceEq]), ⟨fun h => (by cases h), fun h => absurd h.1 (by omega)⟩⟩, b1⟩)
  simp (disch := first | with_reducible assumption | omega) only [push_cast, x_blk, x_cd, ↓reduceIte, Nat.reduceEqDiff, List.map_cons, List.map_nil, Int.reduceEq, Int.lt_irrefl, k1.p2, c1]
  refine loop_rule (fun f w' => ∃ k : Nat, (k : Int) ≤ p.m.states ∧ (f 1 = .pointer (some ⟨w.heap.size, 0, none⟩) ∧ f 3 = .int .i64 k) ∧ (∀ s e : Int, 0 ≤ s → s < k → 0 ≤ e → e < p.m.events → (stepL p.m [s] e).length ≤ 1) ∧ Below w1.heap.size w1 w')
    (fun f _ => p.m.states.toNat - (intOf (f 3)).toNat) ⟨0, by have := hm.1; omega, ⟨rfl, rfl⟩, fun s e h0 h1 => absurd h1 (by omega), Below.refl _ _⟩ ?_
  rintro f w2 ⟨k, hk, fr, hpre, b2⟩ J hJ
  have k2 := k1.below b2 k1.lt
  have hmu : (intOf (f 3)).toNat = k := by rw [fr.2]; simp [intOf]
  by_cases hlt : (k : Int) < p.m.states
  case neg =>
    simp (disch := first | with_reducible assumption | omega) only [push_cast, x_blk, x_cd, ↓reduceIte, Nat.reduceEqDiff, List.map_cons, List.map_nil, Int.reduceEq, Int.lt_irrefl, L_ref15_Plain_1, fr, hlt, k2.p0]
    exact fin_1 (hQ _ _ ⟨⟨true, (by simp only [push_cast, ↓reduceIte, Nat.reduceEqDiff, Int.reduceEq]), ⟨fun _ => ⟨by omega, fun s e h0 h1 => hpre s e h0 (by omega)⟩, fun _ => rfl⟩⟩, b1.trans (b2.mono b1.size)⟩)
  simp (disch := first | with_reducible assumption | omega) only [push_cast, x_blk, x_cd, ↓reduceIte, Nat.reduceEqDiff, List.map_cons, List.map_nil, Int.reduceEq, Int.lt_irrefl, L_ref15_Plain_1, fr, hlt, k2.p0]
  refine loop_rule (fun f w' => ∃ j : Nat, (j : Int) ≤ p.m.events ∧ (f 1 = .pointer (some ⟨w.heap.size, 0, none⟩) ∧ f 3 = .int .i64 k ∧ f 4 = .int .i64 j) ∧ (∀ e : Int, 0 ≤ e → e < j → (stepL p.m [(k : Int)] e).length ≤ 1) ∧ Below w1.heap.size w1 w')
    (fun f _ => p.m.events.toNat - (intOf (f 4)).toNat) ⟨0, by omega, (by simp only [push_cast, ↓reduceIte, Nat.reduceEqDiff, true_and, and_true, and_self, eq_self, fr]), fun e h0 h1 => absurd h1 (by omega), b2⟩ ?_
  clear fr k2 b2
  rintro f w2 ⟨j, hj, fr, hpre2, b2⟩ J2 hJ2
  have k2 := k1.below b2 k1.lt
  have bb := b1.trans (b2.mono b1.size)
  by_cases hjt : (j : Int) < p.m.events
  case neg =>
    simp (disch := first | with_reducible assumption | omega) only [push_cast, x_blk, x_cd, ↓reduceIte, Nat.reduceEqDiff, List.map_cons, List.map_nil, Int.reduceEq, Int.lt_irrefl, L_ref15_Plain_0, fr, hjt, k2.p1]
    exact hJ _ _ ⟨k + 1, by omega, (by simp only [push_cast, ↓reduceIte, Nat.reduceEqDiff, true_and, and_true, and_self, eq_self, fr]), fun s e h0 h1 h2 h3 => by
      by_cases e1 : s = k
      · rw [e1]; exact hpre2 e h2 (by omega)
      · exact hpre s e h0 (by omega) h2 h3, b2⟩ (by rw [hmu]; simp only [push_cast, ↓reduceIte, Nat.reduceEqDiff, intOf, fr]; omega)
  have oE := own_int1 w2 (k : Int) 3
  have b3 : Below w2.heap.size w2 (w2.alloc (.cells [.int .i64 (k : Int)].toArray 3)) := (Below.refl _ _).alloc (Nat.le_refl _) _
  simp (disch := first | with_reducible assumption | omega) only [push_cast, x_blk, x_cd, ↓reduceIte, Nat.reduceEqDiff, List.map_cons, List.map_nil, Int.reduceEq, Int.lt_irrefl, L_ref15_Plain_0, fr, hjt, k2.p1, k2.pM, bs_22]
  generalize w2.alloc (.cells [.int .i64 (k : Int)].toArray 3) = w3 at *
  have bb3 := bb.trans (b3.mono bb.size)
  refine call_of (ref2_Step (l := [(k : Int)]) (ha.up bb3).m hf.m (OwnI.ints oE).lt (by simp) (j : Int)) ?_
  rintro v w4 ⟨A4, c4, rfl, o4, b4⟩
  have b14 := b2.trans ((b3.trans (b4.mono b3.size)).mono b2.size)
  by_cases q : (1 : Int) < ((stepL p.m [(k : Int)] j).length : Int)
  · simp (disch := first | with_reducible assumption | omega) only [push_cast, x_blk, x_cd, ↓reduceIte, Nat.reduceEqDiff, List.map_cons, List.map_nil, Int.reduceEq, Int.lt_irrefl, fr, q]
    exact fin_1 (hQ _ _ ⟨⟨false, (by simp only [push_cast, ↓reduceIte, Nat.reduceEqDiff, Int.reduceEq]), ⟨fun h => (by cases h), fun h => absurd (h.2 k j (by omega) hlt (by omega) hjt) (by omega)⟩⟩, b1.trans (b14.mono b1.size)⟩)
  have hrl := row_lenV (stepL_row hm [(k : Int)] (j : Int))
  simp (disch := first | with_reducible assumption | omega) only [push_cast, x_blk, x_cd, ↓reduceIte, Nat.reduceEqDiff, List.map_cons, List.map_nil, Int.reduceEq, Int.lt_irrefl, fr, q]
  exact hJ2 _ _ ⟨j + 1, by omega, (by simp only [push_cast, ↓reduceIte, Nat.reduceEqDiff, true_and, and_true, and_self, eq_self, fr]), fun e h0 h1 => by
    by_cases e1 : e = j
    · rw [e1]; omega
    · exact hpre2 e h0 (by omega), b14⟩ (by simp only [push_cast, ↓reduceIte, Nat.reduceEqDiff, intOf, fr]; omega)
theorem bl_mv4 {K : Fr → World → Prop} {u : World} {f : Fr} {d : Option Nat} {w : World} (n e : Int) (A : Option Addr) (st : List Int) (c : Nat) (t : Int) : Val1 Tryd.prog K (Instr.build 56 #[(0, .int .i64 n), (1, .int .i64 e), (2, .slice A st.length c), (3, .int .i64 t)]) u f d w = K (updO f d (.agg (MvH.cells ⟨n, e, A, c, st, t⟩).toArray)) w := by
  refine bld_of ?_
  rw [built_of blt_mv]
  rw [fill_cons (off := 0) (size := 1) rfl rfl (by decide), fill_cons (off := 1) (size := 1) rfl rfl (by simp [putL, Value.cells]), fill_cons (off := 2) (size := 1) rfl rfl (by simp [putL, Value.cells]), fill_cons (off := 3) (size := 1) rfl rfl (by simp [putL, Value.cells]), fill_nil]
  simp [putL, Value.cells, MvH.cells]
theorem blt_vl : builtPl Tryd.prog 47 = some ([(0, 1), (1, 1)], [.slice none 0 0, .slice none 0 0]) := by kernel_rfl
theorem bl_veil1 {K : Fr → World → Prop} {u : World} {f : Fr} {d : Option Nat} {w : World} (A : Option Addr) (n c : Nat) : Val1 Tryd.prog K (Instr.build 47 #[(0, .slice A n c)]) u f d w = K (updO f d (.agg (vlC A n c none 0 0).toArray)) w := by
  refine bld_of ?_
  rw [built_of blt_vl]
  rw [fill_cons (off := 0) (size := 1) rfl rfl (by decide), fill_nil]
  simp [putL, Value.cells]
structure RMem (w0 : World) (a : PV) (p : Plt) (G : List Bool) (gR gG gV : Nat) (w : World) (st : VS) (hs : List Hd) (An : Option Addr) (cn : Nat) (ms : List MvH) (Am : Option Addr) (cm : Nat) : Prop where
  kP : Blk w w0.heap.size 43 (a.cells p)
  kR : Blk w gR 47 veil0
  kG : Blk w gG 4 (G.map Value.bool)
  kV : Blk w gV 47 (vlC An hs.length cn Am ms.length cm)
  oH : OwnR Hd.cells (gG + 1) 22 1 w An cn hs
  oM : OwnR MvH.cells (gG + 1) 56 4 w Am cm ms
  rH : ∀ x ∈ hs, Ints (TyB [3] 0 w) w x.A x.l
  rM : ∀ x ∈ ms, Ints (TyB [3] 0 w) w x.A x.st
  nd : hs.map (·.l) = st.nodes
  ab : ms.map MvH.abs = st.moves.map Mv.abs
  bel : Below w0.heap.size w0 w
section
variable {w0 : World} {a : PV} {p : Plt} {G : List Bool} {gR gG gV : Nat} {w w' : World} {st : VS} {hs : List Hd} {An : Option Addr} {cn : Nat} {ms : List MvH} {Am : Option Addr} {cm : Nat}
theorem RMem.below (h : RMem w0 a p G gR gG gV w st hs An cn ms Am cm) (b : Below w.heap.size w w') : RMem w0 a p G gR gG gV w' st hs An cn ms Am cm :=
  { kP := h.kP.below b h.kP.lt
    kR := h.kR.below b h.kR.lt
    kG := h.kG.below b h.kG.lt
    kV := h.kV.below b h.kV.lt
    oH := h.oH.below b (Nat.le_refl _)
    oM := h.oM.below b (Nat.le_refl _)
    rH := fun x hx => (h.rH x hx).keepT (.below b)
    rM := fun x hx => (h.rM x hx).keepT (.below b)
    nd := h.nd
    ab := h.ab
    bel := h.bel.trans (b.mono h.bel.size) }
theorem RMem.row (h : RMem w0 a p G gR gG gV w st hs An cn ms Am cm) (q1 : w0.heap.size < gG + 1) (q2 : gR < gG + 1) (q5 : gG < gV) {x : Hd} (hx : Ints (TyB [3] 0 w) w x.A x.l) {A' : Option Addr} {c' : Nat} {w2 : World}
    (o : OwnR Hd.cells (gG + 1) 22 1 w' A' c' (hs ++ [x])) (g : Grew w w' An) (k : Blk w2 gV 47 (vlC A' (hs ++ [x]).length c' Am ms.length cm)) (g2 : Grew w' w2 (some ⟨gV, 0, none⟩)) : RMem w0 a p G gR gG gV w2 ⟨st.nodes ++ [x.l], st.moves⟩ (hs ++ [x]) A' c' ms Am cm := by
  have kV' := h.kV.grown g.by_ (h.oH.ne_blk h.kV (by decide)).symm
  have kt := (KeepT.grew (es := [3]) h.oH (Nat.zero_le _) (by decide) g).trans (KeepT.grewB kV' (Nat.zero_le _) (by decide) g2)
  have nv : ∀ y, y < gG + 1 → some y ≠ (some (⟨gV, 0, none⟩ : Addr)).map (·.block) := fun y hy => by simp; omega
  have oM' := h.oM.grew g (Own.apart h.oM h.oH (by decide))
  have b1 := g.below h.bel h.bel.size (fun a ha => by have := h.oH.geB a ha; omega)
  exact {
    kP := (h.kP.grown g.by_ (h.oH.ne_ltV q1)).grown g2.by_ (nv _ q1)
    kR := (h.kR.grown g.by_ (h.oH.ne_ltV q2)).grown g2.by_ (nv _ q2)
    kG := (h.kG.grown g.by_ (h.oH.ne_ltV (Nat.lt_succ_self _))).grown g2.by_ (nv _ (Nat.lt_succ_self _))
    kV := k
    oH := o.grew g2 (.inr (o.ne_blk kV' (by decide)))
    oM := oM'.grew g2 (.inr (oM'.ne_blk kV' (by decide)))
    rH := fun y hy => by
      rcases List.mem_append.1 hy with hy | hy
      · exact (h.rH y hy).keepT kt
      · rw [List.mem_singleton.1 hy]; exact hx.keepT kt
    rM := fun y hy => (h.rM y hy).keepT kt
    nd := by rw [List.map_append, h.nd]; rfl
    ab := h.ab
    bel := g2.below b1 b1.size (by intro a ha; injection ha with ha; subst ha; show w0.heap.size ≤ gV; omega) }
theorem RMem.move (h : RMem w0 a p G gR gG gV w st hs An cn ms Am cm) (q1 : w0.heap.size < gG + 1) (q2 : gR < gG + 1) (q5 : gG < gV) {x : MvH} (hx : Ints (TyB [3] 0 w) w x.A x.st) {A' : Option Addr} {c' : Nat} {w2 : World} {st' : VS} (e1 : st'.nodes = st.nodes) (e2 : st'.moves.map Mv.abs = st.moves.map Mv.abs ++ [x.abs])
    (o : OwnR MvH.cells (gG + 1) 56 4 w' A' c' (ms ++ [x])) (g : Grew w w' Am) (k : Blk w2 gV 47 (vlC An hs.length cn A' (ms ++ [x]).length c')) (g2 : Grew w' w2 (some ⟨gV, 0, none⟩)) : RMem w0 a p G gR gG gV w2 st' hs An cn (ms ++ [x]) A' c' := by
  have kV' := h.kV.grown g.by_ (h.oM.ne_blk h.kV (by decide)).symm
  have kt := (KeepT.grew (es := [3]) h.oM (Nat.zero_le _) (by decide) g).trans (KeepT.grewB kV' (Nat.zero_le _) (by decide) g2)
  have nv : ∀ y, y < gG + 1 → some y ≠ (some (⟨gV, 0, none⟩ : Addr)).map (·.block) := fun y hy => by simp; omega
  have oH' := h.oH.grew g (Own.apart h.oH h.oM (by decide))
  have b1 := g.below h.bel h.bel.size (fun a ha => by have := h.oM.geB a ha; omega)
  exact {
    kP := (h.kP.grown g.by_ (h.oM.ne_ltV q1)).grown g2.by_ (nv _ q1)
    kR := (h.kR.grown g.by_ (h.oM.ne_ltV q2)).grown g2.by_ (nv _ q2)
    kG := (h.kG.grown g.by_ (h.oM.ne_ltV (Nat.lt_succ_self _))).grown g2.by_ (nv _ (Nat.lt_succ_self _))
    kV := k
    oH := oH'.grew g2 (.inr (oH'.ne_blk kV' (by decide)))
    oM := o.grew g2 (.inr (o.ne_blk kV' (by decide)))
    rH := fun y hy => (h.rH y hy).keepT kt
    rM := fun y hy => by
      rcases List.mem_append.1 hy with hy | hy
      · exact (h.rM y hy).keepT kt
      · rw [List.mem_singleton.1 hy]; exact hx.keepT kt
    nd := by rw [e1]; exact h.nd
    ab := by rw [List.map_append, h.ab, e2]; rfl
    bel := g2.below b1 b1.size (by intro a ha; injection ha with ha; subst ha; show w0.heap.size ≤ gV; omega) }
end
def RMakeRes (p : Plt) (free : List Int) (w : World) (v : Value) (w' : World) : Prop := Below w.heap.size w w' ∧
  ((¬ (firstP p ≠ [] ∧ Kp p free (firstP p)) ∧ v = .tuple #[.agg veil0.toArray, .bool false]) ∨
   ((firstP p ≠ [] ∧ Kp p free (firstP p)) ∧ ∃ k V, (vIter p free k).nodes.length = k ∧ VeilAt w' V (vIter p free k) ∧ v = .tuple #[V, .bool true]))
set_option maxHeartbeats 4000000 in
theorem ref15_Make {w : World} {a : PV} {p : Plt} (ha : IsP (· < w.heap.size) w a p) (hf : p.Fits) (pm : p.May) {A1 : Option Addr} {c1 : Nat} {free : List Int} (h1 : Ints (· < w.heap.size) w A1 free) (n1 : free.length ≤ 17592186043904) :
    Cal Tryd.prog 33 [a.val p, .slice A1 free.length c1] w (RMakeRes p free w) := by
  have hm := pm.1
  have hms := pm.2.1
  have ev8 := hm.2.2.2.1
  have n8 : p.seen.length ≤ 8 := by have := row_lenV pm.2.2.1; omega
  obtain ⟨st6, hst⟩ : ∃ n : Nat, p.m.states = n := ⟨p.m.states.toNat, by have := hm.1; omega⟩
  have h6 : st6 ≤ 6 := by omega
  obtain ⟨D, hD⟩ : ∃ D, 2 ^ st6 = D := ⟨_, rfl⟩
  refine cal_ref15_Make (by simp) 1000000 fun Q hQ => ?_
  simp (disch := first | with_reducible assumption | omega) only [push_cast, x_blk, x_cd, ↓reduceIte, Nat.reduceEqDiff, List.map_cons, List.map_nil, Int.reduceEq, Int.lt_irrefl, F_ref15_Make]
  refine blk_of (box_agg _ (a.cells p)) ?_
  intro w1 kP b1 z1
  simp (disch := first | with_reducible assumption | omega) only [push_cast, x_blk, x_cd, ↓reduceIte, Nat.reduceEqDiff, List.map_cons, List.map_nil, Int.reduceEq, Int.lt_irrefl]
  refine blk_of (cs := veil0) al_47 ?_
  intro w2 kR b2 z2
  have b02 := b1.trans (b2.mono b1.size)
  replace kP := kP.below b2 kP.lt
  have lP := kP.lt
  have lR := kR.lt
  have hz2 := b02.size
  simp (disch := first | with_reducible assumption | omega) only [push_cast, x_blk, x_cd, ↓reduceIte, Nat.reduceEqDiff, List.map_cons, List.map_nil, Int.reduceEq, Int.lt_irrefl, kP.pA']
  have hgood := ref15_Good (c1 := c1) (ha.up b02) hf pm hst (h1.up b02) n1
  rw [hD] at hgood
  refine call_of hgood ?_
  rintro v w3 ⟨gG, G, rfl, hgG, kG, b3, hGl, hGk⟩
  have b03 := b02.trans (b3.mono hz2)
  replace kP := kP.below b3 kP.lt
  replace kR := kR.below b3 kR.lt
  simp (disch := first | with_reducible assumption | omega) only [push_cast, x_blk, x_cd, ↓reduceIte, Nat.reduceEqDiff, List.map_cons, List.map_nil, Int.reduceEq, Int.lt_irrefl, kP.pA']
  refine call_of (ref9_Estimate (ha.up b03) hf hm (Ints.nil _ _ none) (by simp)) ?_
  rintro v w4 ⟨A4, c4, rfl, o4, b4⟩
  have b04 := b03.trans (b4.mono b03.size)
  replace kP := kP.below b4 kP.lt
  replace kR := kR.below b4 kR.lt
  have lG := kG.lt
  replace kG := kG.below b4 kG.lt
  have eF : estL p [] = firstP p := rfl
  rw [eF] at o4 ⊢
  have rF := firstP_row hm
  have nF := row_lenV (rF.more hms)
  have rF' : IsRow (firstP p) (st6 : Int) := hst ▸ rF
  have hrow : rowN (vnum (firstP p)) 6 = firstP p := by rw [rowN_k (num_lt rF') h6, row_num rF']
  have hvn : vnum (firstP p) < D := hD ▸ num_lt rF'
  have hkw := hGk _ hvn
  rw [hrow] at hkw
  have hsG : (some (⟨gG, 0, none⟩ : Addr)).isSome = true := rfl
  by_cases hF : firstP p = []
  · have hl0 : ((firstP p).length : Int) = 0 := by rw [hF]; rfl
    have bx := b04
    simp (disch := first | with_reducible assumption | omega) only [push_cast, x_blk, x_cd, ↓reduceIte, Nat.reduceEqDiff, List.map_cons, List.map_nil, Int.reduceEq, Int.lt_irrefl, eq_true hl0, bl_veil0]
    refine sto_blk kR (cs := veil0) (e2_vl none 0 0 none 0 0) rfl rfl ?_
    intro wx kRx gx zx
    have fr := True.intro
    simp (disch := first | with_reducible assumption | omega) only [push_cast, x_blk, x_cd, ↓reduceIte, Nat.reduceEqDiff, List.map_cons, List.map_nil, Int.reduceEq, Int.lt_irrefl, fr]
    exact fin_c2 kRx ty_ag_47 (e2_vl none 0 0 none 0 0) (by simp only [push_cast, ↓reduceIte, Nat.reduceEqDiff, Int.reduceEq]) (hQ _ _ ⟨gx.below bx bx.size (by intro a ha; injection ha with ha; subst ha; exact b1.size), .inl ⟨fun h => h.1 hF, (by simp only [push_cast, ↓reduceIte, Nat.reduceEqDiff, Int.reduceEq])⟩⟩)
  have hl0 : ¬ ((firstP p).length : Int) = 0 := by
    cases hh : firstP p with
    | nil => exact absurd hh hF
    | cons _ _ => simp; omega
  simp (disch := first | with_reducible assumption | omega) only [push_cast, x_blk, x_cd, ↓reduceIte, Nat.reduceEqDiff, List.map_cons, List.map_nil, Int.reduceEq, Int.lt_irrefl, eq_false hl0]
  refine call_of (ref15_number (OwnI.ints o4) (rF.more hms)) ?_
  rintro v w5 ⟨rfl, s5⟩
  have b05 := b04.trans (s5.below _)
  replace kP := kP.same s5
  replace kR := kR.same s5
  replace kG := kG.same s5
  replace o4 := o4.same s5
  have lG2 := fun {K : Fr → World → Prop} {f : Fr} {d : Option Nat} {w' : World} => kG.ld (P := Tryd.prog) (K := K) (f := f) (d := d) (w := w') ty_ag_4 (vnum (firstP p)) (by rw [List.length_map, hGl]; exact hvn)
  have gbd : (G.map Value.bool).getD (vnum (firstP p)) undef = .bool (G.getD (vnum (firstP p)) false) := getD_map _ _ _ _ _ (by rw [hGl]; exact hvn)
  rw [gbd] at lG2
  cases hgw : G.getD (vnum (firstP p)) false
  case false =>
    rw [hgw] at lG2 hkw
    have hnk : ¬ Kp p free (firstP p) := fun h => by have := hkw.2 h; cases this
    have bx := b05
    generalize vnum (firstP p) = nf at *
    simp (disch := first | with_reducible assumption | omega) only [push_cast, x_blk, x_cd, ↓reduceIte, Nat.reduceEqDiff, List.map_cons, List.map_nil, Int.reduceEq, Int.lt_irrefl, hD, hvn, hsG, eA_zero, lG2, bl_veil0]
    refine sto_blk kR (cs := veil0) (e2_vl none 0 0 none 0 0) rfl rfl ?_
    intro wx kRx gx zx
    have fr := True.intro
    simp (disch := first | with_reducible assumption | omega) only [push_cast, x_blk, x_cd, ↓reduceIte, Nat.reduceEqDiff, List.map_cons, List.map_nil, Int.reduceEq, Int.lt_irrefl, fr]
    exact fin_c2 kRx ty_ag_47 (e2_vl none 0 0 none 0 0) (by simp only [push_cast, ↓reduceIte, Nat.reduceEqDiff, Int.reduceEq]) (hQ _ _ ⟨gx.below bx bx.size (by intro a ha; injection ha with ha; subst ha; exact b1.size), .inl ⟨fun h => hnk h.2, (by simp only [push_cast, ↓reduceIte, Nat.reduceEqDiff, Int.reduceEq])⟩⟩)
  rw [hgw] at lG2 hkw
  have hkF := hkw.1 rfl
  clear gbd hgw hkw hrow
  generalize vnum (firstP p) = nf at *
  have oA := own_rec hdEnc w5 (⟨A4, c4, firstP p⟩ : Hd) 22
  have bA : Below w5.heap.size w5 (w5.alloc (.cells (Hd.cells ⟨A4, c4, firstP p⟩).toArray 22)) := (Below.refl _ _).alloc (Nat.le_refl _) _
  simp only [Hd.cells] at oA bA
  simp (disch := first | with_reducible assumption | omega) only [push_cast, x_blk, x_cd, ↓reduceIte, Nat.reduceEqDiff, List.map_cons, List.map_nil, Int.reduceEq, Int.lt_irrefl, hD, hvn, hsG, eA_zero, lG2, bs_44]
  generalize w5.alloc (.cells [.slice A4 (firstP p).length c4].toArray 22) = w6 at *
  have b06 := b05.trans (bA.mono b05.size)
  replace kP := kP.below bA kP.lt
  replace kR := kR.below bA kR.lt
  have lG5 := kG.lt
  replace kG := kG.below bA kG.lt
  have o46 := OwnI.tyb (es := [3]) (B := 0) (o4.below bA (by have := b4.size; omega)) (by decide)
  simp (disch := first | with_reducible assumption | omega) only [push_cast, x_blk, x_cd, ↓reduceIte, Nat.reduceEqDiff, List.map_cons, List.map_nil, Int.reduceEq, Int.lt_irrefl, bl_veil1]
  refine blk_of (cs := veil0) al_47 ?_
  intro w7 kV b7 z7
  have b07 := b06.trans (b7.mono b06.size)
  replace kP := kP.below b7 kP.lt
  replace kR := kR.below b7 kR.lt
  replace kG := kG.below b7 kG.lt
  have oA7 := oA.below b7 (Nat.le_refl _)
  have r7 := o46.keepT (.below b7)
  simp (disch := first | with_reducible assumption | omega) only [push_cast, x_blk, x_cd, ↓reduceIte, Nat.reduceEqDiff, List.map_cons, List.map_nil, Int.reduceEq, Int.lt_irrefl]
  refine sto_blk kV (cs := vlC (some ⟨w5.heap.size, 0, none⟩) 1 1 none 0 0) (e2_vl _ _ _ _ _ _) rfl (vl_one _ _ _ _ _ _) ?_
  intro w8 kV8 g8 z8
  have lGb := kG.lt
  have hzA := bA.size
  have lR6 : w1.heap.size < w2.heap.size := lR
  have hGV : gG < w6.heap.size := by omega
  have kt8 := KeepT.grewB (es := [3]) (B := 0) kV (Nat.zero_le _) (by decide) g8
  have M0 : RMem w a p G w1.heap.size gG w6.heap.size w8 (vIter p free 0) [⟨A4, c4, firstP p⟩] (some ⟨w5.heap.size, 0, none⟩) 1 [] none 0 :=
    { kP := kP.grown g8.by_ (by simp; omega), kR := kR.grown g8.by_ (by simp; omega), kG := kG.grown g8.by_ (by simp; omega), kV := kV8
      oH := (oA7.base (by omega)).grew g8 (.inr ((oA7.ne_blk kV (by decide))))
      oM := Own.nil _ _ _ _
      rH := fun x hx => by rw [List.mem_singleton.1 hx]; exact r7.keepT kt8
      rM := fun x hx => absurd hx (by simp)
      nd := rfl
      ab := rfl
      bel := g8.below b07 b07.size (by intro a ha; injection ha with ha; subst ha; exact b06.size) }
  have q1 : w.heap.size < gG + 1 := by omega
  have q2 : w1.heap.size < gG + 1 := by omega
  generalize hgV : w6.heap.size = gV at *
  clear kP kR kG kV kV8 g8 oA oA7 o46 r7 kt8 b07 b06 b05 b04 b03 bA b7 lG2 o4 s5
  simp (disch := first | with_reducible assumption | omega) only [push_cast, x_blk, x_cd, ↓reduceIte, Nat.reduceEqDiff, List.map_cons, List.map_nil, Int.reduceEq, Int.lt_irrefl]
  refine loop_rule (fun f w' => ∃ (n : Nat) (hs : List Hd) (An : Option Addr) (cn : Nat) (ms : List MvH) (Am : Option Addr) (cm : Nat), n ≤ (vIter p free n).nodes.length ∧
      (f 1 = .slice A1 free.length c1 ∧ f 2 = .pointer (some ⟨w.heap.size, 0, none⟩) ∧ f 4 = .pointer (some ⟨w1.heap.size, 0, none⟩) ∧ f 6 = .slice (some ⟨gG, 0, none⟩) D D ∧ f 8 = .pointer (some ⟨gV, 0, none⟩) ∧ f 9 = .int .i64 n) ∧
      RMem w a p G w1.heap.size gG gV w' (vIter p free n) hs An cn ms Am cm)
    (fun f _ => 65 - (intOf (f 9)).toNat) ⟨0, _, _, _, [], none, 0, Nat.zero_le _, ⟨rfl, rfl, rfl, rfl, rfl, rfl⟩, M0⟩ ?_
  clear M0
  rintro f w20 ⟨n, hs, An, cn, ms, Am, cm, hn, fr, M⟩ J hJ
  have hG := vIter_good (free := free) hm n
  have hl64 := hG.len hms
  have hhl : hs.length = (vIter p free n).nodes.length := by have := congrArg List.length M.nd; simpa using this
  have hz20 := M.bel.size
  have hmu : (intOf (f 9)).toNat = n := by rw [fr.2.2.2.2.2]; simp [intOf]
  by_cases hlt : n < (vIter p free n).nodes.length
  case neg =>
    have hne : (vIter p free n).nodes.length = n := by omega
    have hlt2 : ¬ n < hs.length := by omega
    have kR := M.kR
    simp (disch := first | with_reducible assumption | omega) only [push_cast, x_blk, x_cd, ↓reduceIte, Nat.reduceEqDiff, List.map_cons, List.map_nil, Int.reduceEq, Int.lt_irrefl, L_ref15_Make_2, fr, M.kV.w0 ty_ag_44, hlt2, M.kV.wA]
    refine sto_blk kR (cs := vlC An hs.length cn Am ms.length cm) (e2_vl _ _ _ _ _ _) rfl (vl_one _ _ _ _ _ _) ?_
    intro w21 k21 g21 z21
    have kt := KeepT.grewB (es := [3]) (B := 0) kR (Nat.zero_le _) (by decide) g21
    have oH' := M.oH.grew g21 (.inr (fun h => M.oH.ne_ltV q2 h.symm))
    have oM' := M.oM.grew g21 (.inr (fun h => M.oM.ne_ltV q2 h.symm))
    simp (disch := first | with_reducible assumption | omega) only [push_cast, x_blk, x_cd, ↓reduceIte, Nat.reduceEqDiff, List.map_cons, List.map_nil, Int.reduceEq, Int.lt_irrefl, fr]
    exact fin_c2 k21 ty_ag_47 (e2_vl _ _ _ _ _ _) (by simp only [push_cast, ↓reduceIte, Nat.reduceEqDiff, Int.reduceEq, fr]) (hQ _ _ ⟨g21.below M.bel M.bel.size (by intro a ha; injection ha with ha; subst ha; exact b1.size), .inr ⟨⟨hF, hkF⟩, n, _, hne,
      ⟨An, cn, hs, Am, cm, ms, rfl, Recs.lt hdEnc (by decide) (OwnR.recs oH' hdEnc (by decide)), fun x hx => ((M.rH x hx).keepT kt).tlt, M.nd, Recs.lt mvEnc (by decide) (OwnR.recs oM' mvEnc (by decide)), fun x hx => ((M.rM x hx).keepT kt).tlt, M.ab⟩, (by simp only [push_cast, ↓reduceIte, Nat.reduceEqDiff, Int.reduceEq, fr])⟩⟩)
  have hlt2 : n < hs.length := by omega
  have hNn : (vIter p free n).nodes[n]? = some ((vIter p free n).nodes.getD n []) := by rw [List.getD_eq_getElem?_getD, List.getElem?_eq_getElem hlt]; rfl
  have rN := hG.row _ (List.mem_of_getElem? hNn)
  generalize hN : (vIter p free n).nodes.getD n [] = N at *
  simp (disch := first | with_reducible assumption | omega) only [push_cast, x_blk, x_cd, ↓reduceIte, Nat.reduceEqDiff, List.map_cons, List.map_nil, Int.reduceEq, Int.lt_irrefl, L_ref15_Make_2, fr, M.kV.w0 ty_ag_44, hlt2]
  refine loop_rule (fun f' w' => ∃ (j : Nat) (hs : List Hd) (An : Option Addr) (cn : Nat) (ms : List MvH) (Am : Option Addr) (cm : Nat), j ≤ p.seen.length ∧
      (f' 1 = .slice A1 free.length c1 ∧ f' 2 = .pointer (some ⟨w.heap.size, 0, none⟩) ∧ f' 4 = .pointer (some ⟨w1.heap.size, 0, none⟩) ∧ f' 6 = .slice (some ⟨gG, 0, none⟩) D D ∧ f' 8 = .pointer (some ⟨gV, 0, none⟩) ∧ f' 9 = .int .i64 n ∧ f' 10 = .int .i64 j) ∧
      RMem w a p G w1.heap.size gG gV w' (vPart p free n j) hs An cn ms Am cm)
    (fun f' _ => p.seen.length - (intOf (f' 10)).toNat) ⟨0, hs, An, cn, ms, Am, cm, Nat.zero_le _, (by simp only [push_cast, ↓reduceIte, Nat.reduceEqDiff, true_and, and_true, and_self, eq_self, fr, vPart_zero]), by rw [vPart_zero]; exact M⟩ ?_
  clear M fr hlt2 hhl
  rintro f w25 ⟨j, hs, An, cn, ms, Am, cm, hj, fr, M⟩ J2 hJ2
  obtain ⟨hGp, hpre⟩ := vPart_good (p := p) (free := free) hm n j
  by_cases hjl : j < p.seen.length
  case neg =>
    obtain rfl : j = p.seen.length := by omega
    rw [vPart_all] at M
    have hpre1 := (vIter_pre (p := p) (free := free) (Nat.le_succ n)).2
    simp (disch := first | with_reducible assumption | omega) only [push_cast, x_blk, x_cd, ↓reduceIte, Nat.reduceEqDiff, List.map_cons, List.map_nil, Int.reduceEq, Int.lt_irrefl, L_ref15_Make_1, fr, M.kP.p5, Nat.lt_irrefl]
    exact hJ _ _ ⟨n + 1, hs, An, cn, ms, Am, cm, Nat.le_trans hlt hpre1.length_le, (by simp only [push_cast, ↓reduceIte, Nat.reduceEqDiff, true_and, and_true, and_self, eq_self, fr]), M⟩ (by rw [hmu]; simp only [push_cast, ↓reduceIte, Nat.reduceEqDiff, intOf, fr]; omega)
  have hNp : (vPart p free n j).nodes[n]? = some N := by rw [prefix_getElem? hpre hlt, hNn]
  have hNd : (vPart p free n j).nodes.getD n [] = N := by rw [List.getD_eq_getElem?_getD, hNp]; rfl
  have hlp : n < (vPart p free n j).nodes.length := Nat.lt_of_lt_of_le hlt hpre.length_le
  have hl64p := hGp.len hms
  have hsucc := vPart_succ (p := p) (free := free) n hjl
  have hmvl := vPart_len (p := p) (free := free) n8 n j
  have hIs := (ha.up M.bel).seen
  have sI := hIs.isSome (by omega)
  have hld := fun {K : Fr → World → Prop} {f : Fr} {d : Option Nat} {w : World} => hIs.ld (P := Tryd.prog) (K := K) (f := f) (d := d) (w := w) ty_ag_3 j hjl
  have hem := getD_mem p.seen 0 j hjl
  have hmu2 : (intOf (f 10)).toNat = j := by rw [fr.2.2.2.2.2.2]; simp [intOf]
  generalize p.seen.getD j 0 = e at *
  generalize vPart p free n j = st at *
  have hhl : hs.length = st.nodes.length := by have := congrArg List.length M.nd; simpa using this
  have hmsl : ms.length = st.moves.length := by have := congrArg List.length M.ab; simpa using this
  obtain ⟨h, hh⟩ : ∃ h, hs[n]? = some h := ⟨_, List.getElem?_eq_getElem (by omega)⟩
  have hhN : h.l = N := by
    have h2 : (hs.map (·.l))[n]? = some h.l := by rw [List.getElem?_map, hh]; rfl
    rw [M.nd, hNp] at h2
    exact (Option.some.inj h2).symm
  subst hhN
  have bd : Below w25.heap.size w25 w25.drew := (Same.refl w25).drew.below _
  have Mu := M.below bd
  have kP25 := M.kP
  generalize hu25 : w25.drew = u25 at *
  have hRw := Recs.lt hdEnc (by decide) (OwnR.recs Mu.oH hdEnc (by decide))
  have sH := hRw.isSome (by omega)
  have lh := fun {K : Fr → World → Prop} {f : Fr} {d : Option Nat} {w' : World} => hRw.ld0 (P := Tryd.prog) (K := K) (f := f) (d := d) (w := w') ty_ag_22 hh (v := .slice h.A h.l.length h.c) rfl
  simp only [Nat.mul_one] at lh
  have hnl : n < hs.length := by omega
  have hzu := Mu.bel.size
  have hstay := ref15_Stay (c1 := c1) (c2 := h.c) (ha.up Mu.bel) hf pm hst (h1.up Mu.bel) n1 Mu.kG (by rw [hGl, hD]) (by rw [hD]; exact hGk) (Mu.rH h (List.mem_of_getElem? hh)).tlt rN e
  rw [hD] at hstay
  simp (disch := first | with_reducible assumption | omega) only [push_cast, x_blk, x_cd, ↓reduceIte, Nat.reduceEqDiff, List.map_cons, List.map_nil, Int.reduceEq, Int.lt_irrefl, L_ref15_Make_1, fr, kP25.p5, hjl, sI, hld, hu25, Mu.kP.pA', Mu.kV.w0 ty_ag_44, hnl, sH, lh]
  refine call_of hstay ?_
  rintro v w26 ⟨A26, c26, A27, c27, rfl, o26, i26, b26⟩
  have M26 := Mu.below b26
  have rO := OwnI.tyb (es := [3]) (B := 0) o26 (by decide)
  have rT := toL_row (free := free) hm h.l e
  have nT := row_lenV (rT.more hms)
  have hE : vE p free n st e = if stayL p.m (toL p free h.l e) h.l e = [] then st else ⟨if wideL p.m p.seen (toL p free h.l e) ∈ st.nodes then st.nodes else st.nodes ++ [wideL p.m p.seen (toL p free h.l e)], st.moves ++ [⟨n, e, stayL p.m (toL p free h.l e) h.l e, ixL (wideL p.m p.seen (toL p free h.l e)) st.nodes⟩]⟩ := by unfold vE; rw [hNd]
  rw [hE] at hsucc
  have hz26 := M26.bel.size
  clear hE hstay hRw lh
  generalize toL p free h.l e = T at *
  have rW := wideL_row (seen := p.seen) hm (row_range rT)
  generalize hSt : stayL p.m T h.l e = S at *
  simp (disch := first | with_reducible assumption | omega) only [push_cast, x_blk, x_cd, ↓reduceIte, Nat.reduceEqDiff, List.map_cons, List.map_nil, Int.reduceEq, Int.lt_irrefl, fr]
  refine ⟨b26, ?_⟩
  by_cases hS : S = []
  · rw [if_pos hS] at hsucc
    have hl0 : (S.length : Int) = 0 := by rw [hS]; rfl
    simp (disch := first | with_reducible assumption | omega) only [push_cast, x_blk, x_cd, ↓reduceIte, Nat.reduceEqDiff, List.map_cons, List.map_nil, Int.reduceEq, Int.lt_irrefl, fr, eq_true hl0]
    exact hJ2 _ _ ⟨j + 1, hs, An, cn, ms, Am, cm, hjl, (by simp only [push_cast, ↓reduceIte, Nat.reduceEqDiff, true_and, and_true, and_self, eq_self, fr]), by rw [hsucc]; exact M26⟩ (by rw [hmu2]; simp only [push_cast, ↓reduceIte, Nat.reduceEqDiff, intOf, fr]; omega)
  rw [if_neg hS] at hsucc
  have hl0 : ¬ (S.length : Int) = 0 := by
    cases hh : S with
    | nil => exact absurd hh hS
    | cons _ _ => simp; omega
  have ha26 := ha.up M26.bel
  simp (disch := first | with_reducible assumption | omega) only [push_cast, x_blk, x_cd, ↓reduceIte, Nat.reduceEqDiff, List.map_cons, List.map_nil, Int.reduceEq, Int.lt_irrefl, fr, eq_false hl0, M26.kP.pM, M26.kP.p5]
  refine call_of (ref5_Wide ha26.m hm i26 rT ha26.seen (by omega)) ?_
  rintro v w27 ⟨A28, c28, rfl, o27, b27⟩
  have M27 := M26.below b27
  have rO27 := rO.keepT (.below b27)
  have rW27 := OwnI.tyb (es := [3]) (B := 0) o27 (by decide)
  generalize wideL p.m p.seen T = W at *
  have nW := row_lenV (rW.more hms)
  clear M M26 Mu rO b26 b27 o26 o27 i26 bd
  simp (disch := first | with_reducible assumption | omega) only [push_cast, x_blk, x_cd, ↓reduceIte, Nat.reduceEqDiff, List.map_cons, List.map_nil, Int.reduceEq, Int.lt_irrefl, fr]
  refine loop_rule (fun f' w' => ∃ i : Nat, i ≤ st.nodes.length ∧ (f' 1 = .slice A1 free.length c1 ∧ f' 2 = .pointer (some ⟨w.heap.size, 0, none⟩) ∧ f' 4 = .pointer (some ⟨w1.heap.size, 0, none⟩) ∧ f' 6 = .slice (some ⟨gG, 0, none⟩) D D ∧ f' 8 = .pointer (some ⟨gV, 0, none⟩) ∧ f' 9 = .int .i64 n ∧ f' 10 = .int .i64 j ∧ f' 11 = .int .i64 e ∧ f' 12 = .slice A26 S.length c26 ∧ f' 14 = .slice A28 W.length c28 ∧ f' 15 = .int .i64 i) ∧
      (∀ i', i' < i → st.nodes[i']? ≠ some W) ∧ Same w27 w')
    (fun f' _ => st.nodes.length - (intOf (f' 15)).toNat) ⟨0, Nat.zero_le _, (by simp only [push_cast, ↓reduceIte, Nat.reduceEqDiff, true_and, and_true, and_self, eq_self, fr]), fun i' hi' => absurd hi' (by omega), Same.refl _⟩ ?_
  clear fr
  rintro f w28 ⟨i, hi, fr, hno, s28⟩ J3 hJ3
  have b28 := s28.below w27.heap.size
  have M28 := M27.below b28
  have rO28 := rO27.keepT (.below b28)
  have rW28 := rW27.keepT (.below b28)
  by_cases hil : i < st.nodes.length
  case pos =>
    have hil2 : i < hs.length := by omega
    obtain ⟨x, hx⟩ : ∃ x, hs[i]? = some x := ⟨_, List.getElem?_eq_getElem hil2⟩
    have hxl : st.nodes[i]? = some x.l := by rw [← M28.nd, List.getElem?_map, hx]; rfl
    have hRw := Recs.lt hdEnc (by decide) (OwnR.recs M28.oH hdEnc (by decide))
    have sH2 := hRw.isSome (by omega)
    have lx := fun {K : Fr → World → Prop} {f : Fr} {d : Option Nat} {w' : World} => hRw.ld0 (P := Tryd.prog) (K := K) (f := f) (d := d) (w := w') ty_ag_22 hx (v := .slice x.A x.l.length x.c) rfl
    simp only [Nat.mul_one] at lx
    have rx := hGp.row x.l (List.mem_of_getElem? hxl)
    have nx := row_lenV (rx.more hms)
    have hmu3 : (intOf (f 15)).toNat = i := by rw [fr.2.2.2.2.2.2.2.2.2.2]; simp [intOf]
    simp (disch := first | with_reducible assumption | omega) only [push_cast, x_blk, x_cd, ↓reduceIte, Nat.reduceEqDiff, List.map_cons, List.map_nil, Int.reduceEq, Int.lt_irrefl, L_ref15_Make_0, fr, M28.kV.w0 ty_ag_44, hil2, sH2, lx]
    refine call_of (ref1_Same (M28.rH x (List.mem_of_getElem? hx)) rW28 x.c c28 (by omega)) ?_
    rintro v w29 ⟨rfl, s29⟩
    by_cases hxW : x.l = W
    · have b29 := s29.below w28.heap.size
      have hix : ixL W st.nodes = i := ixL_first (by rw [hxl, hxW]) hno
      have hWm : W ∈ st.nodes := by rw [← hxW]; exact List.mem_of_getElem? hxl
      rw [hix, if_pos hWm] at hsucc
      have M41 := M28.below b29
      have rO41 := rO28.keepT (.below b29)
      have hni : ¬ (i : Int) = (hs.length : Int) := by omega
      clear M28
      generalize hs = hsx at *
      generalize An = Anx at *
      generalize cn = cnx at *
      simp (disch := first | with_reducible assumption | omega) only [push_cast, x_blk, x_cd, ↓reduceIte, Nat.reduceEqDiff, List.map_cons, List.map_nil, Int.reduceEq, Int.lt_irrefl, fr, decide_eq_true hxW, M41.kV.w0 ty_ag_44, eq_false hni, M41.kV.w1 ty_ag_45, bl_mv4, bs_rec mvEnc slT_45 _ (by decide)]
      refine app_rec mvEnc slT_45 M41.oM ⟨n, e, A26, c26, S, (i : Nat)⟩ (by omega) (by omega) (by have := M41.kV.lt; omega) ?_
      intro A42 c42 w42 o42 g42 hA42 hs42 z42
      have kV42 := M41.kV.grown g42.by_ (M41.oM.ne_blk M41.kV (by decide)).symm
      simp (disch := first | with_reducible assumption | omega) only [push_cast, x_blk, x_cd, ↓reduceIte, Nat.reduceEqDiff, List.map_cons, List.map_nil, Int.reduceEq, Int.lt_irrefl, fr]
      refine sto_slice kV42 (by kernel_rfl) 1 (by simp) A42 _ c42 ?_
      intro w43 k43 g43 z43
      have e43 : (vlC Anx hsx.length cnx Am ms.length cm).set 1 (.slice A42 (ms.length + 1) c42) = vlC Anx hsx.length cnx A42 (ms ++ [(⟨n, e, A26, c26, S, (i : Nat)⟩ : MvH)]).length c42 := by rw [List.length_append]; rfl
      rw [e43] at k43
      have M43 := M41.move (st' := ⟨st.nodes, st.moves ++ [⟨n, e, S, i⟩]⟩) q1 q2 (by omega) rO41 rfl (by rw [List.map_append]; rfl) o42 g42 k43 g43
      simp (disch := first | with_reducible assumption | omega) only [push_cast, x_blk, x_cd, ↓reduceIte, Nat.reduceEqDiff, List.map_cons, List.map_nil, Int.reduceEq, Int.lt_irrefl, fr]
      exact hJ2 _ _ ⟨j + 1, hsx, Anx, cnx, ms ++ [⟨n, e, A26, c26, S, (i : Nat)⟩], A42, c42, hjl, (by simp only [push_cast, ↓reduceIte, Nat.reduceEqDiff, true_and, and_true, and_self, eq_self, fr]), by rw [hsucc]; exact M43⟩ (by rw [hmu2]; simp only [push_cast, ↓reduceIte, Nat.reduceEqDiff, intOf, fr]; omega)
    · simp (disch := first | with_reducible assumption | omega) only [push_cast, x_blk, x_cd, ↓reduceIte, Nat.reduceEqDiff, List.map_cons, List.map_nil, Int.reduceEq, Int.lt_irrefl, fr, decide_eq_false hxW]
      exact hJ3 _ _ ⟨i + 1, hil, (by simp only [push_cast, ↓reduceIte, Nat.reduceEqDiff, true_and, and_true, and_self, eq_self, fr]), fun i' hi' => by
        by_cases c : i' = i
        · subst c; rw [hxl]; intro hh; injection hh with hh; exact hxW hh
        · exact hno i' (by omega), s28.trans s29⟩ (by rw [hmu3]; simp only [push_cast, ↓reduceIte, Nat.reduceEqDiff, intOf, fr]; omega)
  obtain rfl : i = st.nodes.length := by omega
  have hni : (st.nodes.length : Int) = (hs.length : Int) := by omega
  have hnil : ¬ st.nodes.length < hs.length := by omega
  have hWn : W ∉ st.nodes := fun hm => by
    obtain ⟨i', hi'⟩ := List.mem_iff_getElem?.1 hm
    exact hno i' (List.getElem?_eq_some_iff.1 hi').1 hi'
  have hix := ixL_none hWn
  rw [hix, if_neg hWn] at hsucc
  simp (disch := first | with_reducible assumption | omega) only [push_cast, x_blk, x_cd, ↓reduceIte, Nat.reduceEqDiff, List.map_cons, List.map_nil, Int.reduceEq, Int.lt_irrefl, L_ref15_Make_0, fr, M28.kV.w0 ty_ag_44, hnil, eq_true hni, bs_44]
  refine app_rec hdEnc slT_44 M28.oH ⟨A28, c28, W⟩ (by omega) (by omega) (by have := M28.kV.lt; omega) ?_
  intro Anx cnx w33 o33 g33 hA33 hs33 z33
  have kV33 := M28.kV.grown g33.by_ (M28.oH.ne_blk M28.kV (by decide)).symm
  simp (disch := first | with_reducible assumption | omega) only [push_cast, x_blk, x_cd, ↓reduceIte, Nat.reduceEqDiff, List.map_cons, List.map_nil, Int.reduceEq, Int.lt_irrefl, fr]
  refine sto_slice kV33 (by kernel_rfl) 0 (by simp) Anx _ cnx ?_
  intro w34 k34 g34 z34
  have e34 : (vlC An hs.length cn Am ms.length cm).set 0 (.slice Anx (hs.length + 1) cnx) = vlC Anx (hs ++ [(⟨A28, c28, W⟩ : Hd)]).length cnx Am ms.length cm := by rw [List.length_append]; rfl
  rw [e34] at k34
  have M41 := M28.row q1 q2 (by omega) rW28 o33 g33 k34 g34
  have rO41 := (rO28.keepT (KeepT.grew (es := [3]) M28.oH (Nat.zero_le _) (by decide) g33)).keepT (KeepT.grewB kV33 (Nat.zero_le _) (by decide) g34)
  generalize hs ++ [(⟨A28, c28, W⟩ : Hd)] = hsx at *
  generalize hil : st.nodes.length = i at *
  simp (disch := first | with_reducible assumption | omega) only [push_cast, x_blk, x_cd, ↓reduceIte, Nat.reduceEqDiff, List.map_cons, List.map_nil, Int.reduceEq, Int.lt_irrefl, fr, M41.kV.w1 ty_ag_45, bl_mv4, bs_rec mvEnc slT_45 _ (by decide)]
  refine app_rec mvEnc slT_45 M41.oM ⟨n, e, A26, c26, S, (i : Nat)⟩ (by omega) (by omega) (by have := M41.kV.lt; omega) ?_
  intro A42 c42 w42 o42 g42 hA42 hs42 z42
  have kV42 := M41.kV.grown g42.by_ (M41.oM.ne_blk M41.kV (by decide)).symm
  simp (disch := first | with_reducible assumption | omega) only [push_cast, x_blk, x_cd, ↓reduceIte, Nat.reduceEqDiff, List.map_cons, List.map_nil, Int.reduceEq, Int.lt_irrefl, fr]
  refine sto_slice kV42 (by kernel_rfl) 1 (by simp) A42 _ c42 ?_
  intro w43 k43 g43 z43
  have e43 : (vlC Anx hsx.length cnx Am ms.length cm).set 1 (.slice A42 (ms.length + 1) c42) = vlC Anx hsx.length cnx A42 (ms ++ [(⟨n, e, A26, c26, S, (i : Nat)⟩ : MvH)]).length c42 := by rw [List.length_append]; rfl
  rw [e43] at k43
  have M43 := M41.move (st' := ⟨st.nodes ++ [W], st.moves ++ [⟨n, e, S, i⟩]⟩) q1 q2 (by omega) rO41 rfl (by rw [List.map_append]; rfl) o42 g42 k43 g43
  simp (disch := first | with_reducible assumption | omega) only [push_cast, x_blk, x_cd, ↓reduceIte, Nat.reduceEqDiff, List.map_cons, List.map_nil, Int.reduceEq, Int.lt_irrefl, fr]
  exact hJ2 _ _ ⟨j + 1, hsx, Anx, cnx, ms ++ [⟨n, e, A26, c26, S, (i : Nat)⟩], A42, c42, hjl, (by simp only [push_cast, ↓reduceIte, Nat.reduceEqDiff, true_and, and_true, and_self, eq_self, fr]), by rw [hsucc]; exact M43⟩ (by rw [hmu2]; simp only [push_cast, ↓reduceIte, Nat.reduceEqDiff, intOf, fr]; omega)
end Go.Proofs.YtcjedgiglimipaaDoor

/-
  Chapter 15: the law VeilMakes: by its contract.
-/
namespace Go.Proofs.YtcjedgiglimipaaDoor
set_option linter.unusedSimpArgs false
set_option linter.unusedVariables false
set_option linter.unusedSectionVars false
open Go.RowKit

theorem only_nilV {l m : List Int} : onlyL l m false = [] ↔ AllIn l m := by
  unfold onlyL AllIn
  rw [List.filter_eq_nil_iff]
  simp
def VeiledP (p : Plt) (free : List Int) : Prop := (p.May ∧ IsRow free p.m.events) ∧ VeilOkP p free
theorem law_veiled {w : World} {a : PV} {p : Plt} (ha : IsP (· < w.heap.size) w a p) (hf : p.Fits) {A1 : Option Addr} {c1 : Nat} {free : List Int} (h1 : Ints (· < w.heap.size) w A1 free) (n1 : free.length ≤ 17592186043904) :
    Cal Tryd.prog 32 [a.val p, .slice A1 free.length c1] w fun v w' => (∃ b : Bool, v = .bool b ∧ (b = true ↔ VeiledP p free)) ∧ Below w.heap.size w w' := by
  refine cal_law_veiled (by simp) 100000 fun Q hQ => ?_
  simp (disch := first | with_reducible assumption | omega) only [push_cast, x_blk, x_cd, ↓reduceIte, Nat.reduceEqDiff, List.map_cons, List.map_nil, Int.reduceEq, Int.lt_irrefl, F_law_veiled]
  refine blk_of (box_agg _ (a.cells p)) ?_
  intro w1 k1 b1 z1
  simp (disch := first | with_reducible assumption | omega) only [push_cast, x_blk, x_cd, ↓reduceIte, Nat.reduceEqDiff, List.map_cons, List.map_nil, Int.reduceEq, Int.lt_irrefl, k1.pA']
  refine call_of (ref9_May (ha.up b1) hf) ?_
  rintro v w2 ⟨rfl, b2⟩
  have bb2 := b1.trans (b2.mono b1.size)
  replace k1 := k1.below b2 k1.lt
  by_cases pm : p.May
  case neg =>
    simp (disch := first | with_reducible assumption | omega) only [push_cast, x_blk, x_cd, ↓reduceIte, Nat.reduceEqDiff, List.map_cons, List.map_nil, Int.reduceEq, Int.lt_irrefl, decide_eq_false pm]
    exact fin_1 (hQ _ _ ⟨⟨false, (by simp only [push_cast, ↓reduceIte, Nat.reduceEqDiff, Int.reduceEq]), ⟨fun h => (by cases h), fun h => absurd h.1.1 pm⟩⟩, bb2⟩)
  simp (disch := first | with_reducible assumption | omega) only [push_cast, x_blk, x_cd, ↓reduceIte, Nat.reduceEqDiff, List.map_cons, List.map_nil, Int.reduceEq, Int.lt_irrefl, decide_eq_true pm, k1.p1]
  refine call_of (ref1_Is (h1.up bb2) c1 p.m.events (by omega)) ?_
  rintro v w3 ⟨rfl, s3⟩
  have bb3 := bb2.trans (s3.below _)
  replace k1 := k1.same s3
  by_cases pr : IsRow free p.m.events
  case neg =>
    simp (disch := first | with_reducible assumption | omega) only [push_cast, x_blk, x_cd, ↓reduceIte, Nat.reduceEqDiff, List.map_cons, List.map_nil, Int.reduceEq, Int.lt_irrefl, decide_eq_false pr]
    exact fin_1 (hQ _ _ ⟨⟨false, (by simp only [push_cast, ↓reduceIte, Nat.reduceEqDiff, Int.reduceEq]), ⟨fun h => (by cases h), fun h => absurd h.1.2 pr⟩⟩, bb3⟩)
  simp (disch := first | with_reducible assumption | omega) only [push_cast, x_blk, x_cd, ↓reduceIte, Nat.reduceEqDiff, List.map_cons, List.map_nil, Int.reduceEq, Int.lt_irrefl, decide_eq_true pr, k1.pA']
  refine call_of (ref15_Plain2 (ha.up bb3) hf pm.1) ?_
  rintro v w4 ⟨⟨bp, rfl, hbp⟩, b4⟩
  have bb4 := bb3.trans (b4.mono bb3.size)
  replace k1 := k1.below b4 k1.lt
  cases bp with
  | false =>
    simp (disch := first | with_reducible assumption | omega) only [push_cast, x_blk, x_cd, ↓reduceIte, Nat.reduceEqDiff, List.map_cons, List.map_nil, Int.reduceEq, Int.lt_irrefl]
    exact fin_1 (hQ _ _ ⟨⟨false, (by simp only [push_cast, ↓reduceIte, Nat.reduceEqDiff, Int.reduceEq]), ⟨fun h => (by cases h), fun h => by have := hbp.2 h.2.2; cases this⟩⟩, bb4⟩)
  | true =>
  have hpl := hbp.1 rfl
  simp (disch := first | with_reducible assumption | omega) only [push_cast, x_blk, x_cd, ↓reduceIte, Nat.reduceEqDiff, List.map_cons, List.map_nil, Int.reduceEq, Int.lt_irrefl, k1.p5]
  refine call_of (ref1_Only (h1.up bb4) (ha.up bb4).seen c1 a.cp false n1 (by have := hf.lenP; omega)) ?_
  rintro v w5 ⟨A5, c5, rfl, o5, b5⟩
  have hiff : ((onlyL free p.seen false).length : Int) = 0 ↔ AllIn free p.seen := by
    rw [← only_nilV]
    constructor
    · intro h; exact List.eq_nil_of_length_eq_zero (by omega)
    · intro h; rw [h]; rfl
  simp (disch := first | with_reducible assumption | omega) only [push_cast, x_blk, x_cd, ↓reduceIte, Nat.reduceEqDiff, List.map_cons, List.map_nil, Int.reduceEq, Int.lt_irrefl]
  exact fin_1 (hQ _ _ ⟨⟨decide (((onlyL free p.seen false).length : Int) = 0), (by simp only [push_cast, ↓reduceIte, Nat.reduceEqDiff, Int.reduceEq]), by
    rw [decide_eq_true_iff, hiff]
    exact ⟨fun h => ⟨⟨pm, pr⟩, h, hpl⟩, fun h => h.2.1⟩⟩, bb4.trans (b5.mono bb4.size)⟩)
def VRd (w : World) (An : Option Addr) (hs : List Hd) (Am : Option Addr) (ms : List MvH) (st : VS) : Prop :=
  Recs Hd.cells 1 (· < w.heap.size) w An hs ∧ RowsAt (· < w.heap.size) w hs ∧ hs.map (·.l) = st.nodes ∧ Recs MvH.cells 4 (· < w.heap.size) w Am ms ∧ (∀ x ∈ ms, Ints (· < w.heap.size) w x.A x.st) ∧ ms.map MvH.abs = st.moves.map Mv.abs
theorem VRd.below {w w' : World} {An : Option Addr} {hs : List Hd} {Am : Option Addr} {ms : List MvH} {st : VS} (h : VRd w An hs Am ms st) (b : Below w.heap.size w w') : VRd w' An hs Am ms st := by
  obtain ⟨r1, r2, r3, r4, r5, r6⟩ := h
  have up : ∀ k, k < w.heap.size → w'.heap[k]? = w.heap[k]? ∧ k < w'.heap.size := fun k hk => ⟨b.block k hk, Nat.lt_of_lt_of_le hk b.size⟩
  exact ⟨r1.keep' up, fun x hx => (r2 x hx).keep' up, r3, r4.keep' up, fun x hx => (r5 x hx).keep' up, r6⟩
theorem VeilAt.rd {w : World} {v : Value} {st : VS} (h : VeilAt w v st) : ∃ (An : Option Addr) (cn : Nat) (hs : List Hd) (Am : Option Addr) (cm : Nat) (ms : List MvH), v = .agg (vlC An hs.length cn Am ms.length cm).toArray ∧ VRd w An hs Am ms st := h
theorem VeilAt.below {w w' : World} {v : Value} {st : VS} (h : VeilAt w v st) (b : Below w.heap.size w w') : VeilAt w' v st := by
  obtain ⟨An, cn, hs, Am, cm, ms, e, r1, r2, r3, r4, r5, r6⟩ := h
  have up : ∀ k, k < w.heap.size → w'.heap[k]? = w.heap[k]? ∧ k < w'.heap.size := fun k hk => ⟨b.block k hk, Nat.lt_of_lt_of_le hk b.size⟩
  exact ⟨An, cn, hs, Am, cm, ms, e, r1.keep' up, fun x hx => (r2 x hx).keep' up, r3, r4.keep' up, fun x hx => (r5 x hx).keep' up, r6⟩
theorem VeilAt.zero (w : World) : VeilAt w (.agg veil0.toArray) ⟨[], []⟩ := ⟨none, 0, [], none, 0, [], rfl, Recs.nil _ _ _, fun x hx => absurd hx (by simp), rfl, Recs.nil _ _ _, fun x hx => absurd hx (by simp), rfl⟩
/-- What a maker of a veil answers of a plain plant. -/
def VOut (p : Plt) (free : List Int) (is : Bool) (st : VS) : Prop :=
  (¬ (firstP p ≠ [] ∧ Kp p free (firstP p)) ∧ is = false ∧ st = ⟨[], []⟩) ∨ ((firstP p ≠ [] ∧ Kp p free (firstP p)) ∧ is = true ∧ ∃ k, (vIter p free k).nodes.length = k ∧ st = vIter p free k)
theorem VOut.same {p : Plt} {free : List Int} {is is' : Bool} {st st' : VS} (h : VOut p free is st) (h' : VOut p free is' st') : is = is' ∧ st = st' := by
  rcases h with ⟨h1, rfl, rfl⟩ | ⟨h1, rfl, k, hk, rfl⟩ <;> rcases h' with ⟨g1, rfl, rfl⟩ | ⟨g1, rfl, k', hk', rfl⟩
  · exact ⟨rfl, rfl⟩
  · exact absurd g1 h1
  · exact absurd h1 g1
  · exact ⟨rfl, vIter_same hk hk'⟩
theorem vE_stay {p : Plt} {free : List Int} (hm : p.m.May) {k : Nat} {st : VS} (hG : VGood p st) (h : ∀ mv ∈ st.moves, (mv.stay.length : Int) ≤ p.m.states) (e : Int) : ∀ mv ∈ (vE p free k st e).moves, (mv.stay.length : Int) ≤ p.m.states := by
  unfold vE
  split
  · exact h
  · rename_i hne
    intro mv hmv
    rcases List.mem_append.1 hmv with hmv | hmv
    · exact h mv hmv
    · rw [List.mem_singleton.1 hmv]
      dsimp only
      have h1 := stayL_len p.m (toL p free (st.nodes.getD k []) e) (st.nodes.getD k []) e
      by_cases hk : k < st.nodes.length
      · have := row_lenV (hG.row _ (getD_mem st.nodes [] k hk))
        have := hm.1
        omega
      · have : st.nodes.getD k [] = [] := by rw [List.getD_eq_getElem?_getD, List.getElem?_eq_none (by omega)]; rfl
        rw [this] at hne
        exact absurd (by simp [stayL]) hne
theorem vFold_stay {p : Plt} {free : List Int} (hm : p.m.May) (k : Nat) : ∀ (es : List Int) {st : VS}, VGood p st → (∀ mv ∈ st.moves, (mv.stay.length : Int) ≤ p.m.states) → ∀ mv ∈ (es.foldl (vE p free k) st).moves, (mv.stay.length : Int) ≤ p.m.states
  | [], _, _, h => h
  | e :: es, st, hG, h => vFold_stay hm k es (hG.step hm k e) (vE_stay hm hG h e)
theorem vIter_stay {p : Plt} {free : List Int} (hm : p.m.May) : ∀ k, ∀ mv ∈ (vIter p free k).moves, (mv.stay.length : Int) ≤ p.m.states
  | 0 => fun mv hmv => by simp [vIter] at hmv
  | k + 1 => vFold_stay hm k p.seen (vIter_good hm k) (vIter_stay hm k)
theorem VOut.len {p : Plt} {free : List Int} (pm : p.May) {is : Bool} {st : VS} (h : VOut p free is st) : st.nodes.length ≤ 64 ∧ st.moves.length ≤ 512 ∧ (∀ l ∈ st.nodes, l.length ≤ 256) ∧ ∀ m ∈ st.moves.map Mv.abs, m.2.2.1.length ≤ 9223372036854775807 := by
  rcases h with ⟨_, _, rfl⟩ | ⟨_, _, k, hk, rfl⟩
  · simp
  · have n8 : p.seen.length ≤ 8 := by have := row_lenV pm.2.2.1; have := pm.1.2.2.2.1; omega
    have h1 := (vIter_good (free := free) pm.1 k).len pm.2.1
    have h2 := vIter_len (p := p) (free := free) n8 k
    refine ⟨h1, by omega, fun l hl => ?_, fun m hm => ?_⟩
    · have := row_lenV ((vIter_good (free := free) pm.1 k).row l hl)
      have := pm.2.1
      omega
    · obtain ⟨mv, hmv, rfl⟩ := List.mem_map.1 hm
      have h3 := vIter_stay (p := p) (free := free) pm.1 k mv hmv
      have := pm.2.1
      show mv.stay.length ≤ _
      omega
theorem VMakeRes.out {p : Plt} {free : List Int} {w w' : World} {v : Value} (h : VMakeRes p free w v w') (hv : VeiledP p free) : Below w.heap.size w w' ∧ ∃ (V : Value) (is : Bool) (st : VS), v = .tuple #[V, .bool is, .int .i64 0] ∧ VeilAt w' V st ∧ VOut p free is st := by
  obtain ⟨b, h⟩ := h
  refine ⟨b, ?_⟩
  rcases h with ⟨h1, _⟩ | ⟨_, h2, _⟩ | ⟨_, _, h3, rfl⟩ | ⟨_, _, h3, k, V, h4, h5, rfl⟩
  · exact absurd hv.1 h1
  · exact absurd hv.2 h2
  · exact ⟨_, false, _, rfl, VeilAt.zero w', .inl ⟨h3, rfl, rfl⟩⟩
  · exact ⟨V, true, _, rfl, h5, .inr ⟨h3, rfl, k, h4, rfl⟩⟩
theorem RMakeRes.out {p : Plt} {free : List Int} {w w' : World} {v : Value} (h : RMakeRes p free w v w') : Below w.heap.size w w' ∧ ∃ (V : Value) (is : Bool) (st : VS), v = .tuple #[V, .bool is] ∧ VeilAt w' V st ∧ VOut p free is st := by
  obtain ⟨b, h⟩ := h
  refine ⟨b, ?_⟩
  rcases h with ⟨h3, rfl⟩ | ⟨h3, k, V, h4, h5, rfl⟩
  · exact ⟨_, false, _, rfl, VeilAt.zero w', .inl ⟨h3, rfl, rfl⟩⟩
  · exact ⟨V, true, _, rfl, h5, .inr ⟨h3, rfl, k, h4, rfl⟩⟩
end Go.Proofs.YtcjedgiglimipaaDoor

/-
  Chapter 15's reference: Move, Lets: by their contracts.
-/
namespace Go.Proofs.YtcjedgiglimipaaDoor
set_option linter.unusedSimpArgs false
set_option linter.unusedVariables false
set_option linter.unusedSectionVars false
open Go.RowKit

def MvIs (n : Nat) (e : Int) (mv : Mv) : Prop := mv.node = n ∧ mv.evt = e
instance (n : Nat) (e : Int) (mv : Mv) : Decidable (MvIs n e mv) := inferInstanceAs (Decidable (_ ∧ _))
theorem mvFind_first {n : Nat} {e : Int} : ∀ {ms : List Mv} {i : Nat} {mv : Mv}, (∀ i' m', i' < i → ms[i']? = some m' → ¬ MvIs n e m') → ms[i]? = some mv → MvIs n e mv → mvFind ms n e = some mv
  | [], i, mv, _, h, _ => by simp at h
  | m :: ms, 0, mv, _, h, hm => by
    simp only [List.getElem?_cons_zero, Option.some.injEq] at h
    subst h
    unfold mvFind
    rw [List.find?_cons_of_pos]
    simp only [Bool.and_eq_true, decide_eq_true_eq]
    exact hm
  | m :: ms, i + 1, mv, hno, h, hm => by
    have h0 := hno 0 m (by omega) rfl
    have ih := mvFind_first (ms := ms) (i := i) (mv := mv) (fun i' m' hi' hm' => hno (i' + 1) m' (by omega) (by simpa using hm')) (by simpa using h) hm
    unfold mvFind at ih ⊢
    rw [List.find?_cons_of_neg]
    · exact ih
    · simp only [Bool.and_eq_true, decide_eq_true_eq]; exact h0
theorem mvFind_no {n : Nat} {e : Int} {ms : List Mv} (hno : ∀ (i' : Nat) (m' : Mv), ms[i']? = some m' → ¬ MvIs n e m') : mvFind ms n e = none := by
  unfold mvFind
  refine List.find?_eq_none.2 fun mv hmv => ?_
  simp only [Bool.and_eq_true, decide_eq_true_eq]
  obtain ⟨i, hi⟩ := List.mem_iff_getElem?.1 hmv
  exact hno i mv hi
theorem mv_at {ms : List MvH} {mvs : List Mv} (h : ms.map MvH.abs = mvs.map Mv.abs) {i : Nat} {x : MvH} (hx : ms[i]? = some x) : ∃ mv, mvs[i]? = some mv ∧ x.abs = mv.abs := by
  have e1 : (ms.map MvH.abs)[i]? = some x.abs := by rw [List.getElem?_map, hx]; rfl
  rw [h, List.getElem?_map] at e1
  cases hm : mvs[i]? with
  | none => rw [hm] at e1; cases e1
  | some mv => rw [hm] at e1; exact ⟨mv, rfl, (Option.some.inj e1).symm⟩
theorem bl_mv0 {K : Fr → World → Prop} {u : World} {f : Fr} {d : Option Nat} {w : World} : Val1 Tryd.prog K (Instr.build 56 #[]) u f d w = K (updO f d (.agg (MvH.cells ⟨0, 0, none, 0, [], 0⟩).toArray)) w := bld_of (by kernel_rfl)
def MoveOut (ms : List MvH) (mv : Option Mv) (v : Value) : Prop := match mv with
  | some mv => ∃ x ∈ ms, x.abs = mv.abs ∧ v = .tuple #[.agg x.cells.toArray, .bool true]
  | none => v = .tuple #[.agg (MvH.cells ⟨0, 0, none, 0, [], 0⟩).toArray, .bool false]
theorem ref15_Move {w : World} {An : Option Addr} {cn : Nat} {hs : List Hd} {Am : Option Addr} {cm : Nat} {ms : List MvH} {st : VS} (rV : VRd w An hs Am ms st) (n : Nat) (e : Int) (nM : ms.length ≤ 100000) :
    Cal Tryd.prog 79 [.agg (vlC An hs.length cn Am ms.length cm).toArray, .int .i64 n, .int .i64 e] w fun v w' => MoveOut ms (mvFind st.moves n e) v ∧ Below w.heap.size w w' := by
  refine cal_ref15_Move (by simp) 100000 fun Q hQ => ?_
  simp (disch := first | with_reducible assumption | omega) only [push_cast, x_blk, x_cd, ↓reduceIte, Nat.reduceEqDiff, List.map_cons, List.map_nil, Int.reduceEq, Int.lt_irrefl, F_ref15_Move]
  refine blk_of (box_agg _ (vlC An hs.length cn Am ms.length cm)) ?_
  intro w1 k1 b1 z1
  simp (disch := first | with_reducible assumption | omega) only [push_cast, x_blk, x_cd, ↓reduceIte, Nat.reduceEqDiff, List.map_cons, List.map_nil, Int.reduceEq, Int.lt_irrefl]
  refine blk_of (cs := MvH.cells ⟨0, 0, none, 0, [], 0⟩) al_56 ?_
  intro w2 k2 b2 z2
  have b02 := b1.trans (b2.mono b1.size)
  replace k1 := k1.below b2 k1.lt
  have l1 := k1.lt
  have l2 := k2.lt
  have rV2 := rV.below b02
  have hR := rV2.2.2.2.1
  have hab := rV2.2.2.2.2.2
  simp (disch := first | with_reducible assumption | omega) only [push_cast, x_blk, x_cd, ↓reduceIte, Nat.reduceEqDiff, List.map_cons, List.map_nil, Int.reduceEq, Int.lt_irrefl]
  refine loop_rule (fun f w' => ∃ i : Nat, i ≤ ms.length ∧ (f 1 = .int .i64 n ∧ f 2 = .int .i64 e ∧ f 3 = .pointer (some ⟨w.heap.size, 0, none⟩) ∧ f 6 = .pointer (some ⟨w1.heap.size, 0, none⟩) ∧ f 8 = .int .i64 i) ∧ (∀ i' m', i' < i → st.moves[i']? = some m' → ¬ MvIs n e m') ∧ w' = w2)
    (fun f _ => ms.length - (intOf (f 8)).toNat) ⟨0, Nat.zero_le _, ⟨rfl, rfl, rfl, rfl, rfl⟩, fun i' m' hi' => absurd hi' (by omega), rfl⟩ ?_
  rintro f w3 ⟨i, hi, fr, hno, rfl⟩ J hJ
  have hmu : (intOf (f 8)).toNat = i := by rw [fr.2.2.2.2]; simp [intOf]
  have hml : ms.length = st.moves.length := by have := congrArg List.length hab; simpa using this
  by_cases hil : i < ms.length
  case neg =>
    obtain rfl : i = ms.length := by omega
    have hnone : mvFind st.moves n e = none := mvFind_no fun i' m' hm' => hno i' m' (by have := (List.getElem?_eq_some_iff.1 hm').1; omega) hm'
    simp (disch := first | with_reducible assumption | omega) only [push_cast, x_blk, x_cd, ↓reduceIte, Nat.reduceEqDiff, List.map_cons, List.map_nil, Int.reduceEq, Int.lt_irrefl, L_ref15_Move_0, fr, k1.w1 ty_ag_45, Nat.lt_irrefl, bl_mv0]
    refine sto_blk k2 (cs := MvH.cells ⟨0, 0, none, 0, [], 0⟩) (e4_mv _) rfl (mv_one _) ?_
    intro w4 k4 g4 z4
    simp (disch := first | with_reducible assumption | omega) only [push_cast, x_blk, x_cd, ↓reduceIte, Nat.reduceEqDiff, List.map_cons, List.map_nil, Int.reduceEq, Int.lt_irrefl, fr]
    exact fin_c2 k4 ty_ag_56 (e4_mv _) (by simp only [push_cast, ↓reduceIte, Nat.reduceEqDiff, Int.reduceEq, fr]) (hQ _ _ ⟨by rw [hnone]; exact (by simp only [push_cast, ↓reduceIte, Nat.reduceEqDiff, Int.reduceEq, fr, MoveOut]), g4.below b02 b02.size (by intro a ha; injection ha with ha; subst ha; exact b1.size)⟩)
  obtain ⟨x, hx⟩ : ∃ x, ms[i]? = some x := ⟨_, List.getElem?_eq_getElem hil⟩
  obtain ⟨mv, hmv, hxm⟩ := mv_at hab hx
  have hx1 : x.n = (mv.node : Int) := congrArg (·.1) hxm
  have hx2 : x.e = mv.evt := congrArg (·.2.1) hxm
  have sA := hR.isSome (by omega)
  have ld0 := fun {K : Fr → World → Prop} {f : Fr} {d : Option Nat} {w' : World} => hR.ld (P := Tryd.prog) (K := K) (f := f) (d := d) (w := w') ty_ag_3 hx (j := 0) (v := .int .i64 x.n) rfl
  have ld1 := fun {K : Fr → World → Prop} {f : Fr} {d : Option Nat} {w' : World} => hR.ld (P := Tryd.prog) (K := K) (f := f) (d := d) (w := w') ty_ag_3 hx (j := 1) (v := .int .i64 x.e) rfl
  have ldw := fun {K : Fr → World → Prop} {f : Fr} {d : Option Nat} {w' : World} => hR.ldAll (P := Tryd.prog) (K := K) (f := f) (d := d) (w := w') mvEnc ty_ag_56 hx ty_sz_56
  have hnext : ¬ MvIs n e mv → ∀ i' m', i' < i + 1 → st.moves[i']? = some m' → ¬ MvIs n e m' := fun hn i' m' hi' hm' => by
    by_cases c : i' = i
    · subst c; rw [hmv] at hm'; injection hm' with hm'; subst hm'; exact hn
    · exact hno i' m' (by omega) hm'
  by_cases q1 : x.n = (n : Int)
  case neg =>
    simp (disch := first | with_reducible assumption | omega) only [push_cast, x_blk, x_cd, ↓reduceIte, Nat.reduceEqDiff, List.map_cons, List.map_nil, Int.reduceEq, Int.lt_irrefl, L_ref15_Move_0, fr, k1.w1 ty_ag_45, hil, sA, ld0, q1]
    exact hJ _ _ ⟨i + 1, hil, (by simp only [push_cast, ↓reduceIte, Nat.reduceEqDiff, true_and, and_true, and_self, eq_self, fr]), hnext fun h => q1 (by rw [hx1, h.1]), rfl⟩ (by rw [hmu]; simp only [push_cast, ↓reduceIte, Nat.reduceEqDiff, intOf, fr]; omega)
  by_cases q2 : x.e = e
  case neg =>
    simp (disch := first | with_reducible assumption | omega) only [push_cast, x_blk, x_cd, ↓reduceIte, Nat.reduceEqDiff, List.map_cons, List.map_nil, Int.reduceEq, Int.lt_irrefl, L_ref15_Move_0, fr, k1.w1 ty_ag_45, hil, sA, ld0, eq_true q1, ld1, q2]
    exact hJ _ _ ⟨i + 1, hil, (by simp only [push_cast, ↓reduceIte, Nat.reduceEqDiff, true_and, and_true, and_self, eq_self, fr]), hnext fun h => q2 (by rw [hx2, h.2]), rfl⟩ (by rw [hmu]; simp only [push_cast, ↓reduceIte, Nat.reduceEqDiff, intOf, fr]; omega)
  have hfind : mvFind st.moves n e = some mv := mvFind_first hno hmv ⟨by omega, by rw [← hx2, q2]⟩
  simp (disch := first | with_reducible assumption | omega) only [push_cast, x_blk, x_cd, ↓reduceIte, Nat.reduceEqDiff, List.map_cons, List.map_nil, Int.reduceEq, Int.lt_irrefl, L_ref15_Move_0, fr, k1.w1 ty_ag_45, hil, sA, ld0, eq_true q1, ld1, eq_true q2, ldw]
  refine sto_blk k2 (cs := MvH.cells x) (e4_mv x) rfl (mv_one x) ?_
  intro w4 k4 g4 z4
  simp (disch := first | with_reducible assumption | omega) only [push_cast, x_blk, x_cd, ↓reduceIte, Nat.reduceEqDiff, List.map_cons, List.map_nil, Int.reduceEq, Int.lt_irrefl, fr]
  exact fin_c2 k4 ty_ag_56 (e4_mv x) (by simp only [push_cast, ↓reduceIte, Nat.reduceEqDiff, Int.reduceEq, fr]) (hQ _ _ ⟨by rw [hfind]; exact ⟨x, List.mem_of_getElem? hx, hxm, (by simp only [push_cast, ↓reduceIte, Nat.reduceEqDiff, Int.reduceEq, fr])⟩, g4.below b02 b02.size (by intro a ha; injection ha with ha; subst ha; exact b1.size)⟩)
def LetsOut (o : Option (Int × Nat)) (v : Value) : Prop := match o with
  | some sn => v = .tuple #[.int .i64 sn.1, .int .i64 sn.2, .bool true]
  | none => v = .tuple #[.int .i64 0, .int .i64 0, .bool false]
theorem letsF_none (p : Plt) (V : VS) : ∀ word : List Int, word.foldl (letsS p V) none = none
  | [] => rfl
  | _ :: word => letsF_none p V word
theorem letsL_cut {p : Plt} {V : VS} {word : List Int} {i : Nat} (h : letsL p V (word.take i) = none) : letsL p V word = none := by
  have e : word = word.take i ++ word.drop i := (List.take_append_drop i word).symm
  unfold letsL at h ⊢
  rw [e, List.foldl_append, h, letsF_none]
theorem letsI_none {p : Plt} {V : VS} (h : ¬ (p.m.starts.length = 1 ∧ V.nodes ≠ [])) : letsI p V = none := by
  unfold letsI
  split
  · rename_i s hs
    by_cases c : V.nodes = []
    · rw [if_pos c]
    · exact absurd ⟨by rw [hs]; rfl, c⟩ h
  · rfl
theorem letsI_at {p : Plt} {V : VS} (h1 : p.m.starts.length = 1) (h2 : V.nodes ≠ []) : letsI p V = some (p.m.starts.getD 0 0, 0) := by
  unfold letsI
  generalize p.m.starts = l at *
  match l, h1 with
  | [s], _ => simp [h2]
theorem letsS_not {p : Plt} {V : VS} {s e : Int} {n : Nat} (h : (stepL p.m [s] e).length ≠ 1) : letsS p V (some (s, n)) e = none := by
  rw [letsS_some]
  split
  · rename_i t ht
    rw [ht] at h; exact absurd rfl h
  · rfl
theorem letsS_un {p : Plt} {V : VS} {s e t : Int} {n : Nat} (h : stepL p.m [s] e = [t]) (he : e ∉ p.seen) : letsS p V (some (s, n)) e = some (t, n) := by rw [letsS_some, h]; simp [he]
theorem letsS_sn {p : Plt} {V : VS} {s e t : Int} {n : Nat} (h : stepL p.m [s] e = [t]) (he : e ∈ p.seen) : letsS p V (some (s, n)) e = match mvFind V.moves n e with
    | some mv => if s ∈ mv.stay ∧ mv.to_ < V.nodes.length then some (t, mv.to_) else none
    | none => none := by
  rw [letsS_some, h]
  show (if e ∈ p.seen then _ else _) = _
  rw [if_pos he]
  rfl
set_option maxHeartbeats 2000000 in
theorem ref15_Lets {w : World} {a : PV} {p : Plt} (ha : IsP (· < w.heap.size) w a p) (hf : p.Fits) (hm : p.m.May) {An : Option Addr} {cn : Nat} {hs : List Hd} {Am : Option Addr} {cm : Nat} {ms : List MvH} {st : VS} (rV : VRd w An hs Am ms st) (nM : ms.length ≤ 100000)
    (nS : ∀ x ∈ ms, x.st.length ≤ 100000) {A2 : Option Addr} {c2 : Nat} {word : List Int} (h2 : Ints (· < w.heap.size) w A2 word) (n2 : word.length ≤ 20000000000000) :
    Cal Tryd.prog 35 [a.val p, .agg (vlC An hs.length cn Am ms.length cm).toArray, .slice A2 word.length c2] w fun v w' => LetsOut (letsL p st word) v ∧ Below w.heap.size w w' := by
  have nP := hf.lenP
  refine cal_ref15_Lets (by simp) 1000000 fun Q hQ => ?_
  simp (disch := first | with_reducible assumption | omega) only [push_cast, x_blk, x_cd, ↓reduceIte, Nat.reduceEqDiff, List.map_cons, List.map_nil, Int.reduceEq, Int.lt_irrefl, F_ref15_Lets]
  refine blk_of (box_agg _ (a.cells p)) ?_
  intro w1 kP b1 z1
  simp (disch := first | with_reducible assumption | omega) only [push_cast, x_blk, x_cd, ↓reduceIte, Nat.reduceEqDiff, List.map_cons, List.map_nil, Int.reduceEq, Int.lt_irrefl]
  refine blk_of (box_agg _ (vlC An hs.length cn Am ms.length cm)) ?_
  intro w2 kV b2 z2
  replace kP := kP.below b2 kP.lt
  have b02 := b1.trans (b2.mono b1.size)
  have hhl : hs.length = st.nodes.length := by have := congrArg List.length rV.2.2.1; simpa using this
  by_cases q1 : (p.m.starts.length : Int) = 1
  case neg =>
    have hnone : letsL p st word = none := by unfold letsL; rw [letsI_none (fun h => q1 (by omega)), letsF_none]
    simp (disch := first | with_reducible assumption | omega) only [push_cast, x_blk, x_cd, ↓reduceIte, Nat.reduceEqDiff, List.map_cons, List.map_nil, Int.reduceEq, Int.lt_irrefl, kP.p2, q1]
    exact fin_3 (hQ _ _ ⟨by rw [hnone]; exact (by simp only [push_cast, ↓reduceIte, Nat.reduceEqDiff, Int.reduceEq, LetsOut]), b02⟩)
  by_cases q2 : (hs.length : Int) = 0
  · have hnone : letsL p st word = none := by
      unfold letsL
      rw [letsI_none (fun h => h.2 (List.eq_nil_of_length_eq_zero (by omega))), letsF_none]
    simp (disch := first | with_reducible assumption | omega) only [push_cast, x_blk, x_cd, ↓reduceIte, Nat.reduceEqDiff, List.map_cons, List.map_nil, Int.reduceEq, Int.lt_irrefl, kP.p2, eq_true q1, kV.w0 ty_ag_44, eq_true q2]
    exact fin_3 (hQ _ _ ⟨by rw [hnone]; exact (by simp only [push_cast, ↓reduceIte, Nat.reduceEqDiff, Int.reduceEq, LetsOut]), b02⟩)
  have hI := (ha.up b02).m.starts
  have sA := hI.isSome (by omega)
  have hld := fun {K : Fr → World → Prop} {f : Fr} {d : Option Nat} {w : World} => hI.ld (P := Tryd.prog) (K := K) (f := f) (d := d) (w := w) ty_ag_3 0 (by omega)
  have h01 : (0 : Int) < (p.m.starts.length : Int) := by omega
  have hI0 : letsL p st (word.take 0) = some (p.m.starts.getD 0 0, 0) := by
    rw [List.take_zero]
    exact letsI_at (by omega) (fun h => q2 (by rw [hhl, h]; rfl))
  generalize p.m.starts.getD 0 0 = s0 at *
  simp (disch := first | with_reducible assumption | omega) only [push_cast, x_blk, x_cd, ↓reduceIte, Nat.reduceEqDiff, List.map_cons, List.map_nil, Int.reduceEq, Int.lt_irrefl, kP.p2, eq_true q1, kV.w0 ty_ag_44, eq_false q2, sA, h01, Int.le_refl, Int.toNat_zero, hld]
  refine loop_rule (fun f w' => ∃ (i : Nat) (s : Int) (n : Nat), i ≤ word.length ∧ letsL p st (word.take i) = some (s, n) ∧ (f 2 = .slice A2 word.length c2 ∧ f 3 = .pointer (some ⟨w.heap.size, 0, none⟩) ∧ f 4 = .pointer (some ⟨w1.heap.size, 0, none⟩) ∧ f 9 = .int .i64 s ∧ f 10 = .int .i64 n ∧ f 11 = .int .i64 i) ∧ Below w2.heap.size w2 w')
    (fun f _ => word.length - (intOf (f 11)).toNat) ⟨0, s0, 0, Nat.zero_le _, hI0, ⟨rfl, rfl, rfl, rfl, rfl, rfl⟩, Below.refl _ _⟩ ?_
  clear hld hI sA h01 hI0
  rintro f w3 ⟨i, s, n, hi, hL, fr, b3⟩ J hJ
  have bb3 := b02.trans (b3.mono b02.size)
  have hmu : (intOf (f 11)).toNat = i := by rw [fr.2.2.2.2.2]; simp [intOf]
  by_cases hil : i < word.length
  case neg =>
    obtain rfl : i = word.length := by omega
    rw [List.take_length] at hL
    simp (disch := first | with_reducible assumption | omega) only [push_cast, x_blk, x_cd, ↓reduceIte, Nat.reduceEqDiff, List.map_cons, List.map_nil, Int.reduceEq, Int.lt_irrefl, L_ref15_Lets_0, fr, Nat.lt_irrefl]
    exact fin_3 (hQ _ _ ⟨by rw [hL]; exact (by simp only [push_cast, ↓reduceIte, Nat.reduceEqDiff, Int.reduceEq, LetsOut, fr]), bb3⟩)
  have hsn : word.take (i + 1) = word.take i ++ [word.getD i 0] := take_snoc word 0 i hil
  have hLs : letsL p st (word.take (i + 1)) = letsS p st (some (s, n)) (word.getD i 0) := by rw [hsn, letsL_snoc, hL]
  have bd : Below w3.heap.size w3 w3.drew := (Same.refl w3).drew.below _
  have bu := b3.trans (bd.mono b3.size)
  have bbu := b02.trans (bu.mono b02.size)
  have kPu := kP.below bu kP.lt
  generalize hu : w3.drew = u at *
  have hWu := h2.up bbu
  have sW := hWu.isSome (by omega)
  have hldW := fun {K : Fr → World → Prop} {f : Fr} {d : Option Nat} {w : World} => hWu.ld (P := Tryd.prog) (K := K) (f := f) (d := d) (w := w) ty_ag_3 i hil
  generalize he : word.getD i 0 = e at *
  have oE := own_int1 u s 3
  have bE : Below u.heap.size u (u.alloc (.cells [.int .i64 s].toArray 3)) := (Below.refl _ _).alloc (Nat.le_refl _) _
  simp (disch := first | with_reducible assumption | omega) only [push_cast, x_blk, x_cd, ↓reduceIte, Nat.reduceEqDiff, List.map_cons, List.map_nil, Int.reduceEq, Int.lt_irrefl, L_ref15_Lets_0, fr, hil, hu, kPu.pM, sW, hldW, bs_22]
  refine ⟨bE, ?_⟩
  generalize u.alloc (.cells [.int .i64 s].toArray 3) = u2 at *
  have bb4 := bbu.trans (bE.mono bbu.size)
  refine call_of (ref2_Step (c1 := 1) (ha.up bb4).m hf.m (OwnI.ints oE).lt (by simp) e) ?_
  rintro v w5 ⟨A5, c5, rfl, o5, b5⟩
  have bu5 := bE.trans (b5.mono bE.size)
  have b25 := bu.trans (bu5.mono bu.size)
  have bb5 := b02.trans (b25.mono b02.size)
  have rl := stepL_row hm [s] e
  have nl := row_lenV rl
  have i5 := OwnI.ints o5
  simp (disch := first | with_reducible assumption | omega) only [push_cast, x_blk, x_cd, ↓reduceIte, Nat.reduceEqDiff, List.map_cons, List.map_nil, Int.reduceEq, Int.lt_irrefl, fr]
  refine ⟨bu5, ?_⟩
  by_cases cl : ((stepL p.m [s] e).length : Int) = 1
  case neg =>
    have hnone : letsL p st word = none := letsL_cut (i := i + 1) (by rw [hLs]; exact letsS_not (by omega))
    simp (disch := first | with_reducible assumption | omega) only [push_cast, x_blk, x_cd, ↓reduceIte, Nat.reduceEqDiff, List.map_cons, List.map_nil, Int.reduceEq, Int.lt_irrefl, fr, cl]
    exact fin_3 (hQ _ _ ⟨by rw [hnone]; exact (by simp only [push_cast, ↓reduceIte, Nat.reduceEqDiff, Int.reduceEq, LetsOut, fr]), bb5⟩)
  obtain ⟨t, ht⟩ : ∃ t, stepL p.m [s] e = [t] := by
    generalize stepL p.m [s] e = l at *
    match l, cl with
    | [x], _ => exact ⟨x, rfl⟩
    | [], cl => simp at cl
    | _ :: _ :: _, cl => simp at cl; omega
  rw [ht] at i5
  rw [ht]
  have bd5 : Below w5.heap.size w5 w5.drew := (Same.refl w5).drew.below _
  have b26 := b25.trans (bd5.mono b25.size)
  have bb6 := b02.trans (b26.mono b02.size)
  have kP6 := kP.below b26 kP.lt
  have i6 := (i5.lt).up bd5
  generalize hu6 : w5.drew = u6 at *
  have hW6 := h2.up bb6
  have hldW6 := fun {K : Fr → World → Prop} {f : Fr} {d : Option Nat} {w : World} => hW6.ld (P := Tryd.prog) (K := K) (f := f) (d := d) (w := w) ty_ag_3 i hil
  rw [he] at hldW6
  have cl1 : (([t] : List Int).length : Int) = 1 := rfl
  simp (disch := first | with_reducible assumption | omega) only [push_cast, x_blk, x_cd, ↓reduceIte, Nat.reduceEqDiff, List.map_cons, List.map_nil, Int.reduceEq, Int.lt_irrefl, fr, eq_true cl1, hu6, kP6.p5, hil, sW, hldW6]
  refine call_of (ref1_Has (ha.up bb6).seen a.cp e (by omega)) ?_
  rintro v w7 ⟨rfl, s7⟩
  have b67 := s7.below u6.heap.size
  have b27 := b26.trans (b67.mono b26.size)
  have bb7 := b02.trans (b27.mono b02.size)
  have i7 := i6.up b67
  have sT := i7.isSome (by simp)
  have hlT := fun {K : Fr → World → Prop} {f : Fr} {d : Option Nat} {w : World} => i7.ld (P := Tryd.prog) (K := K) (f := f) (d := d) (w := w) ty_ag_3 0 (by simp)
  have h01 : (0 : Int) < (([t] : List Int).length : Int) := by simp
  by_cases hes : e ∈ p.seen
  case neg =>
    have hnx := letsS_un (V := st) (n := n) ht hes
    rw [hnx] at hLs
    simp (disch := first | with_reducible assumption | omega) only [push_cast, x_blk, x_cd, ↓reduceIte, Nat.reduceEqDiff, List.map_cons, List.map_nil, Int.reduceEq, Int.lt_irrefl, fr, decide_eq_false hes, sT, h01, Int.le_refl, Int.toNat_zero, hlT]
    exact hJ _ _ ⟨i + 1, t, n, hil, hLs, (by simp only [push_cast, ↓reduceIte, Nat.reduceEqDiff, true_and, and_true, and_self, eq_self, fr, List.getD_cons_zero]), b27⟩ (by rw [hmu]; simp only [push_cast, ↓reduceIte, Nat.reduceEqDiff, intOf, fr]; omega)
  rw [letsS_sn ht hes] at hLs
  have bd7 : Below w7.heap.size w7 w7.drew := (Same.refl w7).drew.below _
  have b28 := b27.trans (bd7.mono b27.size)
  have bb8 := b02.trans (b28.mono b02.size)
  have kV8 := kV.below b28 kV.lt
  have i8 := i7.up bd7
  generalize hu8 : w7.drew = u8 at *
  have hW8 := h2.up bb8
  have hldW8 := fun {K : Fr → World → Prop} {f : Fr} {d : Option Nat} {w : World} => hW8.ld (P := Tryd.prog) (K := K) (f := f) (d := d) (w := w) ty_ag_3 i hil
  rw [he] at hldW8
  have rV8 := rV.below bb8
  have hz8 := b28.size
  clear hlT sT i7 b27 bb7 b67 s7 hldW6 hW6 b26 bb6 kP6 i6 bd5 kPu hWu hldW bu bbu bE oE bu5 b25 bb5 bb4 i5 o5 b5
  simp (disch := first | with_reducible assumption | omega) only [push_cast, x_blk, x_cd, ↓reduceIte, Nat.reduceEqDiff, List.map_cons, List.map_nil, Int.reduceEq, Int.lt_irrefl, fr, decide_eq_true hes, hu8, kV8.wA, hil, sW, hldW8]
  refine cutT (fun f' w' => ∃ (g : Nat) (x : MvH) (b : Bool), (f' 2 = .slice A2 word.length c2 ∧ f' 3 = .pointer (some ⟨w.heap.size, 0, none⟩) ∧ f' 4 = .pointer (some ⟨w1.heap.size, 0, none⟩) ∧ f' 9 = .int .i64 s ∧ f' 10 = .int .i64 n ∧ f' 11 = .int .i64 i ∧ f' 12 = .slice A5 ([t] : List Int).length c5 ∧ f' 13 = .pointer (some ⟨g, 0, none⟩) ∧ f' 14 = .bool b) ∧
      Blk w' g 56 x.cells ∧ ((b = true ∧ x ∈ ms ∧ ∃ mv, mvFind st.moves n e = some mv ∧ x.abs = mv.abs) ∨ (b = false ∧ mvFind st.moves n e = none)) ∧ Below u8.heap.size u8 w') 20000 40000 (by decide) ?_ ?_
  · intro E hE
    have hout : ∀ {v : Value}, MoveOut ms (mvFind st.moves n e) v → ∃ (x : MvH) (b : Bool), v = .tuple #[.agg x.cells.toArray, .bool b] ∧ ((b = true ∧ x ∈ ms ∧ ∃ mv, mvFind st.moves n e = some mv ∧ x.abs = mv.abs) ∨ (b = false ∧ mvFind st.moves n e = none)) := fun {v} h => by
      cases hm : mvFind st.moves n e with
      | none => rw [hm] at h; exact ⟨_, false, h, .inr ⟨rfl, rfl⟩⟩
      | some mv =>
        rw [hm] at h
        obtain ⟨x, hx1, hx2, hx3⟩ := h
        exact ⟨x, true, hx3, .inl ⟨rfl, hx1, mv, rfl, hx2⟩⟩
    rw [x_t_two]
    refine ⟨?_, ?_⟩
    · simp (disch := first | with_reducible assumption | omega) only [push_cast, x_blk, x_cd, ↓reduceIte, Nat.reduceEqDiff, List.map_cons, List.map_nil, Int.reduceEq, Int.lt_irrefl, fr]
      refine call_of (ref15_Move rV8 n e nM) ?_
      rintro v w9 ⟨hmo, b9⟩
      obtain ⟨x, b, rfl, hxb⟩ := hout hmo
      simp (disch := first | with_reducible assumption | omega) only [push_cast, x_blk, x_cd, ↓reduceIte, Nat.reduceEqDiff, List.map_cons, List.map_nil, Int.reduceEq, Int.lt_irrefl, fr]
      refine ⟨b9, ?_⟩
      refine blk_of (cs := MvH.cells ⟨0, 0, none, 0, [], 0⟩) al_56 ?_
      intro w10 k10 b10 z10
      have b810 := b9.trans (b10.mono b9.size)
      simp (disch := first | with_reducible assumption | omega) only [push_cast, x_blk, x_cd, ↓reduceIte, Nat.reduceEqDiff, List.map_cons, List.map_nil, Int.reduceEq, Int.lt_irrefl, fr]
      refine ⟨b810, ?_⟩
      refine sto_blk k10 (cs := MvH.cells x) (e4_mv x) rfl (mv_one x) ?_
      intro w11 k11 g11 z11
      have b811 := g11.below b810 b810.size (by intro a ha; injection ha with ha; subst ha; exact b9.size)
      simp (disch := first | with_reducible assumption | omega) only [push_cast, x_blk, x_cd, ↓reduceIte, Nat.reduceEqDiff, List.map_cons, List.map_nil, Int.reduceEq, Int.lt_irrefl, fr]
      refine ⟨b811, ?_⟩
      first | exact hE _ _ ⟨_, x, b, (by simp only [push_cast, ↓reduceIte, Nat.reduceEqDiff, true_and, and_true, and_self, eq_self, fr]), k11, hxb, b811⟩ | (simp (disch := first | with_reducible assumption | omega) only [push_cast, x_blk, x_cd, ↓reduceIte, Nat.reduceEqDiff, List.map_cons, List.map_nil, Int.reduceEq, Int.lt_irrefl, fr]; exact hE _ _ ⟨_, x, b, (by simp only [push_cast, ↓reduceIte, Nat.reduceEqDiff, true_and, and_true, and_self, eq_self, fr]), k11, hxb, b811⟩)
    · simp (disch := first | with_reducible assumption | omega) only [push_cast, x_blk, x_cd, ↓reduceIte, Nat.reduceEqDiff, List.map_cons, List.map_nil, Int.reduceEq, Int.lt_irrefl, fr]
      refine blk_of (cs := MvH.cells ⟨0, 0, none, 0, [], 0⟩) al_56 ?_
      intro w10 k10 b10 z10
      simp (disch := first | with_reducible assumption | omega) only [push_cast, x_blk, x_cd, ↓reduceIte, Nat.reduceEqDiff, List.map_cons, List.map_nil, Int.reduceEq, Int.lt_irrefl, fr]
      refine ⟨b10, ?_⟩
      refine call_of (ref15_Move (rV8.below b10) n e nM) ?_
      rintro v w9 ⟨hmo, b9⟩
      obtain ⟨x, b, rfl, hxb⟩ := hout hmo
      have b810 := b10.trans (b9.mono b10.size)
      replace k10 := k10.below b9 k10.lt
      simp (disch := first | with_reducible assumption | omega) only [push_cast, x_blk, x_cd, ↓reduceIte, Nat.reduceEqDiff, List.map_cons, List.map_nil, Int.reduceEq, Int.lt_irrefl, fr]
      refine ⟨b810, ?_⟩
      refine sto_blk k10 (cs := MvH.cells x) (e4_mv x) rfl (mv_one x) ?_
      intro w11 k11 g11 z11
      have b811 := g11.below b810 b810.size (by intro a ha; injection ha with ha; subst ha; exact Nat.le_refl _)
      simp (disch := first | with_reducible assumption | omega) only [push_cast, x_blk, x_cd, ↓reduceIte, Nat.reduceEqDiff, List.map_cons, List.map_nil, Int.reduceEq, Int.lt_irrefl, fr]
      refine ⟨b811, ?_⟩
      first | exact hE _ _ ⟨_, x, b, (by simp only [push_cast, ↓reduceIte, Nat.reduceEqDiff, true_and, and_true, and_self, eq_self, fr]), k11, hxb, b811⟩ | (simp (disch := first | with_reducible assumption | omega) only [push_cast, x_blk, x_cd, ↓reduceIte, Nat.reduceEqDiff, List.map_cons, List.map_nil, Int.reduceEq, Int.lt_irrefl, fr]; exact hE _ _ ⟨_, x, b, (by simp only [push_cast, ↓reduceIte, Nat.reduceEqDiff, true_and, and_true, and_self, eq_self, fr]), k11, hxb, b811⟩)
  have hmu1 := hmu
  clear fr
  rintro f w9 ⟨g, x, b, fr, kM, hxb, b9⟩
  have b29 := b28.trans (b9.mono b28.size)
  have bb9 := b02.trans (b29.mono b02.size)
  rcases hxb with ⟨rfl, hxm, mv, hmv, hxa⟩ | ⟨rfl, hnone⟩
  case inr =>
    rw [hnone] at hLs
    have hno : letsL p st word = none := letsL_cut (i := i + 1) hLs
    simp (disch := first | with_reducible assumption | omega) only [push_cast, x_blk, x_cd, ↓reduceIte, Nat.reduceEqDiff, List.map_cons, List.map_nil, Int.reduceEq, Int.lt_irrefl, fr]
    exact fin_3 (hQ _ _ ⟨by rw [hno]; exact (by simp only [push_cast, ↓reduceIte, Nat.reduceEqDiff, Int.reduceEq, LetsOut, fr]), bb9⟩)
  rw [hmv] at hLs
  dsimp only at hLs
  have hx3 : x.st = mv.stay := congrArg (·.2.2.1) hxa
  have hx4 : x.to_ = (mv.to_ : Int) := congrArg (·.2.2.2) hxa
  have rV9 := rV.below bb9
  have lM := kM.lt
  simp (disch := first | with_reducible assumption | omega) only [push_cast, x_blk, x_cd, ↓reduceIte, Nat.reduceEqDiff, List.map_cons, List.map_nil, Int.reduceEq, Int.lt_irrefl, fr, kM.v2 ty_ag_22]
  refine call_of (ref1_Has (rV9.2.2.2.2.1 x hxm) x.c s (by have := nS x hxm; omega)) ?_
  rintro v w10 ⟨rfl, s10⟩
  have b10 := s10.below w9.heap.size
  have b210 := b29.trans (b10.mono b29.size)
  have bb10 := b02.trans (b210.mono b02.size)
  have kM10 := kM.below b10 lM
  have kV10 := kV.below b210 kV.lt
  by_cases qs : s ∈ x.st
  case neg =>
    rw [if_neg (fun h => qs (hx3 ▸ h.1))] at hLs
    have hno : letsL p st word = none := letsL_cut (i := i + 1) hLs
    simp (disch := first | with_reducible assumption | omega) only [push_cast, x_blk, x_cd, ↓reduceIte, Nat.reduceEqDiff, List.map_cons, List.map_nil, Int.reduceEq, Int.lt_irrefl, fr, decide_eq_false qs]
    exact fin_3 (hQ _ _ ⟨by rw [hno]; exact (by simp only [push_cast, ↓reduceIte, Nat.reduceEqDiff, Int.reduceEq, LetsOut, fr]), bb10⟩)
  have hto0 : ¬ x.to_ < 0 := by omega
  by_cases qt : (hs.length : Int) ≤ x.to_
  · rw [if_neg (fun h => by have := h.2; omega)] at hLs
    have hno : letsL p st word = none := letsL_cut (i := i + 1) hLs
    simp (disch := first | with_reducible assumption | omega) only [push_cast, x_blk, x_cd, ↓reduceIte, Nat.reduceEqDiff, List.map_cons, List.map_nil, Int.reduceEq, Int.lt_irrefl, fr, decide_eq_true qs, kM10.v3 ty_ag_3, hto0, kV10.w0 ty_ag_44, qt]
    exact fin_3 (hQ _ _ ⟨by rw [hno]; exact (by simp only [push_cast, ↓reduceIte, Nat.reduceEqDiff, Int.reduceEq, LetsOut, fr]), bb10⟩)
  rw [if_pos ⟨hx3 ▸ qs, by omega⟩] at hLs
  have i10 := (i8.up b9).up b10
  have sT := i10.isSome (by simp)
  have hlT := fun {K : Fr → World → Prop} {f : Fr} {d : Option Nat} {w : World} => i10.ld (P := Tryd.prog) (K := K) (f := f) (d := d) (w := w) ty_ag_3 0 (by simp)
  simp (disch := first | with_reducible assumption | omega) only [push_cast, x_blk, x_cd, ↓reduceIte, Nat.reduceEqDiff, List.map_cons, List.map_nil, Int.reduceEq, Int.lt_irrefl, fr, decide_eq_true qs, kM10.v3 ty_ag_3, hto0, kV10.w0 ty_ag_44, qt, sT, h01, Int.le_refl, Int.toNat_zero, hlT]
  exact hJ _ _ ⟨i + 1, t, mv.to_, hil, hLs, (by simp only [push_cast, ↓reduceIte, Nat.reduceEqDiff, true_and, and_true, and_self, eq_self, fr, List.getD_cons_zero, hx4]), b210⟩ (by rw [hmu1]; simp only [push_cast, ↓reduceIte, Nat.reduceEqDiff, intOf, fr]; omega)
end Go.Proofs.YtcjedgiglimipaaDoor

/-
  Chapter 15: the law VeilKeeps: by its contract.
-/
namespace Go.Proofs.YtcjedgiglimipaaDoor
set_option linter.unusedSimpArgs false
set_option linter.unusedVariables false
set_option linter.unusedSectionVars false
open Go.RowKit

theorem first_starts {p : Plt} (hm : p.m.May) (hp : PlainM p.m) (hF : firstP p ≠ []) : p.m.starts.length = 1 := by
  have h1 := hp.1
  rcases Nat.eq_zero_or_pos p.m.starts.length with c | c
  · exfalso
    refine hF ?_
    have h0 : p.m.starts = [] := List.eq_nil_of_length_eq_zero c
    obtain h | ⟨x, hx⟩ : firstP p = [] ∨ ∃ x, x ∈ firstP p := by
      cases h : firstP p with
      | nil => exact .inl rfl
      | cons x l => exact .inr ⟨x, by simp⟩
    · exact h
    · obtain ⟨y, hy, _⟩ := clos_one.1 ((mem_wideL hm (row_range (may_starts hm))).1 hx)
      rw [h0] at hy; simp at hy
  · omega
set_option maxHeartbeats 4000000 in
theorem law_VeilKeeps {w : World} (hT : Tab w) {a : PV} {p : Plt} (ha : IsP (· < w.heap.size) w a p) (hf : p.Fits) (_hc : a.Caps p)
    {A1 : Option Addr} {c1 : Nat} {free : List Int} (h1 : Ints (· < w.heap.size) w A1 free) (_b1 : ∀ x ∈ free, I64 x) (n1 : free.length ≤ 17592186043904) (_k1 : free.length ≤ c1)
    {A2 : Option Addr} {c2 : Nat} {word : List Int} (h2 : Ints (· < w.heap.size) w A2 word) (_b2 : ∀ x ∈ word, I64 x) (n2 : word.length ≤ 17592186043904) (_k2 : word.length ≤ c2) :
    Cal Tryd.prog 10 [a.val p, .slice A1 free.length c1, .slice A2 word.length c2] w fun v w' => v = .bool true ∧ Below w.heap.size w w' := by
  refine cal_law_VeilKeeps (by simp) 1000000 fun Q hQ => ?_
  simp (disch := first | with_reducible assumption | omega) only [push_cast, x_blk, x_cd, ↓reduceIte, Nat.reduceEqDiff, List.map_cons, List.map_nil, Int.reduceEq, Int.lt_irrefl, F_law_VeilKeeps]
  refine blk_of (box_agg _ (a.cells p)) ?_
  intro w1 kP b1 z1
  simp (disch := first | with_reducible assumption | omega) only [push_cast, x_blk, x_cd, ↓reduceIte, Nat.reduceEqDiff, List.map_cons, List.map_nil, Int.reduceEq, Int.lt_irrefl, kP.pA']
  refine call_of (law_veiled (ha.up b1) hf (h1.up b1) n1) ?_
  rintro v w2 ⟨⟨bv, rfl, hbv⟩, b2⟩
  have bb2 := b1.trans (b2.mono b1.size)
  replace kP := kP.below b2 kP.lt
  cases bv with
  | false =>
    simp (disch := first | with_reducible assumption | omega) only [push_cast, x_blk, x_cd, ↓reduceIte, Nat.reduceEqDiff, List.map_cons, List.map_nil, Int.reduceEq, Int.lt_irrefl]
    exact fin_1 (hQ _ _ ⟨(by simp only [push_cast, ↓reduceIte, Nat.reduceEqDiff, Int.reduceEq]), bb2⟩)
  | true =>
  have hv := hbv.1 rfl
  obtain ⟨pm, pr⟩ := hv.1
  have hm := pm.1
  have ev8 := hm.2.2.2.1
  have hpl := hv.2.2
  simp (disch := first | with_reducible assumption | omega) only [push_cast, x_blk, x_cd, ↓reduceIte, Nat.reduceEqDiff, List.map_cons, List.map_nil, Int.reduceEq, Int.lt_irrefl, kP.pA']
  refine call_of (veil_Make (ha.up bb2) hf (hT.on bb2) (h1.up bb2) n1) ?_
  intro v w3 h3
  obtain ⟨b3, V, is, st, rfl, hV, hO⟩ := h3.out hv
  obtain ⟨ln1, ln2, ln3, lst⟩ := hO.len pm
  obtain ⟨An, cn, hs, Am, cm, ms, rfl, rV⟩ := hV.rd
  clear hV h3
  have hhs : hs.length = st.nodes.length := by have := congrArg List.length rV.2.2.1; simpa using this
  have hms : ms.length = st.moves.length := by have := congrArg List.length rV.2.2.2.2.2; simpa using this
  have bb3 := bb2.trans (b3.mono bb2.size)
  replace kP := kP.below b3 kP.lt
  have lP := kP.lt
  simp (disch := first | with_reducible assumption | omega) only [push_cast, x_blk, x_cd, ↓reduceIte, Nat.reduceEqDiff, List.map_cons, List.map_nil, Int.reduceEq, Int.lt_irrefl]
  refine blk_of (cs := veil0) al_47 ?_
  intro w4 k7 b4 z4
  simp (disch := first | with_reducible assumption | omega) only [push_cast, x_blk, x_cd, ↓reduceIte, Nat.reduceEqDiff, List.map_cons, List.map_nil, Int.reduceEq, Int.lt_irrefl]
  refine sto_blk k7 (cs := vlC An hs.length cn Am ms.length cm) (e2_vl _ _ _ _ _ _) rfl (vl_one _ _ _ _ _ _) ?_
  intro w5 k7' g5 z5
  have b35 := g5.below b4 b4.size (by intro a ha; injection ha with ha; subst ha; exact Nat.le_refl _)
  have rV5 := rV.below b35
  have bb5 := bb3.trans (b35.mono bb3.size)
  replace kP := kP.below b35 kP.lt
  clear k7 g5 b4 rV
  cases is with
  | false =>
    have hz : st = ⟨[], []⟩ := by
      rcases hO with ⟨_, _, h⟩ | ⟨_, h, _⟩
      · exact h
      · cases h
    have hl0 : (hs.length : Int) = 0 := by rw [hhs, hz]; rfl
    simp (disch := first | with_reducible assumption | omega) only [push_cast, x_blk, x_cd, ↓reduceIte, Nat.reduceEqDiff, List.map_cons, List.map_nil, Int.reduceEq, Int.lt_irrefl, eq_self, kP.pA']
    refine call_of (ref15_Make (ha.up bb5) hf pm (h1.up bb5) n1) ?_
    intro v w6 h6
    obtain ⟨b6, V', is', st', rfl, hV', hO'⟩ := h6.out
    obtain ⟨rfl, rfl⟩ := hO.same hO'
    obtain ⟨An', cn', hs', Am', cm', ms', rfl, rV'⟩ := hV'.rd
    have k76 := k7'.below b6 k7'.lt
    have bb6 := bb5.trans (b6.mono bb5.size)
    simp (disch := first | with_reducible assumption | omega) only [push_cast, x_blk, x_cd, ↓reduceIte, Nat.reduceEqDiff, List.map_cons, List.map_nil, Int.reduceEq, Int.lt_irrefl]
    refine blk_of (cs := veil0) al_47 ?_
    intro w7 k9 b7 z7
    have l7 := k76.lt
    have k77 := k76.below b7 k76.lt
    simp (disch := first | with_reducible assumption | omega) only [push_cast, x_blk, x_cd, ↓reduceIte, Nat.reduceEqDiff, List.map_cons, List.map_nil, Int.reduceEq, Int.lt_irrefl]
    refine sto_blk k9 (cs := vlC An' hs'.length cn' Am' ms'.length cm') (e2_vl _ _ _ _ _ _) rfl (vl_one _ _ _ _ _ _) ?_
    intro w8 k9' g8 z8
    have b68 := g8.below b7 b7.size (by intro a ha; injection ha with ha; subst ha; exact Nat.le_refl _)
    have k78 := k76.below b68 k76.lt
    simp (disch := first | with_reducible assumption | omega) only [push_cast, x_blk, x_cd, ↓reduceIte, Nat.reduceEqDiff, List.map_cons, List.map_nil, Int.reduceEq, Int.lt_irrefl, k78.w0 ty_ag_44, eq_true hl0]
    exact fin_1 (hQ _ _ ⟨(by simp only [push_cast, ↓reduceIte, Nat.reduceEqDiff, Int.reduceEq]), bb6.trans (b68.mono bb6.size)⟩)
  | true =>
  obtain ⟨⟨hF, hkF⟩, k, hk, hst⟩ : (firstP p ≠ [] ∧ Kp p free (firstP p)) ∧ ∃ k, (vIter p free k).nodes.length = k ∧ st = vIter p free k := by
    rcases hO with ⟨_, h, _⟩ | ⟨h1, _, h2⟩
    · cases h
    · exact ⟨h1, h2⟩
  have hin := fun (word : List Int) {s : Int} {n : Nat} => lets_in (p := p) (free := free) hm hkF k word (s := s) (n := n)
  have hon := fun {word : List Int} {s : Int} {n : Nat} => lets_on (p := p) (free := free) hm hkF hk (word := word) (s := s) (n := n)
  have hkept := vIter_kept (p := p) (free := free) hm hkF k
  rw [← hst] at hk hin hon hkept
  have nS : ∀ x ∈ ms, x.st.length ≤ 100000 := fun x hx => by
    obtain ⟨i, hi⟩ := List.mem_iff_getElem?.1 hx
    obtain ⟨mv, hmv, hxm⟩ := mv_at rV5.2.2.2.2.2 hi
    have h3 := vIter_stay (p := p) (free := free) hm k mv (by rw [← hst]; exact List.mem_of_getElem? hmv)
    have := pm.2.1
    have hx3 : x.st = mv.stay := congrArg (·.2.2.1) hxm
    rw [hx3]; omega
  have lets := fun (W : World) (b : Below w5.heap.size w5 W) {A : Option Addr} {c : Nat} {u : List Int} (hu : Ints (· < W.heap.size) W A u) (nu : u.length ≤ 20000000000000) => ref15_Lets (cn := cn) (cm := cm) (c2 := c) ((ha.up bb5).up b) hf hm (rV5.below b) (by omega) nS hu nu
  simp (disch := first | with_reducible assumption | omega) only [push_cast, x_blk, x_cd, ↓reduceIte, Nat.reduceEqDiff, List.map_cons, List.map_nil, Int.reduceEq, Int.lt_irrefl, eq_self, kP.pA', k7'.wA]
  refine call_of (lets w5 (Below.refl _ _) (h2.up bb5) (by omega)) ?_
  rintro v w6 ⟨hl6, b6⟩
  have bb6 := bb5.trans (b6.mono bb5.size)
  cases hL : letsL p st word with
  | none =>
    rw [hL] at hl6
    have hl6 : v = .tuple #[.int .i64 0, .int .i64 0, .bool false] := hl6
    subst hl6
    have hpos : (0 : Int) < (word.length : Int) := by
      cases word with
      | nil =>
        exfalso
        have h0 : letsL p st [] = letsI p st := rfl
        rw [h0, letsI_at (first_starts hm hpl hF) (fun hn => by
          have := (vIter_good (p := p) (free := free) hm k).pos
          rw [← hst, hn] at this; simp at this)] at hL
        cases hL
      | cons _ _ => simp
    simp (disch := first | with_reducible assumption | omega) only [push_cast, x_blk, x_cd, ↓reduceIte, Nat.reduceEqDiff, List.map_cons, List.map_nil, Int.reduceEq, Int.lt_irrefl]
    exact fin_1 (hQ _ _ ⟨(by simp only [push_cast, ↓reduceIte, Nat.reduceEqDiff, Int.reduceEq, hpos]), bb6⟩)
  | some sn =>
  obtain ⟨s, n⟩ := sn
  rw [hL] at hl6
  have hl6 : v = .tuple #[.int .i64 s, .int .i64 n, .bool true] := hl6
  subst hl6
  obtain ⟨N, hN, hsN⟩ := hin word hL
  have hNm := List.mem_of_getElem? hN
  have hnt : ¬ TellsL N p.secret := (hkept.node N hNm).1.self
  have bd : Below w6.heap.size w6 w6.drew := (Same.refl w6).drew.below _
  have b5u := b6.trans (bd.mono b6.size)
  have bbu := bb5.trans (b5u.mono bb5.size)
  have rVu := rV5.below b5u
  have k7u := k7'.below b5u k7'.lt
  have kPu := kP.below b5u kP.lt
  have hnl : n < hs.length := by have := (List.getElem?_eq_some_iff.1 hN).1; omega
  obtain ⟨h, hh⟩ : ∃ h, hs[n]? = some h := ⟨_, List.getElem?_eq_getElem hnl⟩
  have hhN : h.l = N := by
    have h2 : (hs.map (·.l))[n]? = some h.l := by rw [List.getElem?_map, hh]; rfl
    rw [rV5.2.2.1, hN] at h2
    exact (Option.some.inj h2).symm
  have nh := ln3 N hNm
  subst hhN
  have sH := rVu.1.isSome (by omega)
  generalize hu : w6.drew = u at *
  have lh := fun {K : Fr → World → Prop} {f : Fr} {d : Option Nat} {w' : World} => rVu.1.ld0 (P := Tryd.prog) (K := K) (f := f) (d := d) (w := w') ty_ag_22 hh (v := .slice h.A h.l.length h.c) rfl
  simp only [Nat.mul_one] at lh
  simp (disch := first | with_reducible assumption | omega) only [push_cast, x_blk, x_cd, ↓reduceIte, Nat.reduceEqDiff, List.map_cons, List.map_nil, Int.reduceEq, Int.lt_irrefl, hu, k7u.w0 ty_ag_44, hnl, sH, lh]
  refine call_of (ref1_Has (rVu.2.1 h (List.mem_of_getElem? hh)) h.c s (by omega)) ?_
  rintro v w7 ⟨rfl, s7⟩
  have b7 := s7.below u.heap.size
  simp (disch := first | with_reducible assumption | omega) only [push_cast, x_blk, x_cd, ↓reduceIte, Nat.reduceEqDiff, List.map_cons, List.map_nil, Int.reduceEq, Int.lt_irrefl, decide_eq_true hsN]
  refine ⟨b7, ?_⟩
  have bb7 := bbu.trans (b7.mono bbu.size)
  have nQ := hf.lenQ
  simp (disch := first | with_reducible assumption | omega) only [push_cast, x_blk, x_cd, ↓reduceIte, Nat.reduceEqDiff, List.map_cons, List.map_nil, Int.reduceEq, Int.lt_irrefl, hu, k7u.w0 ty_ag_44, hnl, sH, lh, kPu.p6]
  refine call_of (ref9_Tells ((rVu.2.1 h (List.mem_of_getElem? hh)).up b7) (by omega) (ha.up bb7).secret nQ) ?_
  rintro v w8 ⟨rfl, b8⟩
  have b78 := b7.trans (b8.mono b7.size)
  have b58 := b5u.trans (b78.mono b5u.size)
  simp (disch := first | with_reducible assumption | omega) only [push_cast, x_blk, x_cd, ↓reduceIte, Nat.reduceEqDiff, List.map_cons, List.map_nil, Int.reduceEq, Int.lt_irrefl, decide_eq_false hnt]
  refine ⟨b78, ?_⟩
  refine loop_rule (fun f w' => ∃ e : Nat, (e : Int) ≤ p.m.events ∧ (f 1 = .slice A1 free.length c1 ∧ f 2 = .slice A2 word.length c2 ∧ f 3 = .pointer (some ⟨w.heap.size, 0, none⟩) ∧ f 7 = .pointer (some ⟨w3.heap.size, 0, none⟩) ∧ f 12 = .int .i64 s ∧ f 15 = .int .i64 e) ∧ Below w5.heap.size w5 w')
    (fun f _ => p.m.events.toNat - (intOf (f 15)).toNat) ⟨0, hm.2.2.1, ⟨rfl, rfl, rfl, rfl, rfl, rfl⟩, b58⟩ ?_
  clear lh rVu k7u kPu bbu b5u bd b6 bb6 b7 b8 b78 bb7 s7
  rintro f w9 ⟨e, he, fr, b9⟩ J hJ
  have bb9 := bb5.trans (b9.mono bb5.size)
  have kP9 := kP.below b9 kP.lt
  have k79 := k7'.below b9 k7'.lt
  have hmu : (intOf (f 15)).toNat = e := by rw [fr.2.2.2.2.2]; simp [intOf]
  by_cases hel : (e : Int) < p.m.events
  case neg =>
    simp (disch := first | with_reducible assumption | omega) only [push_cast, x_blk, x_cd, ↓reduceIte, Nat.reduceEqDiff, List.map_cons, List.map_nil, Int.reduceEq, Int.lt_irrefl, L_law_VeilKeeps_0, fr, kP9.p1, hel]
    exact fin_1 (hQ _ _ ⟨(by simp only [push_cast, ↓reduceIte, Nat.reduceEqDiff, Int.reduceEq]), bb9⟩)
  have oE := own_int1 w9 s 3
  have bE : Below w9.heap.size w9 (w9.alloc (.cells [.int .i64 s].toArray 3)) := (Below.refl _ _).alloc (Nat.le_refl _) _
  simp (disch := first | with_reducible assumption | omega) only [push_cast, x_blk, x_cd, ↓reduceIte, Nat.reduceEqDiff, List.map_cons, List.map_nil, Int.reduceEq, Int.lt_irrefl, L_law_VeilKeeps_0, fr, kP9.p1, hel, kP9.pM, bs_22]
  generalize w9.alloc (.cells [.int .i64 s].toArray 3) = w10 at *
  have bb10 := bb9.trans (bE.mono bb9.size)
  refine call_of (ref2_Step (c1 := 1) (ha.up bb10).m hf.m (OwnI.ints oE).lt (by simp) (e : Int)) ?_
  rintro v w11 ⟨A11, c11, rfl, o11, b11⟩
  have b911 := bE.trans (b11.mono bE.size)
  have b511 := b9.trans (b911.mono b9.size)
  have bb11 := bb5.trans (b511.mono bb5.size)
  have b0 : Below w11.heap.size w11 (w11.alloc (.cells [].toArray 3)) := (Below.refl _ _).alloc (Nat.le_refl _) _
  have o0 : OwnI w11.heap.size 3 (w11.alloc (.cells [].toArray 3)) (some ⟨w11.heap.size, 0, none⟩) 0 [] := ⟨World.ownsRow_made w11 #[] 0 (Nat.le_refl _) (by decide) (by simp)⟩
  simp (disch := first | with_reducible assumption | omega) only [push_cast, x_blk, x_cd, ↓reduceIte, Nat.reduceEqDiff, List.map_cons, List.map_nil, Int.reduceEq, Int.lt_irrefl, fr, bs0_22]
  generalize w11.alloc (.cells [].toArray 3) = w12 at *
  have bb12 := bb11.trans (b0.mono bb11.size)
  refine app_ints (l := []) slT_22 o0 (h2.up bb12) (by simp; omega) b0.size ?_
  intro A13 c13 w13 o13 g13 _ z13
  rw [List.nil_append] at o13
  have b13 := g13.below b0 b0.size o0.geB
  simp (disch := first | with_reducible assumption | omega) only [push_cast, x_blk, x_cd, ↓reduceIte, Nat.reduceEqDiff, List.map_cons, List.map_nil, Int.reduceEq, Int.lt_irrefl, List.length_nil, Nat.zero_add, fr, bs_22]
  refine app_int slT_22 o13 (e : Int) (by omega) b13.size ?_
  intro A14 c14 w14 o14 g14 _ _ z14
  have b14 := g14.below b13 b13.size o13.geB
  have b514 := b511.trans (b14.mono b511.size)
  have kP14 := kP.below b514 kP.lt
  have k714 := k7'.below b514 k7'.lt
  have hwl : word.length + 1 = (word ++ [(e : Int)]).length := by simp
  have i14 := (OwnI.ints o14).lt
  simp (disch := first | with_reducible assumption | omega) only [push_cast, x_blk, x_cd, ↓reduceIte, Nat.reduceEqDiff, List.map_cons, List.map_nil, Int.reduceEq, Int.lt_irrefl, fr, kP14.pA', k714.wA, hwl]
  refine call_of (lets w14 b514 i14 (by simp; omega)) ?_
  rintro v w15 ⟨hl15, b15⟩
  have b515 := b514.trans (b15.mono b514.size)
  have bb15 := bb5.trans (b515.mono bb5.size)
  obtain ⟨y1, y2, bo, rfl, hbo⟩ : ∃ (y1 y2 : Int) (bo : Bool), v = .tuple #[.int .i64 y1, .int .i64 y2, .bool bo] ∧ (bo = false → letsL p st (word ++ [(e : Int)]) = none) := by
    cases hh : letsL p st (word ++ [(e : Int)]) with
    | none => rw [hh] at hl15; exact ⟨0, 0, false, hl15, fun _ => rfl⟩
    | some sn => rw [hh] at hl15; exact ⟨sn.1, sn.2, true, hl15, fun h => by cases h⟩
  by_cases cl : ((stepL p.m [s] (e : Int)).length : Int) = 1
  case neg =>
    simp (disch := first | with_reducible assumption | omega) only [push_cast, x_blk, x_cd, ↓reduceIte, Nat.reduceEqDiff, List.map_cons, List.map_nil, Int.reduceEq, Int.lt_irrefl, fr, cl]
    exact hJ _ _ ⟨e + 1, by omega, (by simp only [push_cast, ↓reduceIte, Nat.reduceEqDiff, true_and, and_true, and_self, eq_self, fr]), b515⟩ (by rw [hmu]; simp only [push_cast, ↓reduceIte, Nat.reduceEqDiff, intOf, fr]; omega)
  simp (disch := first | with_reducible assumption | omega) only [push_cast, x_blk, x_cd, ↓reduceIte, Nat.reduceEqDiff, List.map_cons, List.map_nil, Int.reduceEq, Int.lt_irrefl, fr, eq_true cl]
  refine call_of (ref1_Has (h1.up bb15) c1 (e : Int) (by omega)) ?_
  rintro v w16 ⟨rfl, s16⟩
  have b516 := b515.trans (s16.below _)
  by_cases qf : (e : Int) ∈ free
  · simp (disch := first | with_reducible assumption | omega) only [push_cast, x_blk, x_cd, ↓reduceIte, Nat.reduceEqDiff, List.map_cons, List.map_nil, Int.reduceEq, Int.lt_irrefl, fr, decide_eq_true qf]
    exact hJ _ _ ⟨e + 1, by omega, (by simp only [push_cast, ↓reduceIte, Nat.reduceEqDiff, true_and, and_true, and_self, eq_self, fr]), b516⟩ (by rw [hmu]; simp only [push_cast, ↓reduceIte, Nat.reduceEqDiff, intOf, fr]; omega)
  have hne := hon hL qf (by omega)
  obtain rfl : bo = true := by
    cases bo with
    | true => rfl
    | false => exact absurd (hbo rfl) hne
  simp (disch := first | with_reducible assumption | omega) only [push_cast, x_blk, x_cd, ↓reduceIte, Nat.reduceEqDiff, List.map_cons, List.map_nil, Int.reduceEq, Int.lt_irrefl, fr, decide_eq_false qf]
  exact hJ _ _ ⟨e + 1, by omega, (by simp only [push_cast, ↓reduceIte, Nat.reduceEqDiff, true_and, and_true, and_self, eq_self, fr]), b516⟩ (by rw [hmu]; simp only [push_cast, ↓reduceIte, Nat.reduceEqDiff, intOf, fr]; omega)
end Go.Proofs.YtcjedgiglimipaaDoor
