/-
  Chapter 8: kinds of states of a determined machine, round by round; in plain Lean. And maps whose keys are signs.
-/
import Derived.Test.YtcjedgiglimipaaDoorZMoore
import Derived.Test.YtcjedgiglimipaaDoorZGDet
import Derived.Test.YtcjedgiglimipaaDoorZReachD
import Derived.Test.YtcjedgiglimipaaDoorZWords
import Derived.Test.YtcjedgiglimipaaDoorZHideW
namespace Go.Proofs.YtcjedgiglimipaaDoor
set_option linter.unusedSimpArgs false
set_option linter.unusedVariables false
set_option linter.unusedSectionVars false
open Go.RowKit

structure DM (d : Mach) (D E : Nat) : Prop where
  st : d.states = D
  ev : d.events = E
  d0 : 0 < D
  dn : D ≤ 256
  e8 : E ≤ 8
  len : d.arrows.length = D * E
  to : ∀ i, i < D * E → 0 ≤ (d.arrows.getD i default).to_ ∧ (d.arrows.getD i default).to_ < D
  ends : IsRow d.ends D
def dl (d : Mach) (E s e : Nat) : Nat := ((d.arrows.getD (s * E + e) default).to_).toNat
def dfin (d : Mach) (s : Nat) : Prop := (s : Int) ∈ d.ends
theorem DM.at_ {d : Mach} {D E : Nat} (_h : DM d D E) {s e : Nat} (hs : s < D) (he : e < E) : s * E + e < D * E := by
  have : (s + 1) * E ≤ D * E := Nat.mul_le_mul_right _ hs
  rw [Nat.add_mul] at this
  omega
theorem DM.dl_lt {d : Mach} {D E : Nat} (h : DM d D E) {s e : Nat} (hs : s < D) (he : e < E) : dl d E s e < D := by
  have := h.to _ (h.at_ hs he)
  unfold dl; omega
theorem DM.dl_eq {d : Mach} {D E : Nat} (h : DM d D E) {s e : Nat} (hs : s < D) (he : e < E) : (d.arrows.getD (s * E + e) default).to_ = (dl d E s e : Int) := by
  have := h.to _ (h.at_ hs he)
  unfold dl; omega

/-- A state's sign, as far as it is written. -/
def sgP (d : Mach) (E : Nat) (p : List Int) (s j : Nat) : List Int := p.getD s 0 :: (List.range 8).map fun e => if e < j then p.getD (dl d E s e) 0 else 0
def sg (d : Mach) (E : Nat) (p : List Int) (s : Nat) : List Int := sgP d E p s E
theorem sgP_len (d : Mach) (E : Nat) (p : List Int) (s j : Nat) : (sgP d E p s j).length = 9 := by simp [sgP]
theorem sgP_set {d : Mach} {E : Nat} {p : List Int} {s j : Nat} (hj : j < 8) : (sgP d E p s j).set (1 + j) (p.getD (dl d E s j) 0) = sgP d E p s (j + 1) := by
  unfold sgP
  rw [Nat.add_comm 1 j, List.set_cons_succ]
  congr 1
  apply List.ext_getElem?
  intro i
  rw [List.getElem?_set]
  by_cases hi : i < 8
  · rw [List.getElem?_map, List.getElem?_map, List.getElem?_range hi]
    simp only [Option.map_some]
    by_cases e : j = i
    · subst e
      rw [if_pos rfl, if_pos (by simp; omega), if_pos (by omega)]
    · rw [if_neg e]
      by_cases c : i < j
      · rw [if_pos c, if_pos (by omega)]
      · rw [if_neg c, if_neg (by omega)]
  · rw [if_neg (by omega), List.getElem?_eq_none (by simp; omega), List.getElem?_eq_none (by simp; omega)]
theorem sg_eq {d : Mach} {E : Nat} (hE : E ≤ 8) {p : List Int} {s t : Nat} : sg d E p s = sg d E p t ↔ (p.getD s 0 = p.getD t 0 ∧ ∀ e, e < E → p.getD (dl d E s e) 0 = p.getD (dl d E t e) 0) := by
  unfold sg sgP
  rw [List.cons.injEq]
  refine and_congr_right fun _ => ⟨fun h e he => ?_, fun h => ?_⟩
  · have := congrArg (fun l => l[e]?) h
    simp only [List.getElem?_map, List.getElem?_range (show e < 8 by omega), Option.map_some, Option.some.injEq, if_pos he] at this
    exact this
  · refine List.map_congr_left fun e _ => ?_
    by_cases he : e < E
    · rw [if_pos he, if_pos he, h e he]
    · rw [if_neg he, if_neg he]
/-- The signs of the states below n, each once, as they come. -/
def gs (d : Mach) (E : Nat) (p : List Int) : Nat → List (List Int)
  | 0 => []
  | n + 1 => if sg d E p n ∈ gs d E p n then gs d E p n else gs d E p n ++ [sg d E p n]
theorem mem_gs {d : Mach} {E : Nat} {p : List Int} : ∀ {n : Nat} {x : List Int}, x ∈ gs d E p n ↔ ∃ s, s < n ∧ sg d E p s = x
  | 0, x => by simp [gs]
  | n + 1, x => by
    have ih := mem_gs (d := d) (E := E) (p := p) (n := n) (x := x)
    show x ∈ (if _ then _ else _) ↔ _
    split
    · rename_i h
      rw [ih]
      refine ⟨fun ⟨s, hs, e⟩ => ⟨s, by omega, e⟩, fun ⟨s, hs, e⟩ => ?_⟩
      by_cases c : s = n
      · subst c
        obtain ⟨s', h1, h2⟩ := (mem_gs (n := s) (x := sg d E p s)).1 h
        exact ⟨s', h1, h2.trans e⟩
      · exact ⟨s, by omega, e⟩
    · rw [List.mem_append, List.mem_singleton, ih]
      refine ⟨fun h => h.elim (fun ⟨s, hs, e⟩ => ⟨s, by omega, e⟩) fun e => ⟨n, by omega, e.symm⟩, fun ⟨s, hs, e⟩ => ?_⟩
      by_cases c : s = n
      · subst c; exact .inr e.symm
      · exact .inl ⟨s, by omega, e⟩
theorem gs_nodup (d : Mach) (E : Nat) (p : List Int) : ∀ n, (gs d E p n).Nodup
  | 0 => List.nodup_nil
  | n + 1 => by
    show (if _ then _ else _ : List (List Int)).Nodup
    split
    · exact gs_nodup d E p n
    · rename_i h
      refine List.nodup_append.2 ⟨gs_nodup d E p n, by simp, fun a ha b hb e => ?_⟩
      rw [List.mem_singleton.1 hb] at e
      exact h (e ▸ ha)
theorem gs_cnt (d : Mach) (E : Nat) (p : List Int) : ∀ n, (gs d E p n).length = cnt (sg d E p) n
  | 0 => rfl
  | n + 1 => by
    rw [cnt_succ, ← gs_cnt d E p n]
    show (if _ then _ else _ : List (List Int)).length = _
    have : NewIn (sg d E p) n ↔ sg d E p n ∉ gs d E p n := ⟨fun h hm => by
      obtain ⟨s, hs, e⟩ := mem_gs.1 hm
      exact h s hs e, fun h s hs e => h (mem_gs.2 ⟨s, hs, e⟩)⟩
    split
    · rename_i h
      rw [if_neg (fun hn => this.1 hn h)]; rfl
    · rename_i h
      rw [if_pos (this.2 h), List.length_append]; rfl
theorem gs_prefix (d : Mach) (E : Nat) (p : List Int) {n k : Nat} (h : n ≤ k) : gs d E p n <+: gs d E p k := by
  obtain ⟨m, rfl⟩ := Nat.le.dest h
  clear h
  induction m with
  | zero => exact List.prefix_refl _
  | succ m ih =>
    refine ih.trans ?_
    show gs d E p (n + m) <+: (if _ then _ else _)
    split
    · exact List.prefix_refl _
    · exact List.prefix_append _ _
/-- A list whose s-th number is the s-th state's sign's place among the signs. -/
structure NextIs (d : Mach) (E : Nat) (p : List Int) (n : Nat) (q : List Int) : Prop where
  at_ : ∀ s, s < n → ∃ i : Nat, (gs d E p n)[i]? = some (sg d E p s) ∧ q.getD s 0 = i
theorem NextIs.same {d : Mach} {E n : Nat} {p q : List Int} (h : NextIs d E p n q) {s t : Nat} (hs : s < n) (ht : t < n) : q.getD s 0 = q.getD t 0 ↔ sg d E p s = sg d E p t := by
  obtain ⟨i, hi, e1⟩ := h.at_ s hs
  obtain ⟨j, hj, e2⟩ := h.at_ t ht
  rw [e1, e2]
  constructor
  · intro e
    obtain rfl : i = j := by omega
    rw [hi] at hj
    injection hj
  · intro e
    rw [e] at hi
    have hl : i < (gs d E p n).length := (List.getElem?_eq_some_iff.1 hi).1
    rw [(List.getElem?_inj hl (gs_nodup d E p n)).1 (hi.trans hj.symm)]
theorem NextIs.le {d : Mach} {E n : Nat} {p q : List Int} (h : NextIs d E p n q) {s : Nat} (hs : s < n) : 0 ≤ q.getD s 0 ∧ q.getD s 0 ≤ n := by
  obtain ⟨i, hi, e⟩ := h.at_ s hs
  have := (List.getElem?_eq_some_iff.1 hi).1
  have h2 := gs_cnt d E p n
  have h3 := cnt_le (sg d E p) n
  omega
theorem NextIs.step {d : Mach} {E n : Nat} {p q : List Int} (h : NextIs d E p n q) {i : Nat} (hi : (gs d E p (n + 1))[i]? = some (sg d E p n)) (hq : n < q.length) : NextIs d E p (n + 1) (q.set n (i : Int)) := by
  refine ⟨fun s hs => ?_⟩
  by_cases c : s = n
  · subst c
    exact ⟨i, hi, by rw [List.getD_eq_getElem?_getD, List.getElem?_set, if_pos rfl, if_pos hq]; rfl⟩
  · obtain ⟨j, hj, e⟩ := h.at_ s (by omega)
    refine ⟨j, prefix_getElem? (gs_prefix d E p (Nat.le_succ n)) (List.getElem?_eq_some_iff.1 hj).1 |>.trans hj, ?_⟩
    rw [List.getD_eq_getElem?_getD, List.getElem?_set, if_neg (fun h => c h.symm), ← List.getD_eq_getElem?_getD, e]
/-- p tells apart just what words of up to r events do. -/
def PartIs (d : Mach) (D E r : Nat) (p : List Int) : Prop := ∀ s t, s < D → t < D → (p.getD s 0 = p.getD t 0 ↔ eqk E (dl d E) (dfin d) r s t)
theorem PartIs.next {d : Mach} {D E r : Nat} (hd : DM d D E) {p q : List Int} (h : PartIs d D E r p) (hq : NextIs d E p D q) : PartIs d D E (r + 1) q := fun s t hs ht => by
  rw [hq.same hs ht, sg_eq hd.e8, eqk_succ, h s t hs ht]
  exact and_congr_right fun _ => forall_congr' fun e => forall_congr' fun he => h _ _ (hd.dl_lt hs he) (hd.dl_lt ht he)
theorem sg_finer {d : Mach} {E : Nat} (hE : E ≤ 8) {p : List Int} {D : Nat} : ∀ s t, s < D → t < D → sg d E p s = sg d E p t → p.getD s 0 = p.getD t 0 := fun _ _ _ _ h => ((sg_eq hE).1 h).1
theorem cnt_next {d : Mach} {D E : Nat} {p q : List Int} (hq : NextIs d E p D q) : cnt (fun s => q.getD s 0) D = (gs d E p D).length := by
  rw [gs_cnt]
  exact Nat.le_antisymm (cnt_mono fun s t hs ht h => (hq.same hs ht).2 h) (cnt_mono fun s t hs ht h => (hq.same hs ht).1 h)
theorem cnt_more {d : Mach} {D E : Nat} (hd : DM d D E) (p : List Int) : cnt (fun s => p.getD s 0) D ≤ (gs d E p D).length := by
  rw [gs_cnt]
  exact cnt_mono (sg_finer hd.e8)
/-- As many as before: no word tells more apart. -/
theorem PartIs.done {d : Mach} {D E r : Nat} (hd : DM d D E) {p q : List Int} (h : PartIs d D E r p) (hq : NextIs d E p D q) (hc : cnt (fun s => p.getD s 0) D = (gs d E p D).length) {s t : Nat} (hs : s < D) (ht : t < D) :
    q.getD s 0 = q.getD t 0 ↔ eqA E (dl d E) (dfin d) s t := by
  rw [gs_cnt] at hc
  have hst : ∀ s t, s < D → t < D → eqk E (dl d E) (dfin d) r s t → eqk E (dl d E) (dfin d) (r + 1) s t := fun s t hs ht hk => by
    have e1 := (h s t hs ht).2 hk
    have e2 := kinds_same (sg_finer (D := D) hd.e8) hc hs ht e1
    exact (h.next hd hq s t hs ht).1 ((hq.same hs ht).2 e2)
  rw [h.next hd hq s t hs ht]
  exact ⟨fun hk => eqk_stable (fun s hs e he => hd.dl_lt hs he) hst hs ht (eqk_succ.1 hk).1, fun hk => eqA_iff.1 hk _⟩
/-- The first one: is it an end? -/
def endP (ends : List Int) (D k : Nat) : List Int := (List.range D).map fun (s : Nat) => if (s : Int) ∈ ends.take k then 1 else 0
theorem endP_len (ends : List Int) (D k : Nat) : (endP ends D k).length = D := by simp [endP]
theorem endP_at {ends : List Int} {D k s : Nat} (h : s < D) : (endP ends D k).getD s 0 = if (s : Int) ∈ ends.take k then 1 else 0 := by
  rw [List.getD_eq_getElem?_getD]; simp [endP, h]
theorem endP_zero (ends : List Int) (D : Nat) : endP ends D 0 = List.replicate D 0 := by
  apply List.ext_getElem?
  intro i
  by_cases h : i < D
  · simp [endP, h, List.getElem?_replicate]
  · rw [List.getElem?_eq_none (by rw [endP_len]; omega), List.getElem?_eq_none (by simp; omega)]
theorem endP_set {ends : List Int} {D k s : Nat} (hk : k < ends.length) (hs : ends.getD k 0 = s) (hD : s < D) : (endP ends D k).set s 1 = endP ends D (k + 1) := by
  apply List.ext_getElem?
  intro i
  rw [List.getElem?_set]
  by_cases hi : i < D
  · have ht : ends.take (k + 1) = ends.take k ++ [(s : Int)] := by rw [take_snoc ends 0 k hk, hs]
    by_cases e : s = i
    · subst e
      rw [if_pos rfl, if_pos (by rw [endP_len]; exact hi)]
      simp [endP, hi, ht]
    · rw [if_neg e]
      have e2 : ¬ (i : Int) = (s : Int) := by omega
      simp [endP, hi, ht, e2]
  · rw [if_neg (by omega), List.getElem?_eq_none (by rw [endP_len]; omega), List.getElem?_eq_none (by rw [endP_len]; omega)]
theorem endP_is {d : Mach} {D E : Nat} (_hd : DM d D E) : PartIs d D E 0 (endP d.ends D d.ends.length) := fun s t hs ht => by
  rw [eqk_zero, endP_at hs, endP_at ht, List.take_length]
  unfold dfin
  by_cases c1 : (s : Int) ∈ d.ends <;> by_cases c2 : (t : Int) ∈ d.ends <;> simp [c1, c2]

abbrev sgV (l : List Int) : Value := .agg (iv l).toArray
theorem sgV_inj {l m : List Int} (h : sgV l = sgV m) : l = m := by
  injection h with h
  have h2 : iv l = iv m := by simpa using congrArg Array.toList h
  unfold iv at h2
  exact (List.map_inj_right (fun a b hab => by injection hab)).1 h2
theorem keyed_sg : Maps.Keyed Tryd.prog 158 := Maps.Keyed.of_law (deep_law_laid laidOutK (m := 3) (by decide) (of_decide_eq_true (by kernel_rfl)) (by kernel_rfl) (by kernel_rfl))
theorem i64_wf' {x : Int} (h : I64 x) : (Lit.int .i64 x).wf = true := by
  unfold I64 at h
  simp [Lit.wf, IntKind.min, IntKind.max, IntKind.signed, IntKind.bits]; omega
set_option maxRecDepth 20000 in
theorem key_sg {l : List Int} (h9 : l.length = 9) (hx : ∀ x ∈ l, I64 x) : KeyIs Tryd.prog 158 (sgV l) := by
  have hs : Tryd.prog.types.size + 1 = (Tryd.prog.types.size - 2) + 1 + 1 + 1 := by
    have : 2 < Tryd.prog.types.size := of_decide_eq_true (by kernel_rfl)
    omega
  obtain ⟨n, hn⟩ : ∃ n, Tryd.prog.types.size - 2 = n := ⟨_, rfl⟩
  rw [hn] at hs
  obtain ⟨f0, f1, hu, h0, h1, o0, o1, n0, n1⟩ : ∃ f0 f1 : Field, Tryd.prog.underlying 158 = some (.struct #[f0, f1]) ∧ f0.type = 3 ∧ f1.type = 156 ∧ f0.offset = 0 ∧ f1.offset = 1 ∧ (f0.name != "_") = true ∧ (f1.name != "_") = true :=
    ⟨_, _, Tryd.underlying158, by kernel_rfl, by kernel_rfl, by kernel_rfl, by kernel_rfl, by kernel_rfl, by kernel_rfl⟩
  have hk : Tryd.prog.keyType 158 = true := by kernel_rfl
  have hc9 : Tryd.prog.cellsOf 158 = 9 := by kernel_rfl
  have hc8 : Tryd.prog.cellsOf 156 = 8 := by kernel_rfl
  have hci : Tryd.prog.cellsOf 3 = 1 := by kernel_rfl
  have hui : Tryd.prog.underlying 3 = some (.int .i64) := Tryd.underlying3
  have hua : Tryd.prog.underlying 156 = some (.array 8 3) := Tryd.underlying156
  have hf : (sgV l).formed Tryd.prog 158 = true := by
    simp only [sgV, iv, Value.formed, hu, hc9, beq_iff_eq, List.size_toArray, List.length_map, h9]
  unfold KeyIs keyOf
  simp only [hu, hk, hf, Bool.and_self, if_true]
  refine ⟨.string (keyBytes (l.map fun x => .int .i64 x)), ?_⟩
  have : Tryd.prog.keyLits (Tryd.prog.types.size + 1) 158 (sgV l).cells.toList = some (l.map fun x => .int .i64 x) := by
    rw [hs]
    show Tryd.prog.keyLits (n + 1 + 1 + 1) 158 (iv l) = _
    match l, h9 with
    | [a0, a1, a2, a3, a4, a5, a6, a7, a8], _ =>
    have w := fun x hm => i64_wf' (hx x hm)
    have w0 := w a0 (by simp)
    have w1 := w a1 (by simp)
    have w2 := w a2 (by simp)
    have w3 := w a3 (by simp)
    have w4 := w a4 (by simp)
    have w5 := w a5 (by simp)
    have w6 := w a6 (by simp)
    have w7 := w a7 (by simp)
    have w8 := w a8 (by simp)
    have hA : Tryd.prog.keyLits (n + 1 + 1) 156 [.int .i64 a1, .int .i64 a2, .int .i64 a3, .int .i64 a4, .int .i64 a5, .int .i64 a6, .int .i64 a7, .int .i64 a8] = some [.int .i64 a1, .int .i64 a2, .int .i64 a3, .int .i64 a4, .int .i64 a5, .int .i64 a6, .int .i64 a7, .int .i64 a8] := by
      unfold Program.keyLits
      simp only [hua, hc8, hci, List.length_cons, List.length_nil]
      simp [List.range_succ, Program.keyLits, hui, w1, w2, w3, w4, w5, w6, w7, w8]
    unfold Program.keyLits
    simp only [hu, hc9, iv, List.map_cons, List.map_nil, List.length_cons, List.length_nil, true_and]
    rw [if_pos (by simp [n0, n1])]
    have hB : Tryd.prog.keyLits (n + 1 + 1) 3 [.int .i64 a0] = some [.int .i64 a0] := by simp [Program.keyLits, hui, w0]
    simp [h0, h1, o0, o1, hci, hc8, hA, hB]
  rw [this]; rfl
def kvG (G : List (List Int)) : List (Value × Value) := G.zipIdx.map fun p => (sgV p.1, .int .i64 (p.2 : Int))
theorem kvG_snoc (L : List (List Int)) (s : List Int) : kvG (L ++ [s]) = kvG L ++ [(sgV s, .int .i64 (L.length : Int))] := by
  unfold kvG
  rw [List.zipIdx_append, List.map_append]
  simp
theorem kvG_len (L : List (List Int)) : (kvG L).length = L.length := by simp [kvG]
theorem kvG_mem {L : List (List Int)} {x v : Value} (h : (x, v) ∈ kvG L) : ∃ (i : Nat) (t : List Int), L[i]? = some t ∧ x = sgV t ∧ v = .int .i64 (i : Int) := by
  obtain ⟨⟨t, i⟩, ht, he⟩ := List.mem_map.1 h
  injection he with e1 e2
  exact ⟨i, t, List.mk_mem_zipIdx_iff_getElem?.1 ht, e1.symm, e2.symm⟩
theorem kvG_has {L : List (List Int)} {i : Nat} {t : List Int} (h : L[i]? = some t) : (sgV t, Value.int .i64 (i : Int)) ∈ kvG L := List.mem_map.2 ⟨(t, i), List.mk_mem_zipIdx_iff_getElem?.2 h, rfl⟩
theorem map_len {P : Program} {K : Fr → World → Prop} {f : Fr} {d : Option Nat} {u w : World} {k e t ty b : Nat} {kv : List (Value × Value)} (ht : P.underlying t = some (.map k e)) (h : MapIs P k u b kv) :
    Val1 P K (Builtin.len_ #[t] ty #[.map (some b)]) u f d w = K (updO f d (.int .i64 kv.length)) w := by
  have hlt := h.lt
  obtain ⟨es, cl, hb, he, _⟩ := h
  have hl : es.size = kv.length := by rw [← he, List.length_map, Array.length_toList]
  refine val1_of u f d w fun w' hw' => ?_
  have hb' : w'.heap[b]? = some (.map es cl) := (hw'.block b hlt).trans hb
  simp [Builtin.len_, run_underlying ht, MapKept.run_getObj_map hb', goInt, Result.andThen, hl]
theorem mk_ints' {P : Program} {K : Fr → World → Prop} {w : World} {f : Fr} {d : Option Nat} {t e : Nat} (hT : SlT P t e 1 8) (hz : (P.info? e).bind (·.zero) = some (.int .i64 0)) (n : Nat) (hn : n ≤ 100000)
    (hk : ∀ w', OwnI w.heap.size e w' (some ⟨w.heap.size, 0, none⟩) n (List.replicate n 0) → Below w.heap.size w w' → K (updO f d (.slice (some ⟨w.heap.size, 0, none⟩) n n)) w') :
    Eff1 P K (Instr.makeSlice t (.int .i64 (n : Int)) (.int .i64 (n : Int))) f d w := by
  obtain ⟨i, z, hi, hz', hsz, hby, hc⟩ := hT.get
  have hz0 : z = .int .i64 0 := by rw [hi] at hz; simp [hz'] at hz; exact hz
  subst hz0
  obtain ⟨w', hr, ho, hg⟩ := run_makeSlice_full (P := P) (w := w) w.heap.size t e i _ 1 hT.under hi hz' hsz .i64 .i64 n (by omega) (by rw [hby]; omega) (by unfold maxLen; omega) (Nat.le_refl _)
  rw [eff1_of hr]
  have hl : (madeCells (Value.int .i64 0).cells (n * 1)).toList = iv (List.replicate n 0) := by
    show (madeCells #[Value.int .i64 0] (n * 1)).toList = _
    rw [toList_madeCells_one, Nat.mul_one, iv, List.map_replicate]
  refine hk w' ⟨?_⟩ ?_
  · rw [List.length_replicate, ← hl]; exact ho
  · exact (Below.refl _ _).grown hg (Nat.le_refl _) (fun k hk => by cases hk)

theorem blt_sign : builtPl Tryd.prog 158 = some ([(0, 1), (1, 8)], [.int .i64 0, .int .i64 0, .int .i64 0, .int .i64 0, .int .i64 0, .int .i64 0, .int .i64 0, .int .i64 0, .int .i64 0]) := by kernel_rfl
theorem bl_sign {K : Fr → World → Prop} {u : World} {f : Fr} {d : Option Nat} {w : World} (x : Int) :
    Val1 Tryd.prog K (Instr.build 158 #[(0, .int .i64 x)]) u f d w = K (updO f d (.agg (iv [x, 0, 0, 0, 0, 0, 0, 0, 0]).toArray)) w := by
  refine bld_of ?_
  rw [built_of blt_sign]
  rw [fill_cons (off := 0) (size := 1) rfl rfl (by decide), fill_nil]
  simp [putL, Value.cells, iv]
theorem least_parts {w : World} {a : MV} {d : Mach} {D E : Nat} (hd : DM d D E) (h : IsM (· < w.heap.size) w a d) :
    Cal Tryd.prog 60 [a.val d] w fun v w' => ∃ (g : Nat) (p : List Int), v = .slice (some ⟨g, 0, none⟩) D D ∧ p.length = D ∧ OwnI w.heap.size 3 w' (some ⟨g, 0, none⟩) D p ∧ Below w.heap.size w w' ∧
      (∀ x ∈ p, 0 ≤ x ∧ x ≤ 256) ∧ ∀ s t, s < D → t < D → (p.getD s 0 = p.getD t 0 ↔ eqA E (dl d E) (dfin d) s t) := by
  refine cal_least_parts (by simp) 100000 fun Q hQ => ?_
  have hst := hd.st
  have hev := hd.ev
  have hd0 := hd.d0
  have hdn := hd.dn
  have he8 := hd.e8
  have hel := row_lenH hd.ends
  simp (disch := first | with_reducible assumption | omega) only [push_cast, x_blk, x_cd, ↓reduceIte, Nat.reduceEqDiff, List.map_cons, List.map_nil, Int.reduceEq, Int.lt_irrefl, F_least_parts]
  refine blk_of (box_agg _ (a.cells d)) ?_
  intro w1 k1 b1 z1
  simp (disch := first | with_reducible assumption | omega) only [push_cast, x_blk, x_cd, ↓reduceIte, Nat.reduceEqDiff, List.map_cons, List.map_nil, Int.reduceEq, Int.lt_irrefl, k1.m0 ty_ag_3, hst, e_makeSlice']
  refine mk_ints' slT_22 (by kernel_rfl) D (by omega) ?_
  intro w2 o2 b2
  have k1s := k1.below b2 k1.lt
  have bbs := b1.trans (b2.mono b1.size)
  rw [← endP_zero d.ends] at o2
  replace o2 := o2.base (B' := w.heap.size) b1.size
  have z2 := b2.size
  have hgp : w1.heap.size < w2.heap.size := by
    have := o2.block rfl
    exact this.2
  simp (disch := first | with_reducible assumption | omega) only [push_cast, x_blk, x_cd, ↓reduceIte, Nat.reduceEqDiff, List.map_cons, List.map_nil, Int.reduceEq, Int.lt_irrefl, k1s.m4 ty_ag_22]
  refine loop_rule (fun f w' => ∃ i : Nat, i ≤ d.ends.length ∧ (f 1 = .pointer (some ⟨w.heap.size, 0, none⟩) ∧ f 3 = .slice (some ⟨w1.heap.size, 0, none⟩) D D ∧ f 18 = .slice a.Ae d.ends.length a.ce ∧ f 19 = .int .i64 d.ends.length ∧ f 20 = .int .i64 i) ∧
      Blk w' w.heap.size 25 (a.cells d) ∧ OwnI w.heap.size 3 w' (some ⟨w1.heap.size, 0, none⟩) D (endP d.ends D i) ∧ Below w.heap.size w w')
    (fun f _ => (d.ends.length - intOf (f 20)).toNat) ⟨0, by omega, ⟨rfl, rfl, rfl, rfl, rfl⟩, k1s, o2, bbs⟩ ?_
  clear o2
  rintro f w3 ⟨i, hi, fr, k1, o3, bb⟩ J hJ
  by_cases hlt : (i : Int) < (d.ends.length : Int)
  · have hil : i < d.ends.length := by omega
    have hIe := (h.up bb).ends
    have hIs := hIe.isSome (by omega)
    have hmem := hd.ends.mem (getD_mem d.ends 0 i hil)
    obtain ⟨s, hs⟩ : ∃ s : Nat, d.ends.getD i 0 = s := ⟨(d.ends.getD i 0).toNat, by omega⟩
    have hsD : s < D := by omega
    have hsn := endP_set hil hs hsD
    have hso : (some (⟨w1.heap.size, 0, none⟩ : Addr)).isSome = true := rfl
    simp (disch := first | with_reducible assumption | omega) only [push_cast, x_blk, x_cd, ↓reduceIte, Nat.reduceEqDiff, List.map_cons, List.map_nil, Int.reduceEq, Int.lt_irrefl, L_least_parts_3, fr, hlt, hil, hIs, hIe.ld ty_ag_3 i hil, hs, hsD, hso, Int.natCast_nonneg]
    refine sto_int (by kernel_rfl) (by kernel_rfl) o3 s (by rw [endP_len]; exact hsD) _ ?_
    intro w4 o4 g4 z4
    rw [hsn] at o4
    simp (disch := first | with_reducible assumption | omega) only [push_cast, x_blk, x_cd, ↓reduceIte, Nat.reduceEqDiff, List.map_cons, List.map_nil, Int.reduceEq, Int.lt_irrefl, fr]
    exact hJ _ _ ⟨i + 1, by omega, (by simp only [push_cast, ↓reduceIte, Nat.reduceEqDiff, true_and, and_true, and_self, eq_self, fr]), k1.grown g4.by_ (fun e => o3.ne_blk k1 (by decide) e.symm), o4, g4.below bb bb.size o3.geB⟩ (by simp only [push_cast, ↓reduceIte, Nat.reduceEqDiff, intOf, fr]; omega)
  obtain rfl : i = d.ends.length := by omega
  simp (disch := first | with_reducible assumption | omega) only [push_cast, x_blk, x_cd, ↓reduceIte, Nat.reduceEqDiff, List.map_cons, List.map_nil, Int.reduceEq, Int.lt_irrefl, L_least_parts_3, fr, hlt, Int.lt_irrefl]
  have hP0 := endP_is hd
  have hl0 := endP_len d.ends D d.ends.length
  have hr0 : ∀ x ∈ endP d.ends D d.ends.length, 0 ≤ x ∧ x ≤ 256 := fun x hx => by
    unfold endP at hx
    obtain ⟨s, _, rfl⟩ := List.mem_map.1 hx
    split <;> omega
  generalize endP d.ends D d.ends.length = p0 at *
  refine loop_rule (fun f w' => ∃ (r many gp : Nat) (p : List Int), (f 1 = .pointer (some ⟨w.heap.size, 0, none⟩) ∧ f 3 = .slice (some ⟨gp, 0, none⟩) D D ∧ f 6 = .int .i64 many) ∧ p.length = D ∧ PartIs d D E r p ∧ (∀ x ∈ p, 0 ≤ x ∧ x ≤ 256) ∧ (many = 0 ∨ many = cnt (fun s => p.getD s 0) D) ∧ many ≤ D ∧
      Blk w' w.heap.size 25 (a.cells d) ∧ OwnI w.heap.size 3 w' (some ⟨gp, 0, none⟩) D p ∧ Below w.heap.size w w')
    (fun f _ => (D - intOf (f 6)).toNat) ⟨0, 0, w1.heap.size, p0, ⟨(by simp only [push_cast, ↓reduceIte, Nat.reduceEqDiff, Int.reduceEq, fr]), (by simp only [push_cast, ↓reduceIte, Nat.reduceEqDiff, Int.reduceEq, fr]), rfl⟩, hl0, hP0, hr0, .inl rfl, Nat.zero_le _, k1, o3, bb⟩ ?_
  clear fr hlt hi k1 o3 bb hJ hP0 hl0 hr0
  rintro f w3 ⟨r, many, gp, p, fr, hpl, hP, hpr, hmany, hmD, k1, o3, bb⟩ J2 hJ2
  have hz3 := bb.size
  have hmu : (D - intOf (f 6)).toNat = D - many := by rw [fr.2.2]; simp only [intOf]; omega
  rw [hmu] at hJ2
  have hgp3 : gp < w3.heap.size := (o3.block rfl).2
  simp (disch := first | with_reducible assumption | omega) only [push_cast, x_blk, x_cd, ↓reduceIte, Nat.reduceEqDiff, List.map_cons, List.map_nil, Int.reduceEq, Int.lt_irrefl, L_least_parts_2, fr, e_makeMap]
  refine map_made (k := 158) _ ?_
  intro w4 m4 b4 z4
  replace k1 := k1.below b4 k1.lt
  replace o3 := o3.below b4 (Nat.le_refl _)
  replace bb := bb.trans (b4.mono bb.size)
  simp (disch := first | with_reducible assumption | omega) only [push_cast, x_blk, x_cd, ↓reduceIte, Nat.reduceEqDiff, List.map_cons, List.map_nil, Int.reduceEq, Int.lt_irrefl, fr, k1.m0 ty_ag_3, hst, e_makeSlice']
  refine mk_ints' slT_22 (by kernel_rfl) D (by omega) ?_
  intro w5 o5 b5
  replace k1 := k1.below b5 k1.lt
  replace o3 := o3.below b5 (Nat.le_refl _)
  replace m4 := m4.below b5 m4.lt
  replace bb := bb.trans (b5.mono bb.size)
  have hz4 := b4.size
  have hz5 := b5.size
  have hgq : w4.heap.size < w5.heap.size := (o5.block rfl).2
  have hmt : Tryd.prog.underlying 155 = some (.map 158 3) := Tryd.underlying155
  have hzi : (Tryd.prog.info? 3).map (·.zero) = some (some (.int .i64 0)) := by kernel_rfl
  have hgm := m4.lt
  replace o5 := o5.base (B' := w.heap.size) (by omega)
  generalize hM : w3.heap.size = gM at *
  generalize hq : w4.heap.size = gq at *
  have hgpq : gp < gq := by omega
  have hMw : w.heap.size ≤ gM := by omega
  have hMq : w.heap.size < gq := by omega
  have hN0 : NextIs d E p 0 (List.replicate D 0) := ⟨fun s hs => absurd hs (by omega)⟩
  simp (disch := first | with_reducible assumption | omega) only [push_cast, x_blk, x_cd, ↓reduceIte, Nat.reduceEqDiff, List.map_cons, List.map_nil, Int.reduceEq, Int.lt_irrefl, fr, k1.m0 ty_ag_3, hst]
  clear b4 b5 z4 hz4 hz5 hgm hM hq hgp3
  refine loop_rule (fun f w' => ∃ (s : Nat) (q : List Int), s ≤ D ∧ q.length = D ∧ NextIs d E p s q ∧ (f 1 = .pointer (some ⟨w.heap.size, 0, none⟩) ∧ f 3 = .slice (some ⟨gp, 0, none⟩) D D ∧ f 6 = .int .i64 many ∧ f 7 = .map (some gM) ∧ f 8 = .slice (some ⟨gq, 0, none⟩) D D ∧ f 33 = .int .i64 D ∧ f 34 = .int .i64 s) ∧
      Blk w' w.heap.size 25 (a.cells d) ∧ MapIs Tryd.prog 158 w' gM (kvG (gs d E p s)) ∧ OwnI w.heap.size 3 w' (some ⟨gp, 0, none⟩) D p ∧ OwnI w.heap.size 3 w' (some ⟨gq, 0, none⟩) D q ∧ Below w.heap.size w w')
    (fun f _ => D - (intOf (f 34)).toNat) ⟨0, List.replicate D 0, by omega, by simp, hN0, (by simp only [push_cast, ↓reduceIte, Nat.reduceEqDiff, true_and, and_true, and_self, eq_self, fr]), k1, m4, o3, o5, bb⟩ ?_
  clear fr k1 m4 o3 o5 bb hmu hN0
  rintro f w5 ⟨s, q, hsD, hql, hN, fr, k1, m5, o3, o5, bb⟩ J hJ
  by_cases hlt : (s : Int) < (D : Int)
  case neg =>
    obtain rfl : s = D := by omega
    have hc := cnt_next hN
    have hcm := cnt_more hd p
    have hcD := gs_cnt d E p s
    have hcl := cnt_le (sg d E p) s
    have hpos := cnt_pos (sg d E p) hd0
    have hkl := kvG_len (gs d E p s)
    have hqr : ∀ x ∈ q, 0 ≤ x ∧ x ≤ 256 := fun x hx => by
      obtain ⟨i, hi, rfl⟩ := (mem_iff_getD q 0 x).1 hx
      have := hN.le (s := i) (by omega)
      omega
    have hml := fun {K : Fr → World → Prop} {f : Fr} {d : Option Nat} {w' : World} {ty : Nat} => map_len (P := Tryd.prog) (K := K) (f := f) (d := d) (w := w') (ty := ty) hmt m5
    rw [hkl] at hml
    by_cases hcc : (gs d E p s).length = many
    · have hdone : cnt (fun s => p.getD s 0) s = (gs d E p s).length := by
        rcases hmany with h0 | h0
        · omega
        · omega
      have hce : ((gs d E p s).length : Int) = (many : Int) := by omega
      simp (disch := first | with_reducible assumption | omega) only [push_cast, x_blk, x_cd, ↓reduceIte, Nat.reduceEqDiff, List.map_cons, List.map_nil, Int.reduceEq, Int.lt_irrefl, L_least_parts_1, fr, hlt, Int.lt_irrefl, hml, eq_true hce]
      exact fin_1 (hQ _ _ ⟨gq, q, (by simp only [push_cast, ↓reduceIte, Nat.reduceEqDiff, Int.reduceEq, fr]), hql, o5, bb, hqr, fun s' t' hs ht => hP.done hd hN hdone hs ht⟩)
    · have hce : ¬ ((gs d E p s).length : Int) = (many : Int) := by omega
      simp (disch := first | with_reducible assumption | omega) only [push_cast, x_blk, x_cd, ↓reduceIte, Nat.reduceEqDiff, List.map_cons, List.map_nil, Int.reduceEq, Int.lt_irrefl, L_least_parts_1, fr, hlt, Int.lt_irrefl, hml, eq_false hce]
      have hgt : many < (gs d E p s).length := by
        rcases hmany with h0 | h0 <;> omega
      refine hJ2 _ _ ⟨r + 1, (gs d E p s).length, gq, q, ⟨(by simp only [push_cast, ↓reduceIte, Nat.reduceEqDiff, Int.reduceEq, fr]), (by simp only [push_cast, ↓reduceIte, Nat.reduceEqDiff, Int.reduceEq, fr]), (by simp only [push_cast, ↓reduceIte, Nat.reduceEqDiff, Int.reduceEq])⟩, hql, hP.next hd hN, hqr, .inr hc.symm, by omega, k1, o5, bb⟩ ?_
      simp only [push_cast, ↓reduceIte, Nat.reduceEqDiff, intOf]
      omega
  have hsl : s < D := by omega
  have hIp := OwnI.ints o3
  have hsp : s < p.length := by omega
  have hso : (some (⟨gp, 0, none⟩ : Addr)).isSome = true := rfl
  have hsq : (some (⟨gq, 0, none⟩ : Addr)).isSome = true := rfl
  have hmu : D - (intOf (f 34)).toNat = D - s := by rw [fr.2.2.2.2.2.2]; simp [intOf]
  rw [hmu] at hJ
  simp (disch := first | with_reducible assumption | omega) only [push_cast, x_blk, x_cd, ↓reduceIte, Nat.reduceEqDiff, List.map_cons, List.map_nil, Int.reduceEq, Int.lt_irrefl, L_least_parts_1, fr, hlt, hsl, hso, hIp.ld ty_ag_3 s hsp, bl_sign]
  refine blk_of (cs := iv [0, 0, 0, 0, 0, 0, 0, 0, 0]) al_158 ?_
  intro w6 k6 b6 z6
  simp (disch := first | with_reducible assumption | omega) only [push_cast, x_blk, x_cd, ↓reduceIte, Nat.reduceEqDiff, List.map_cons, List.map_nil, Int.reduceEq, Int.lt_irrefl]
  refine sto_blk k6 (cs := iv (sgP d E p s 0)) ty_sz_158 rfl (by rfl) ?_
  intro w7 k7 g7 z7
  have b7 := g7.below b6 b6.size (by intro a ha; injection ha with ha; subst ha; exact Nat.le_refl _)
  replace k1 := k1.below b7 k1.lt
  replace m5 := m5.below b7 m5.lt
  replace o3 := o3.below b7 (Nat.le_refl _)
  have hgq5 : gq < w5.heap.size := (o5.block rfl).2
  replace o5 := o5.below b7 (Nat.le_refl _)
  have z5 := bb.size
  replace bb := bb.trans (b7.mono bb.size)
  have hgG : gq < w5.heap.size := hgq5
  generalize hG : w5.heap.size = gG at *
  simp (disch := first | with_reducible assumption | omega) only [push_cast, x_blk, x_cd, ↓reduceIte, Nat.reduceEqDiff, List.map_cons, List.map_nil, Int.reduceEq, Int.lt_irrefl, fr, k1.m1 ty_ag_3, hev]
  refine loop_rule (fun f w' => ∃ e : Nat, e ≤ E ∧ (f 1 = .pointer (some ⟨w.heap.size, 0, none⟩) ∧ f 3 = .slice (some ⟨gp, 0, none⟩) D D ∧ f 6 = .int .i64 many ∧ f 7 = .map (some gM) ∧ f 8 = .slice (some ⟨gq, 0, none⟩) D D ∧ f 9 = .int .i64 s ∧ f 10 = .pointer (some ⟨gG, 0, none⟩) ∧ f 33 = .int .i64 D ∧ f 34 = .int .i64 s ∧ f 43 = .int .i64 E ∧ f 44 = .int .i64 e) ∧
      Blk w' gG 158 (iv (sgP d E p s e)) ∧ Blk w' w.heap.size 25 (a.cells d) ∧ MapIs Tryd.prog 158 w' gM (kvG (gs d E p s)) ∧ OwnI w.heap.size 3 w' (some ⟨gp, 0, none⟩) D p ∧ OwnI w.heap.size 3 w' (some ⟨gq, 0, none⟩) D q ∧ Below w.heap.size w w')
    (fun f _ => E - (intOf (f 44)).toNat) ⟨0, by omega, (by simp only [push_cast, ↓reduceIte, Nat.reduceEqDiff, true_and, and_true, and_self, eq_self, fr]), k7, k1, m5, o3, o5, bb⟩ ?_
  clear fr k7 k1 m5 o3 o5 bb hmu hIp z7 b7 g7 k6 b6 z6 w6 w7
  rintro f w6 ⟨e, heE, fr, k7, k1, m5, o3, o5, bb⟩ J3 hJ3
  by_cases hle : (e : Int) < (E : Int)
  case neg =>
    obtain rfl : e = E := by omega
    have hIz := sgP_len d e p s e
    have hx64 : ∀ x ∈ sg d e p s, I64 x := fun x hx => by
      have hI : ∀ i, I64 (p.getD i 0) := fun i => by
        by_cases hi : i < p.length
        · have := hpr _ (getD_mem p 0 i hi); unfold I64; omega
        · rw [List.getD_eq_getElem?_getD, List.getElem?_eq_none (by omega)]; unfold I64; simp
      unfold sg sgP at hx
      rcases List.mem_cons.1 hx with rfl | hx
      · exact hI _
      · obtain ⟨j, _, rfl⟩ := List.mem_map.1 hx
        split
        · exact hI _
        · unfold I64; omega
    have hk := key_sg (l := sg d e p s) hIz hx64
    have hlz := fun {K : Fr → World → Prop} {f : Fr} {d' : Option Nat} {w' : World} => k7.ldAll (P := Tryd.prog) (K := K) (f := f) (d := d') (w := w') ty_ag_158 (by rw [show (iv (sgP d e p s e)).length = 9 by unfold iv; rw [List.length_map, hIz]]; exact ty_sz_158)
    have hstep : ∀ {n : Nat}, (gs d e p (s + 1))[n]? = some (sg d e p s) → NextIs d e p (s + 1) (q.set s (n : Int)) := fun hi => hN.step hi (by omega)
    have hgs : gs d e p (s + 1) = if sg d e p s ∈ gs d e p s then gs d e p s else gs d e p s ++ [sg d e p s] := rfl
    have hne : gq ≠ gp := by omega
    have endJ : ∀ {f' : Fr} {w' w'' : World} {n : Nat}, (gs d e p (s + 1))[n]? = some (sg d e p s) → MapIs Tryd.prog 158 w' gM (kvG (gs d e p (s + 1))) → Blk w' w.heap.size 25 (a.cells d) → OwnI w.heap.size 3 w' (some ⟨gp, 0, none⟩) D p → Below w.heap.size w w' →
        OwnI w.heap.size 3 w' (some ⟨gq, 0, none⟩) D q →
        OwnI w.heap.size 3 w'' (some ⟨gq, 0, none⟩) D (q.set s (n : Int)) → Grew w' w'' (some ⟨gq, 0, none⟩) →
        (f' 1 = .pointer (some ⟨w.heap.size, 0, none⟩) ∧ f' 3 = .slice (some ⟨gp, 0, none⟩) D D ∧ f' 6 = .int .i64 many ∧ f' 7 = .map (some gM) ∧ f' 8 = .slice (some ⟨gq, 0, none⟩) D D ∧ f' 33 = .int .i64 D ∧ f' 34 = .int .i64 ((s + 1 : Nat) : Int)) → D - (intOf (f' 34)).toNat < D - s → J f' w'' := fun hi hm hb ho hbb hqo hq g hf hlt' =>
      hJ _ _ ⟨s + 1, _, by omega, by rw [List.length_set]; exact hql, hstep hi, hf, hb.grown g.by_ (fun e => hqo.ne_blk hb (by decide) e.symm), hm.grown g.by_ (hm.ne_own hqo), ho.grew g (.inr (by simpa using fun e => hne e.symm)), hq, g.below hbb hbb.size hqo.geB⟩ hlt'
    have hmt' := hmt
    simp (disch := first | with_reducible assumption | omega) only [push_cast, x_blk, x_cd, ↓reduceIte, Nat.reduceEqDiff, List.map_cons, List.map_nil, Int.reduceEq, Int.lt_irrefl, L_least_parts_0, fr, hle, Int.lt_irrefl, hlz, v_lookup]
    refine map_look keyed_sg hmt hzi true m5 hk (fun v hv => ?_) fun hno => ?_
    · obtain ⟨n, t, hnt, e1, rfl⟩ := kvG_mem hv
      have e3 := sgV_inj e1
      have hnt' : (gs d e p s)[n]? = some (sg d e p s) := by rw [hnt, ← e3]; rfl
      rw [if_pos (List.mem_of_getElem? hnt')] at hgs
      simp (disch := first | with_reducible assumption | omega) only [push_cast, x_blk, x_cd, ↓reduceIte, Nat.reduceEqDiff, List.map_cons, List.map_nil, Int.reduceEq, Int.lt_irrefl, fr, hsl, hsq]
      refine sto_int (by kernel_rfl) (by kernel_rfl) o5 s (by omega) _ ?_
      intro w8 o8 g8 z8
      simp (disch := first | with_reducible assumption | omega) only [push_cast, x_blk, x_cd, ↓reduceIte, Nat.reduceEqDiff, List.map_cons, List.map_nil, Int.reduceEq, Int.lt_irrefl, fr]
      exact endJ (by rw [hgs]; exact hnt') (by rw [hgs]; exact m5) k1 o3 bb o5 o8 g8 (by simp only [push_cast, ↓reduceIte, Nat.reduceEqDiff, true_and, and_true, and_self, eq_self, fr]) (by simp only [push_cast, ↓reduceIte, Nat.reduceEqDiff, intOf, fr]; omega)
    · have hnm : sg d e p s ∉ gs d e p s := fun hm => by
        obtain ⟨n, hn⟩ := List.mem_iff_getElem?.1 hm
        exact hno _ (kvG_has hn) rfl
      rw [if_neg hnm] at hgs
      have hml := fun {K : Fr → World → Prop} {f : Fr} {d : Option Nat} {w' : World} {ty : Nat} => map_len (P := Tryd.prog) (K := K) (f := f) (d := d) (w := w') (ty := ty) hmt m5
      rw [kvG_len] at hml
      simp (disch := first | with_reducible assumption | omega) only [push_cast, x_blk, x_cd, ↓reduceIte, Nat.reduceEqDiff, List.map_cons, List.map_nil, Int.reduceEq, Int.lt_irrefl, fr, hml, hlz, e_mapUpdate]
      refine map_new keyed_sg hmt m5 hk hno _ ?_
      intro w8 m8 g8 z8
      rw [← kvG_snoc] at m8
      have hMo : ∀ {g : Nat} {q : List Int}, OwnI w.heap.size 3 w6 (some ⟨g, 0, none⟩) D q → (some (⟨g, 0, none⟩ : Addr)).map (·.block) ≠ (some (⟨gM, 0, none⟩ : Addr)).map (·.block) := fun ho e => m5.ne_own ho e.symm
      have k18 := k1.grown g8.by_ (by
        have := m5.ne_blk k1
        simpa using fun e => this e.symm)
      have o38 := o3.grew g8 (.inr (hMo o3))
      have o58 := o5.grew g8 (.inr (hMo o5))
      have bb8 := g8.below bb bb.size (by intro a ha; injection ha with ha; subst ha; exact hMw)
      simp (disch := first | with_reducible assumption | omega) only [push_cast, x_blk, x_cd, ↓reduceIte, Nat.reduceEqDiff, List.map_cons, List.map_nil, Int.reduceEq, Int.lt_irrefl, fr, hsl, hsq]
      refine sto_int (by kernel_rfl) (by kernel_rfl) o58 s (by omega) _ ?_
      intro w9 o9 g9 z9
      simp (disch := first | with_reducible assumption | omega) only [push_cast, x_blk, x_cd, ↓reduceIte, Nat.reduceEqDiff, List.map_cons, List.map_nil, Int.reduceEq, Int.lt_irrefl, fr]
      exact endJ (by rw [hgs, List.getElem?_append_right (Nat.le_refl _), Nat.sub_self]; rfl) (by rw [hgs]; exact m8) k18 o38 bb8 o58 o9 g9 (by simp only [push_cast, ↓reduceIte, Nat.reduceEqDiff, true_and, and_true, and_self, eq_self, fr]) (by simp only [push_cast, ↓reduceIte, Nat.reduceEqDiff, intOf, fr]; omega)
  have hee : e < E := by omega
  have hat := hd.at_ hsl hee
  have hdl := hd.dl_lt hsl hee
  have hde := hd.dl_eq hsl hee
  have hset := sgP_set (d := d) (E := E) (p := p) (s := s) (j := e) (by omega)
  have hAr := (h.up bb).arrows
  have hil : s * E + e < d.arrows.length := by rw [hd.len]; exact hat
  have hAs := hAr.isSome (by omega)
  have hDE : D * E ≤ 256 * 8 := Nat.mul_le_mul hdn he8
  obtain ⟨m0, hm0⟩ : ∃ m0 : Nat, s * E = m0 := ⟨_, rfl⟩
  have hmi : (s : Int) * (E : Int) = (m0 : Int) := by rw [← hm0]; exact (Int.natCast_mul s E).symm
  obtain ⟨m1, hm1⟩ : ∃ m1 : Nat, m0 + e = m1 := ⟨_, rfl⟩
  have hmi1 : (m0 : Int) + (e : Int) = (m1 : Int) := by omega
  have hd2 := hde
  rw [hm0, hm1] at hil hd2
  have hIp := OwnI.ints o3
  have hdp : dl d E s e < p.length := by omega
  have he8' : (e : Int) < 8 := by omega
  generalize hT : dl d E s e = t at *
  simp (disch := first | with_reducible assumption | omega) only [push_cast, x_blk, x_cd, ↓reduceIte, Nat.reduceEqDiff, List.map_cons, List.map_nil, Int.reduceEq, Int.lt_irrefl, L_least_parts_0, fr, hle, k1.m3 ty_ag_23, k1.m1 ty_ag_3, hev, hmi, hmi1, hil, hAs, hAr.ld2 ty_ag_3 m1 hil, hd2, hso, hdl, hIp.ld ty_ag_3 t hdp, he8', Int.natCast_nonneg]
  refine sto_cell k7 (by kernel_rfl) (1 + e) (by unfold iv; rw [List.length_map, sgP_len]; omega) _ _ ?_
  intro w8 k8 g8 z8
  have hks : (iv (sgP d E p s e)).set (1 + e) (.int .i64 (p.getD t 0)) = iv (sgP d E p s (e + 1)) := by rw [← hset]; unfold iv; rw [List.map_set]
  rw [hks] at k8
  simp (disch := first | with_reducible assumption | omega) only [push_cast, x_blk, x_cd, ↓reduceIte, Nat.reduceEqDiff, List.map_cons, List.map_nil, Int.reduceEq, Int.lt_irrefl, fr]
  exact hJ3 _ _ ⟨e + 1, by omega, (by simp only [push_cast, ↓reduceIte, Nat.reduceEqDiff, true_and, and_true, and_self, eq_self, fr]), k8, k1.grown g8.by_ (by simp; omega), m5.grown g8.by_ (by have := m5.ne_blk k7; simpa using this), o3.grew g8 (.inr (o3.ne_blk k7 (by decide))), o5.grew g8 (.inr (o5.ne_blk k7 (by decide))), g8.below bb bb.size (by intro a ha; injection ha with ha; subst ha; show w.heap.size ≤ gG; omega)⟩ (by simp only [push_cast, ↓reduceIte, Nat.reduceEqDiff, intOf, fr]; omega)
end Go.Proofs.YtcjedgiglimipaaDoor
