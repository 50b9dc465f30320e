/-
  Chapter 5: the program's wide: where each state leads to while nothing is seen: rows of sets in one block, each set changed in place: by its contract; and what is seen of a word.
-/
import Derived.Test.YtcjedgiglimipaaDoorZM12
import Derived.Test.YtcjedgiglimipaaDoorZM11
namespace Go.Proofs.YtcjedgiglimipaaDoor
set_option linter.unusedSimpArgs false
set_option linter.unusedVariables false
set_option linter.unusedSectionVars false
open Go.RowKit

section
variable {P : Program} {K : Fr → World → Prop} {f : Fr} {d : Option Nat} {u w w' : World} {g : Nat} {t ty e bytes : Nat}
end
section
variable {P : Program} {K : Fr → World → Prop} {f : Fr} {d : Option Nat} {u w w' : World} {g : Nat} {t ty : Nat} {ws : List Nat} {L1 L2 : List Value}
end
end Go.Proofs.YtcjedgiglimipaaDoor

/-
  Chapter 8: kinds of states of a determined machine, round by round; in plain Lean. And maps whose keys are signs.
-/
namespace Go.Proofs.YtcjedgiglimipaaDoor
set_option linter.unusedSimpArgs false
set_option linter.unusedVariables false
set_option linter.unusedSectionVars false
open Go.RowKit

structure DM (d : Mach) (D E : Nat) : Prop where
  st : d.states = D
  ev : d.events = E
  d0 : 0 < D
  dn : D ≤ 256
  e8 : E ≤ 8
  len : d.arrows.length = D * E
  to : ∀ i, i < D * E → 0 ≤ (d.arrows.getD i default).to_ ∧ (d.arrows.getD i default).to_ < D
  ends : IsRow d.ends D
def dl (d : Mach) (E s e : Nat) : Nat := ((d.arrows.getD (s * E + e) default).to_).toNat
def dfin (d : Mach) (s : Nat) : Prop := (s : Int) ∈ d.ends
theorem DM.at_ {d : Mach} {D E : Nat} (_h : DM d D E) {s e : Nat} (hs : s < D) (he : e < E) : s * E + e < D * E := by
  have : (s + 1) * E ≤ D * E := Nat.mul_le_mul_right _ hs
  rw [Nat.add_mul] at this
  omega
theorem DM.dl_lt {d : Mach} {D E : Nat} (h : DM d D E) {s e : Nat} (hs : s < D) (he : e < E) : dl d E s e < D := by
  have := h.to _ (h.at_ hs he)
  unfold dl; omega
/-- A state's sign, as far as it is written. -/
def sgP (d : Mach) (E : Nat) (p : List Int) (s j : Nat) : List Int := p.getD s 0 :: (List.range 8).map fun e => if e < j then p.getD (dl d E s e) 0 else 0
def sg (d : Mach) (E : Nat) (p : List Int) (s : Nat) : List Int := sgP d E p s E
theorem sg_eq {d : Mach} {E : Nat} (hE : E ≤ 8) {p : List Int} {s t : Nat} : sg d E p s = sg d E p t ↔ (p.getD s 0 = p.getD t 0 ∧ ∀ e, e < E → p.getD (dl d E s e) 0 = p.getD (dl d E t e) 0) := by
  unfold sg sgP
  rw [List.cons.injEq]
  refine and_congr_right fun _ => ⟨fun h e he => ?_, fun h => ?_⟩
  · have := congrArg (fun l => l[e]?) h
    simp only [List.getElem?_map, List.getElem?_range (show e < 8 by omega), Option.map_some, Option.some.injEq, if_pos he] at this
    exact this
  · refine List.map_congr_left fun e _ => ?_
    by_cases he : e < E
    · rw [if_pos he, if_pos he, h e he]
    · rw [if_neg he, if_neg he]
/-- The signs of the states below n, each once, as they come. -/
def gs (d : Mach) (E : Nat) (p : List Int) : Nat → List (List Int)
  | 0 => []
  | n + 1 => if sg d E p n ∈ gs d E p n then gs d E p n else gs d E p n ++ [sg d E p n]
theorem mem_gs {d : Mach} {E : Nat} {p : List Int} : ∀ {n : Nat} {x : List Int}, x ∈ gs d E p n ↔ ∃ s, s < n ∧ sg d E p s = x
  | 0, x => by simp [gs]
  | n + 1, x => by
    have ih := mem_gs (d := d) (E := E) (p := p) (n := n) (x := x)
    show x ∈ (if _ then _ else _) ↔ _
    split
    · rename_i h
      rw [ih]
      refine ⟨fun ⟨s, hs, e⟩ => ⟨s, by omega, e⟩, fun ⟨s, hs, e⟩ => ?_⟩
      by_cases c : s = n
      · subst c
        obtain ⟨s', h1, h2⟩ := (mem_gs (n := s) (x := sg d E p s)).1 h
        exact ⟨s', h1, h2.trans e⟩
      · exact ⟨s, by omega, e⟩
    · rw [List.mem_append, List.mem_singleton, ih]
      refine ⟨fun h => h.elim (fun ⟨s, hs, e⟩ => ⟨s, by omega, e⟩) fun e => ⟨n, by omega, e.symm⟩, fun ⟨s, hs, e⟩ => ?_⟩
      by_cases c : s = n
      · subst c; exact .inr e.symm
      · exact .inl ⟨s, by omega, e⟩
theorem gs_nodup (d : Mach) (E : Nat) (p : List Int) : ∀ n, (gs d E p n).Nodup
  | 0 => List.nodup_nil
  | n + 1 => by
    show (if _ then _ else _ : List (List Int)).Nodup
    split
    · exact gs_nodup d E p n
    · rename_i h
      refine List.nodup_append.2 ⟨gs_nodup d E p n, by simp, fun a ha b hb e => ?_⟩
      rw [List.mem_singleton.1 hb] at e
      exact h (e ▸ ha)
theorem gs_cnt (d : Mach) (E : Nat) (p : List Int) : ∀ n, (gs d E p n).length = cnt (sg d E p) n
  | 0 => rfl
  | n + 1 => by
    rw [cnt_succ, ← gs_cnt d E p n]
    show (if _ then _ else _ : List (List Int)).length = _
    have : NewIn (sg d E p) n ↔ sg d E p n ∉ gs d E p n := ⟨fun h hm => by
      obtain ⟨s, hs, e⟩ := mem_gs.1 hm
      exact h s hs e, fun h s hs e => h (mem_gs.2 ⟨s, hs, e⟩)⟩
    split
    · rename_i h
      rw [if_neg (fun hn => this.1 hn h)]; rfl
    · rename_i h
      rw [if_pos (this.2 h), List.length_append]; rfl
theorem gs_prefix (d : Mach) (E : Nat) (p : List Int) {n k : Nat} (h : n ≤ k) : gs d E p n <+: gs d E p k := by
  obtain ⟨m, rfl⟩ := Nat.le.dest h
  clear h
  induction m with
  | zero => exact List.prefix_refl _
  | succ m ih =>
    refine ih.trans ?_
    show gs d E p (n + m) <+: (if _ then _ else _)
    split
    · exact List.prefix_refl _
    · exact List.prefix_append _ _
/-- A list whose s-th number is the s-th state's sign's place among the signs. -/
structure NextIs (d : Mach) (E : Nat) (p : List Int) (n : Nat) (q : List Int) : Prop where
  at_ : ∀ s, s < n → ∃ i : Nat, (gs d E p n)[i]? = some (sg d E p s) ∧ q.getD s 0 = i
theorem NextIs.same {d : Mach} {E n : Nat} {p q : List Int} (h : NextIs d E p n q) {s t : Nat} (hs : s < n) (ht : t < n) : q.getD s 0 = q.getD t 0 ↔ sg d E p s = sg d E p t := by
  obtain ⟨i, hi, e1⟩ := h.at_ s hs
  obtain ⟨j, hj, e2⟩ := h.at_ t ht
  rw [e1, e2]
  constructor
  · intro e
    obtain rfl : i = j := by omega
    rw [hi] at hj
    injection hj
  · intro e
    rw [e] at hi
    have hl : i < (gs d E p n).length := (List.getElem?_eq_some_iff.1 hi).1
    rw [(List.getElem?_inj hl (gs_nodup d E p n)).1 (hi.trans hj.symm)]
theorem NextIs.le {d : Mach} {E n : Nat} {p q : List Int} (h : NextIs d E p n q) {s : Nat} (hs : s < n) : 0 ≤ q.getD s 0 ∧ q.getD s 0 ≤ n := by
  obtain ⟨i, hi, e⟩ := h.at_ s hs
  have := (List.getElem?_eq_some_iff.1 hi).1
  have h2 := gs_cnt d E p n
  have h3 := cnt_le (sg d E p) n
  omega
theorem NextIs.step {d : Mach} {E n : Nat} {p q : List Int} (h : NextIs d E p n q) {i : Nat} (hi : (gs d E p (n + 1))[i]? = some (sg d E p n)) (hq : n < q.length) : NextIs d E p (n + 1) (q.set n (i : Int)) := by
  refine ⟨fun s hs => ?_⟩
  by_cases c : s = n
  · subst c
    exact ⟨i, hi, by rw [List.getD_eq_getElem?_getD, List.getElem?_set, if_pos rfl, if_pos hq]; rfl⟩
  · obtain ⟨j, hj, e⟩ := h.at_ s (by omega)
    refine ⟨j, prefix_getElem? (gs_prefix d E p (Nat.le_succ n)) (List.getElem?_eq_some_iff.1 hj).1 |>.trans hj, ?_⟩
    rw [List.getD_eq_getElem?_getD, List.getElem?_set, if_neg (fun h => c h.symm), ← List.getD_eq_getElem?_getD, e]
/-- p tells apart just what words of up to r events do. -/
def PartIs (d : Mach) (D E r : Nat) (p : List Int) : Prop := ∀ s t, s < D → t < D → (p.getD s 0 = p.getD t 0 ↔ eqk E (dl d E) (dfin d) r s t)
theorem PartIs.next {d : Mach} {D E r : Nat} (hd : DM d D E) {p q : List Int} (h : PartIs d D E r p) (hq : NextIs d E p D q) : PartIs d D E (r + 1) q := fun s t hs ht => by
  rw [hq.same hs ht, sg_eq hd.e8, eqk_succ, h s t hs ht]
  exact and_congr_right fun _ => forall_congr' fun e => forall_congr' fun he => h _ _ (hd.dl_lt hs he) (hd.dl_lt ht he)
theorem sg_finer {d : Mach} {E : Nat} (hE : E ≤ 8) {p : List Int} {D : Nat} : ∀ s t, s < D → t < D → sg d E p s = sg d E p t → p.getD s 0 = p.getD t 0 := fun _ _ _ _ h => ((sg_eq hE).1 h).1
/-- As many as before: no word tells more apart. -/
theorem PartIs.done {d : Mach} {D E r : Nat} (hd : DM d D E) {p q : List Int} (h : PartIs d D E r p) (hq : NextIs d E p D q) (hc : cnt (fun s => p.getD s 0) D = (gs d E p D).length) {s t : Nat} (hs : s < D) (ht : t < D) :
    q.getD s 0 = q.getD t 0 ↔ eqA E (dl d E) (dfin d) s t := by
  rw [gs_cnt] at hc
  have hst : ∀ s t, s < D → t < D → eqk E (dl d E) (dfin d) r s t → eqk E (dl d E) (dfin d) (r + 1) s t := fun s t hs ht hk => by
    have e1 := (h s t hs ht).2 hk
    have e2 := kinds_same (sg_finer (D := D) hd.e8) hc hs ht e1
    exact (h.next hd hq s t hs ht).1 ((hq.same hs ht).2 e2)
  rw [h.next hd hq s t hs ht]
  exact ⟨fun hk => eqk_stable (fun s hs e he => hd.dl_lt hs he) hst hs ht (eqk_succ.1 hk).1, fun hk => eqA_iff.1 hk _⟩
end Go.Proofs.YtcjedgiglimipaaDoor

/-
  Chapter 8: a determined machine's states by their languages; what the least machine's makers go through; in plain Lean.
-/
namespace Go.Proofs.YtcjedgiglimipaaDoor
set_option linter.unusedSimpArgs false
set_option linter.unusedVariables false
set_option linter.unusedSectionVars false
open Go.RowKit

theorem DM.of {m : Mach} {L : List (List Int)} {ar : List Arr} (h : Det m L ar) : DM (detOf m L ar) L.length m.events.toNat := by
  have hmay := h.may
  refine ⟨rfl, h.ev.symm, h.pos, h.l256, h.n8, h.len, fun i hi => ?_, hmay.2.2.2.2.2.2.1⟩
  have h2 : i < (detOf m L ar).arrows.length := by show i < ar.length; rw [h.len]; exact hi
  have := May.arr hmay (getD_mem _ default i h2)
  exact this.2.1
theorem dm_step {m : Mach} {L : List (List Int)} {ar : List Arr} (h : Det m L ar) {s e : Nat} (hs : s < L.length) (he : e < m.events.toNat) :
    stepL (detOf m L ar) [(s : Int)] (e : Int) = [(dl (detOf m L ar) m.events.toNat s e : Int)] := by
  have hd := DM.of h
  have hat := hd.at_ hs he
  obtain ⟨j, hj, hst⟩ := h.step (p := s) (s := L[s]'hs) (List.getElem?_eq_getElem hs) (e := (e : Int)) (by omega) (by have := h.ev; omega)
  obtain ⟨j', s', ha, _, _⟩ := h.at_ (i := s * m.events.toNat + e) (by rw [h.len]; exact hat)
  have he0 : 0 < m.events.toNat := by omega
  have e1 : (s * m.events.toNat + e) / m.events.toNat = s := by rw [Nat.mul_comm, Nat.mul_add_div he0, Nat.div_eq_of_lt he]; omega
  have e2 : (s * m.events.toNat + e) % m.events.toNat = e := by rw [Nat.mul_comm, Nat.mul_add_mod, Nat.mod_eq_of_lt he]
  rw [e1, e2] at ha
  have hmem : (⟨(s : Int), (e : Int), j'⟩ : Arr) ∈ (detOf m L ar).arrows := by
    show _ ∈ ar
    rw [← ha]
    exact getD_mem _ _ _ (by rw [h.len]; exact hat)
  have hin : (j' : Int) ∈ stepL (detOf m L ar) [(s : Int)] (e : Int) := mem_stepL.2 ⟨_, hmem, rfl, by simp, rfl⟩
  rw [hst] at hin ⊢
  have : dl (detOf m L ar) m.events.toNat s e = j' := by
    unfold dl
    show (((ar.getD (s * m.events.toNat + e) default)).to_).toNat = j'
    rw [ha]; simp
  rw [this, List.mem_singleton.1 hin]
/-- The language from a state on. -/
def lgS (d : Mach) (s : Nat) : Lg := langS d [(s : Int)]
theorem dm_dv {m : Mach} {L : List (List Int)} {ar : List Arr} (h : Det m L ar) {s e : Nat} (hs : s < L.length) (he : e < m.events.toNat) : dv (lgS (detOf m L ar) s) (e : Int) = lgS (detOf m L ar) (dl (detOf m L ar) m.events.toNat s e) := by
  unfold lgS
  rw [dv_lang _ _ (by omega) (by show (e : Int) < m.events; have := h.ev; omega), dm_step h hs he]
theorem dm_first {m : Mach} {L : List (List Int)} {ar : List Arr} (h : Det m L ar) : lgS (detOf m L ar) 0 = langS m m.starts := by
  funext u
  by_cases hu : ∀ x ∈ u, 0 ≤ x ∧ x < m.events
  · obtain ⟨_, _, _, h2⟩ := h.accepts (word := u) fun i hi => hu _ (getD_mem u 0 i hi)
    exact propext ⟨fun hh => ⟨hu, h2.1 hh.2⟩, fun hh => ⟨hu, h2.2 hh.2⟩⟩
  · exact propext ⟨fun hh => absurd hh.1 hu, fun hh => absurd hh.1 hu⟩
noncomputable def ndL (m : Mach) (L : List (List Int)) (ar : List Arr) (fs : List Nat) : List Lg := fs.map (lgS (detOf m L ar))
abbrev nilG : Lg → Prop := fun Y => Y []
structure LQ (m : Mach) (L : List (List Int)) (ar : List Arr) (k j : Nat) (fs : List Nat) (ao : List Arr) : Prop where
  eq : ndL m L ar fs = (bPart dv (evs m.events.toNat) (langS m m.starts) k j).map (·.1)
  lt : ∀ s ∈ fs, s < L.length
  arr : Arrows dv (evs m.events.toNat) k j (ndL m L ar fs) ao
section
variable {m : Mach} {L : List (List Int)} {ar : List Arr} {k j : Nat} {fs : List Nat} {ao : List Arr}
theorem ndL_at {i s : Nat} (h : fs[i]? = some s) : (ndL m L ar fs)[i]? = some (lgS (detOf m L ar) s) := by unfold ndL; rw [List.getElem?_map, h]; rfl
theorem LQ.start (h : Det m L ar) : LQ m L ar 0 0 [0] [] := ⟨by
  show [lgS (detOf m L ar) 0] = _
  rw [dm_first h]; rfl, fun s hs => by rw [List.mem_singleton.1 hs]; exact h.pos, ⟨rfl, by simp⟩⟩
theorem LQ.len (h : LQ m L ar k j fs ao) : fs.length ≤ L.length := by
  have hn : (ndL m L ar fs).Nodup := by
    rw [h.eq]
    exact (bPart_good (step := dv) (es := evs m.events.toNat) (U := fun _ => True) (fun _ _ _ _ => trivial) trivial k j).nodup
  refine nodup_nat_len L.length fs ?_ h.lt
  unfold ndL at hn
  rw [List.nodup_iff_pairwise_ne, List.pairwise_map] at hn
  rw [List.nodup_iff_pairwise_ne]
  exact hn.imp fun hh e => hh (by rw [e])
theorem LQ.pair (h : LQ m L ar k j fs ao) {s : Nat} (hk : fs[k]? = some s) : ∃ q, (bPart dv (evs m.events.toNat) (langS m m.starts) k j)[k]? = some q ∧ q.1 = lgS (detOf m L ar) s := by
  have h1 := ndL_at (m := m) (L := L) (ar := ar) hk
  rw [h.eq, List.getElem?_map] at h1
  cases hq : (bPart dv (evs m.events.toNat) (langS m m.starts) k j)[k]? with
  | none => rw [hq] at h1; cases h1
  | some q => rw [hq] at h1; exact ⟨q, rfl, Option.some.inj h1⟩
theorem LQ.old (hD : Det m L ar) (h : LQ m L ar k j fs ao) (hj : j < m.events.toNat) {s : Nat} (hk : fs[k]? = some s) {i u : Nat} (hi : fs[i]? = some u) (he : lgS (detOf m L ar) u = lgS (detOf m L ar) (dl (detOf m L ar) m.events.toNat s j)) :
    LQ m L ar k (j + 1) fs (ao ++ [⟨k, j, i⟩]) := by
  have hs := h.lt s (List.mem_of_getElem? hk)
  obtain ⟨q, hq, hq1⟩ := h.pair hk
  have hej := evs_at _ _ hj
  have hdv := dm_dv hD hs hj
  have hsucc := bPart_succ dv (evs m.events.toNat) (langS m m.starts) k j (by rw [evs_len]; exact hj)
  rw [hej, bAdd_old hq (by rw [hq1, hdv, ← he, ← h.eq]; exact List.mem_of_getElem? (ndL_at hi))] at hsucc
  refine ⟨by rw [hsucc]; exact h.eq, h.lt, ?_⟩
  have := h.arr.add (i := i) (by rw [evs_len]; exact hj) (ndL_at hk) (by rw [hej, hdv, ← he]; exact ndL_at hi)
  rwa [hej] at this
theorem LQ.new (hD : Det m L ar) (h : LQ m L ar k j fs ao) (hj : j < m.events.toNat) {s : Nat} (hk : fs[k]? = some s) (hno : ∀ u ∈ fs, lgS (detOf m L ar) u ≠ lgS (detOf m L ar) (dl (detOf m L ar) m.events.toNat s j)) :
    LQ m L ar k (j + 1) (fs ++ [dl (detOf m L ar) m.events.toNat s j]) (ao ++ [⟨k, j, fs.length⟩]) := by
  have hs := h.lt s (List.mem_of_getElem? hk)
  obtain ⟨q, hq, hq1⟩ := h.pair hk
  have hej := evs_at _ _ hj
  have hdv := dm_dv hD hs hj
  have hsucc := bPart_succ dv (evs m.events.toNat) (langS m m.starts) k j (by rw [evs_len]; exact hj)
  have hnm : dv q.1 (j : Int) ∉ (bPart dv (evs m.events.toNat) (langS m m.starts) k j).map (·.1) := by
    rw [hq1, hdv, ← h.eq]
    intro hm
    obtain ⟨u, hu, e⟩ := List.mem_map.1 hm
    exact hno u hu e
  rw [hej, bAdd_new hq hnm] at hsucc
  have hnd : ndL m L ar (fs ++ [dl (detOf m L ar) m.events.toNat s j]) = ndL m L ar fs ++ [lgS (detOf m L ar) (dl (detOf m L ar) m.events.toNat s j)] := by unfold ndL; rw [List.map_append]; rfl
  refine ⟨by rw [hsucc, hnd, List.map_append, h.eq, List.map_singleton, hq1, hdv], fun u hu => ?_, ?_⟩
  · rcases List.mem_append.1 hu with hu | hu
    · exact h.lt u hu
    · rw [List.mem_singleton.1 hu]; exact (DM.of hD).dl_lt hs hj
  · have hl : (ndL m L ar fs).length = fs.length := List.length_map ..
    have := (h.arr.more (lgS (detOf m L ar) (dl (detOf m L ar) m.events.toNat s j))).add (i := fs.length) (by rw [evs_len]; exact hj) (s := lgS (detOf m L ar) s) (by rw [List.getElem?_append_left (by rw [hl]; exact (List.getElem?_eq_some_iff.1 hk).1)]; exact ndL_at hk)
      (by rw [hej, hdv, ← hl]; simp)
    rw [hej] at this
    rw [hnd]; exact this
theorem LQ.round (h : LQ m L ar k m.events.toNat fs ao) : LQ m L ar (k + 1) 0 fs ao := by
  have h1 := bPart_all (step := dv) (es := evs m.events.toNat) (langS m m.starts) k
  rw [evs_len] at h1
  refine ⟨by rw [h.eq, h1]; rfl, h.lt, ⟨?_, h.arr.2⟩⟩
  have h2 := h.arr.1
  rw [h2, ← prs_all, evs_len]
theorem LQ.done (h : LQ m L ar k 0 fs ao) (hl : L.length ≤ 256) (hk : fs.length = k) : LeastOf m.events (langS m m.starts) ⟨k, m.events, [0], ao, endsG nilG (ndL m L ar fs) k⟩ := by
  have hn : (ndL m L ar fs).length = k := by unfold ndL; rw [List.length_map, hk]
  have hle := h.len
  refine ⟨k, ndL m L ar fs, ao, h.eq, hn, by omega, h.arr, ?_⟩
  unfold detG
  rw [hn]
end
/-- A map from parts to places. -/
def kvP (p : List Int) (fs : List Nat) : List (Value × Value) := fs.zipIdx.map fun q => (Value.int .i64 (p.getD q.1 0), .int .i64 (q.2 : Int))
end Go.Proofs.YtcjedgiglimipaaDoor

/-
  Chapter 7: the program's Least, Within: by their contracts.
-/
namespace Go.Proofs.YtcjedgiglimipaaDoor
set_option linter.unusedSimpArgs false
set_option linter.unusedVariables false
set_option linter.unusedSectionVars false
open Go.RowKit

end Go.Proofs.YtcjedgiglimipaaDoor

/-
  Chapter 7: the reference's places: by their contracts.
  Chapter 7: the reference's Places, Without, Within: by their contracts.
  Chapter 7: the reference's Without, Within; the program's Within; the law WithinTells.
  Chapter 7: the program's Within and the reference's; the law WithinTells: it returns true.
-/
namespace Go.Proofs.YtcjedgiglimipaaDoor
set_option linter.unusedSimpArgs false
set_option linter.unusedVariables false
set_option linter.unusedSectionVars false
section
open Go.RowKit

structure P7 where
  A : Option Addr
  ca : Nat
  a : List Int
  B : Option Addr
  cb : Nat
  b : List Int
  W : Option Addr
  cw : Nat
  w : List Int
def P7.cells (p : P7) : List Value := [.slice p.A p.a.length p.ca, .slice p.B p.b.length p.cb, .slice p.W p.w.length p.cw]
def P7.abs (p : P7) : St × List Int := ((p.a, p.b), p.w)
structure P7.Good (B e : Nat) (w : World) (p : P7) : Prop where
  a : RowT B e w p.A p.a
  b : RowT B e w p.B p.b
  w : RowT B e w p.W p.w
  n : p.a.length ≤ 2147483648 ∧ p.b.length ≤ 2147483648 ∧ p.w.length ≤ 2147483648
theorem P7.Good.below {B e : Nat} {w w' : World} {p : P7} (h : P7.Good B e w p) (hb : Below w.heap.size w w') : P7.Good B e w' p := ⟨h.a.below hb, h.b.below hb, h.w.below hb, h.n⟩

end

section
open Go.RowKit

end

section
open Go.RowKit

end

section
open Go.RowKit

end
end Go.Proofs.YtcjedgiglimipaaDoor

/-
  Chapter 6: the reference's Is, Find: by their contracts.
  Chapter 6: the reference's Make, by its contract; the law DetermineMakes.
-/
namespace Go.Proofs.YtcjedgiglimipaaDoor
set_option linter.unusedSimpArgs false
set_option linter.unusedVariables false
set_option linter.unusedSectionVars false
section
open Go.RowKit

end

section
open Go.RowKit

end
end Go.Proofs.YtcjedgiglimipaaDoor

/-
  What lies in blocks that hold elements of some types, or that lay there at first, is kept while rows of other types grow. No program in sight.
-/
namespace Go.Proofs.YtcjedgiglimipaaDoor
set_option linter.unusedSimpArgs false
set_option linter.unusedVariables false
set_option linter.unusedSectionVars false
open Go.RowKit

def TyB (es : List Nat) (B : Nat) (w : World) (b : Nat) : Prop := b < w.heap.size ∧ (b < B ∨ ∃ e, e ∈ es ∧ ∃ cs r, w.heap[b]? = some (.cells cs e r))
structure KeepT (es : List Nat) (B : Nat) (w w' : World) : Prop where
  size : w.heap.size ≤ w'.heap.size
  at_ : ∀ b, TyB es B w b → w'.heap[b]? = w.heap[b]?
section
variable {es : List Nat} {B : Nat} {w w' : World} {A : Option Addr}
theorem TyB.lt {b : Nat} (h : TyB es B w b) : b < w.heap.size := h.1
theorem KeepT.tyb (k : KeepT es B w w') {b : Nat} (h : TyB es B w b) : TyB es B w' b := by
  refine ⟨Nat.lt_of_lt_of_le h.1 k.size, ?_⟩
  rcases h.2 with h2 | ⟨e, he, cs, r, h3⟩
  · exact .inl h2
  · exact .inr ⟨e, he, cs, r, by rw [k.at_ b h]; exact h3⟩
theorem KeepT.refl (w : World) : KeepT es B w w := ⟨Nat.le_refl _, fun _ _ => rfl⟩
theorem KeepT.trans {w2 : World} (h : KeepT es B w w') (k : KeepT es B w' w2) : KeepT es B w w2 := ⟨Nat.le_trans h.size k.size, fun b hb => (k.at_ b (h.tyb hb)).trans (h.at_ b hb)⟩
theorem KeepT.below (h : Below w.heap.size w w') : KeepT es B w w' := ⟨h.size, fun b hb => h.block b hb.1⟩
theorem KeepT.same (h : Same w w') : KeepT es B w w' := .below (h.below _)
theorem KeepT.grew {B' e' sz c n : Nat} {xs : List Value} (ho : Own B' e' sz w A c n xs) (hB : B ≤ B') (hne : e' ∉ es) (hg : Grew w w' A) : KeepT es B w w' :=
  ⟨hg.by_.size, fun b hb => hg.by_.block b hb.1 (by
    rcases ho.own.2 with ⟨h0, _⟩ | ⟨g, cap, cur, hv, hB', hh, _⟩
    · injection h0 with h0; subst h0; simp
    · injection hv with hv
      subst hv
      simp only [Option.map_some, ne_eq, Option.some.injEq]
      rintro rfl
      rcases hb.2 with h1 | ⟨e, he, cs, r, h1⟩
      · omega
      · rw [h1] at hh
        injection hh with hh
        injection hh with _ ht
        exact hne (ht ▸ he))⟩
theorem KeepT.grewB {g i t : Nat} {cs : List Value} (hk : Blk w g t cs) (hB : B ≤ g) (hne : t ∉ es) (hg : Grew w w' (some ⟨g, i, none⟩)) : KeepT es B w w' :=
  ⟨hg.by_.size, fun b hb => hg.by_.block b hb.1 (by
    simp only [Option.map_some, ne_eq, Option.some.injEq]
    rintro rfl
    rcases hb.2 with h1 | ⟨e, he, cs, r, h1⟩
    · omega
    · unfold Blk at hk
      rw [h1] at hk
      injection hk with hh
      injection hh with _ ht
      exact hne (ht ▸ he))⟩
theorem Ints.keepT {l : List Int} (h : Ints (TyB es B w) w A l) (k : KeepT es B w w') : Ints (TyB es B w') w' A l := h.keep' fun b hb => ⟨k.at_ b hb, k.tyb hb⟩
theorem Recs.keepT {α : Type} {enc : α → List Value} {sz : Nat} {l : List α} (h : Recs enc sz (TyB es B w) w A l) (k : KeepT es B w w') : Recs enc sz (TyB es B w') w' A l := h.keep' fun b hb => ⟨k.at_ b hb, k.tyb hb⟩
theorem Ints.tlt {l : List Int} (h : Ints (TyB es B w) w A l) : Ints (· < w.heap.size) w A l := h.mono fun _ hb => hb.1
theorem Recs.tlt {α : Type} {enc : α → List Value} {sz : Nat} {l : List α} (h : Recs enc sz (TyB es B w) w A l) : Recs enc sz (· < w.heap.size) w A l := h.mono fun _ hb => hb.1
theorem Ints.of_arg {l : List Int} (h : Ints (· < B) w A l) (hB : B ≤ w.heap.size) : Ints (TyB es B w) w A l := h.mono fun _ hb => ⟨Nat.lt_of_lt_of_le hb hB, .inl hb⟩
theorem RowT.tyb {e : Nat} {l : List Int} (h : RowT B e w A l) (he : e ∈ es) : Ints (TyB es B w) w A l := h.ints.mono fun _ hb => ⟨hb.1, hb.2.imp id fun ⟨cs, r, hh⟩ => ⟨e, he, cs, r, hh⟩⟩
theorem Own.tyb {B' e sz c n : Nat} {xs : List Value} (h : Own B' e sz w A c n xs) (he : e ∈ es) {b : Nat} (hb : A.map (·.block) = some b) : TyB es B w b := by
  refine ⟨h.ltB hb.symm, .inr ⟨e, he, ?_⟩⟩
  rcases h.own.2 with ⟨h0, _⟩ | ⟨g, cap, cur, hv, hB', hh, _⟩
  · injection h0 with h0; subst h0; cases hb
  · injection hv with hv
    subst hv
    injection hb with hb
    simp only at hb
    subst hb
    exact ⟨_, _, hh⟩
theorem OwnI.tyb {B' e c : Nat} {l : List Int} (h : OwnI B' e w A c l) (he : e ∈ es) : Ints (TyB es B w) w A l := (OwnI.ints h).mono fun _ hb => Own.tyb h he hb.2
theorem OwnR.tyb {α : Type} {enc : α → List Value} {B' e sz c : Nat} {l : List α} (h : OwnR enc B' e sz w A c l) (E : Enc enc sz) (hs : 0 < sz) (he : e ∈ es) : Recs enc sz (TyB es B w) w A l := (OwnR.recs h E hs).mono fun _ hb => Own.tyb h he hb.2
/-- One of two rows of the same kind grows. -/
theorem Own.far {B1 e sz c n B2 e2 sz2 c2 n2 : Nat} {A2 A2' : Option Addr} {xs ys : List Value} (h : Own B1 e sz w A c n xs) (_ : Own B2 e2 sz2 w A2 c2 n2 ys) (hne : A = none ∨ A.map (·.block) ≠ A2.map (·.block))
    (hA : A2'.map (·.block) = A2.map (·.block) ∨ ∃ g, A2'.map (·.block) = some g ∧ w.heap.size ≤ g) : A = none ∨ A.map (·.block) ≠ A2'.map (·.block) := by
  rcases hne with hne | hne
  · exact .inl hne
  · rcases hA with hA | ⟨g, hg, hz⟩
    · exact .inr (by rw [hA]; exact hne)
    · cases A with
      | none => exact .inl rfl
      | some a =>
        refine .inr fun e => ?_
        rw [hg] at e
        have := h.ltB (b := g) e.symm
        omega
theorem far_symm {A A2 : Option Addr} (h : A = none ∨ A.map (·.block) ≠ A2.map (·.block)) : A2 = none ∨ A2.map (·.block) ≠ A.map (·.block) := by
  rcases h with rfl | h
  · cases A2 with
    | none => exact .inl rfl
    | some a => exact .inr (by simp)
  · exact .inr fun e => h e.symm
end
end Go.Proofs.YtcjedgiglimipaaDoor

/-
  Chapter 8: the program's Least: by its contract.
-/
namespace Go.Proofs.YtcjedgiglimipaaDoor
set_option linter.unusedSimpArgs false
set_option linter.unusedVariables false
set_option linter.unusedSectionVars false
open Go.RowKit

def ni (fs : List Nat) : List Int := fs.map fun (n : Nat) => (n : Int)
def Far (A A2 : Option Addr) : Prop := A = none ∨ A.map (·.block) ≠ A2.map (·.block)
theorem Far.symm {A A2 : Option Addr} (h : Far A A2) : Far A2 A := far_symm h
structure LW (wB : World) (go gM gS E : Nat) (p : List Int) (fs : List Nat) (ao : List Arr) (en : List Int) (A Aa Ae : Option Addr) (c ca ce : Nat) (w' : World) : Prop where
  mac : Blk w' go 25 (MV.cells ⟨some ⟨gS, 0, none⟩, 1, Aa, ca, Ae, ce⟩ ⟨0, E, [0], ao, en⟩)
  s0 : OwnI wB.heap.size 3 w' (some ⟨gS, 0, none⟩) 1 [0]
  fo : OwnI wB.heap.size 3 w' A c (ni fs)
  eo : OwnI wB.heap.size 3 w' Ae ce en
  ar : OwnR arrCells wB.heap.size 85 3 w' Aa ca ao
  map : MapIs Tryd.prog 3 w' gM (kvP p fs)
  sf : Far (some ⟨gS, 0, none⟩) A
  se : Far (some ⟨gS, 0, none⟩) Ae
  fe : Far A Ae
  bel : Below wB.heap.size wB w'
  go0 : wB.heap.size ≤ go
  gM0 : wB.heap.size ≤ gM
section
variable {wB : World} {go gM gS E : Nat} {p : List Int} {fs : List Nat} {ao : List Arr} {en : List Int} {A Aa Ae A' Aa' Ae' : Option Addr} {c ca ce c' ca' ce' : Nat} {w w1 w2 : World}
theorem LW.below (h : LW wB go gM gS E p fs ao en A Aa Ae c ca ce w) (b : Below w.heap.size w w1) : LW wB go gM gS E p fs ao en A Aa Ae c ca ce w1 :=
  ⟨h.mac.below b h.mac.lt, h.s0.below b (Nat.le_refl _), h.fo.below b (Nat.le_refl _), h.eo.below b (Nat.le_refl _), h.ar.below b (Nat.le_refl _), h.map.below b h.map.lt, h.sf, h.se, h.fe, h.bel.trans (b.mono h.bel.size), h.go0, h.gM0⟩
theorem LW.arr (h : LW wB go gM gS E p fs ao en A Aa Ae c ca ce w) {ao' : List Arr} (ho : OwnR arrCells wB.heap.size 85 3 w1 Aa' ca' ao') (g : Grew w w1 Aa) (hb1 : Blk w1 go 25 (MV.cells ⟨some ⟨gS, 0, none⟩, 1, Aa, ca, Ae, ce⟩ ⟨0, E, [0], ao, en⟩))
    (hk : Blk w2 go 25 (MV.cells ⟨some ⟨gS, 0, none⟩, 1, Aa', ca', Ae, ce⟩ ⟨0, E, [0], ao', en⟩)) (g2 : Grew w1 w2 (some ⟨go, 0, none⟩)) : LW wB go gM gS E p fs ao' en A Aa' Ae c ca' ce w2 := by
  have o1 := h.s0.grew g (Own.apart h.s0 h.ar (by decide))
  have o2 := h.fo.grew g (Own.apart h.fo h.ar (by decide))
  have o3 := h.eo.grew g (Own.apart h.eo h.ar (by decide))
  have m1 := h.map.grown g.by_ (h.map.ne_own h.ar)
  have bl := g.below h.bel h.bel.size h.ar.geB
  exact ⟨hk, o1.grew g2 (.inr (o1.ne_blk hb1 (by decide))), o2.grew g2 (.inr (o2.ne_blk hb1 (by decide))), o3.grew g2 (.inr (o3.ne_blk hb1 (by decide))), ho.grew g2 (.inr (ho.ne_blk hb1 (by decide))), m1.grown g2.by_ (by simpa using m1.ne_blk hb1), h.sf, h.se, h.fe, g2.below bl bl.size (by intro a ha; injection ha with ha; subst ha; exact h.go0), h.go0, h.gM0⟩
theorem LW.ends (h : LW wB go gM gS E p fs ao en A Aa Ae c ca ce w) {en' : List Int} (ho : OwnI wB.heap.size 3 w1 Ae' ce' en') (g : Grew w w1 Ae) (hA : Ae'.map (·.block) = Ae.map (·.block) ∨ ∃ g, Ae'.map (·.block) = some g ∧ w.heap.size ≤ g) (hb1 : Blk w1 go 25 (MV.cells ⟨some ⟨gS, 0, none⟩, 1, Aa, ca, Ae, ce⟩ ⟨0, E, [0], ao, en⟩))
    (hk : Blk w2 go 25 (MV.cells ⟨some ⟨gS, 0, none⟩, 1, Aa, ca, Ae', ce'⟩ ⟨0, E, [0], ao, en'⟩)) (g2 : Grew w1 w2 (some ⟨go, 0, none⟩)) : LW wB go gM gS E p fs ao en' A Aa Ae' c ca ce' w2 := by
  have o1 := h.s0.grew g h.se
  have o2 := h.fo.grew g h.fe
  have o3 := h.ar.grew g (Own.apart h.ar h.eo (by decide))
  have m1 := h.map.grown g.by_ (h.map.ne_own h.eo)
  have bl := g.below h.bel h.bel.size h.eo.geB
  exact ⟨hk, o1.grew g2 (.inr (o1.ne_blk hb1 (by decide))), o2.grew g2 (.inr (o2.ne_blk hb1 (by decide))), ho.grew g2 (.inr (ho.ne_blk hb1 (by decide))), o3.grew g2 (.inr (o3.ne_blk hb1 (by decide))), m1.grown g2.by_ (by simpa using m1.ne_blk hb1), h.sf, Own.far h.s0 h.eo h.se hA, Own.far h.fo h.eo h.fe hA, g2.below bl bl.size (by intro a ha; injection ha with ha; subst ha; exact h.go0), h.go0, h.gM0⟩
theorem LW.new (h : LW wB go gM gS E p fs ao en A Aa Ae c ca ce w) {t : Nat} (hm : MapIs Tryd.prog 3 w1 gM (kvP p (fs ++ [t]))) (g : Grew w w1 (some ⟨gM, 0, none⟩)) (hf1 : OwnI wB.heap.size 3 w1 A c (ni fs))
    (ho : OwnI wB.heap.size 3 w2 A' c' (ni (fs ++ [t]))) (g2 : Grew w1 w2 A) (hA : A'.map (·.block) = A.map (·.block) ∨ ∃ g, A'.map (·.block) = some g ∧ w1.heap.size ≤ g) : LW wB go gM gS E p (fs ++ [t]) ao en A' Aa Ae c' ca ce w2 := by
  have o1 := h.s0.grew g (.inr fun e => h.map.ne_own h.s0 e.symm)
  have o2 := h.eo.grew g (.inr fun e => h.map.ne_own h.eo e.symm)
  have o3 := h.ar.grew g (.inr fun e => h.map.ne_own h.ar e.symm)
  have k1 := h.mac.grown g.by_ (by have := h.map.ne_blk h.mac; simpa using fun e => this e.symm)
  have bl := g.below h.bel h.bel.size (by intro a ha; injection ha with ha; subst ha; exact h.gM0)
  exact ⟨k1.grown g2.by_ (fun e => hf1.ne_blk k1 (by decide) e.symm), o1.grew g2 h.sf, ho, o2.grew g2 h.fe.symm, o3.grew g2 (Own.apart o3 hf1 (by decide)), hm.grown g2.by_ (hm.ne_own hf1), Own.far o1 hf1 h.sf hA, h.se, far_symm (Own.far o2 hf1 h.fe.symm hA), g2.below bl bl.size hf1.geB, h.go0, h.gM0⟩
end
end Go.Proofs.YtcjedgiglimipaaDoor

/-
  Chapter 8's reference: where a state leads to; which states a word tells apart: by their contracts.
-/
namespace Go.Proofs.YtcjedgiglimipaaDoor
set_option linter.unusedSimpArgs false
set_option linter.unusedVariables false
set_option linter.unusedSectionVars false
open Go.RowKit

def gb (B : List (List Bool)) (s t : Nat) : Bool := (B.getD s []).getD t false
def setT (B : List (List Bool)) (s t : Nat) : List (List Bool) := B.set s ((B.getD s []).set t true)
structure Sq (D : Nat) (B : List (List Bool)) : Prop where
  len : B.length = D
  row : ∀ s, s < D → (B.getD s []).length = D
theorem gb_setT {D : Nat} {B : List (List Bool)} (h : Sq D B) {s t : Nat} (hs : s < D) (ht : t < D) (s' t' : Nat) : gb (setT B s t) s' t' = if s' = s ∧ t' = t then true else gb B s' t' := by
  unfold gb setT
  rw [getD_set _ _ _ _ _ (by rw [h.len]; exact hs)]
  by_cases e : s' = s
  · subst e
    rw [if_pos rfl, getD_set _ _ _ _ _ (by rw [h.row s' hs]; exact ht)]
    by_cases e2 : t' = t
    · rw [if_pos e2, if_pos ⟨rfl, e2⟩]
    · rw [if_neg e2, if_neg (fun hh => e2 hh.2)]
  · rw [if_neg e, if_neg (fun hh => e hh.1)]
theorem Sq.setT {D : Nat} {B : List (List Bool)} (h : Sq D B) (s t : Nat) : Sq D (setT B s t) := by
  refine ⟨by unfold Go.Proofs.YtcjedgiglimipaaDoor.setT; rw [List.length_set]; exact h.len, fun s' hs' => ?_⟩
  unfold Go.Proofs.YtcjedgiglimipaaDoor.setT
  by_cases hs : s < D
  · rw [getD_set _ _ _ _ _ (by rw [h.len]; exact hs)]
    by_cases e : s' = s
    · rw [if_pos e, List.length_set]; exact h.row s hs
    · rw [if_neg e]; exact h.row s' hs'
  · rw [List.set_eq_of_length_le (by rw [h.len]; omega)]; exact h.row s' hs'
def prD (D : Nat) : List (Nat × Nat) := (List.range D).flatMap fun s => (List.range D).map fun t => (s, t)
theorem mem_prD {D : Nat} {q : Nat × Nat} : q ∈ prD D ↔ q.1 < D ∧ q.2 < D := by
  unfold prD
  simp only [List.mem_flatMap, List.mem_range, List.mem_map]
  constructor
  · rintro ⟨s, hs, t, ht, rfl⟩; exact ⟨hs, ht⟩
  · rintro ⟨h1, h2⟩; exact ⟨q.1, h1, q.2, h2, rfl⟩
/-- How many pairs are not apart. -/
def cF (D : Nat) (B : List (List Bool)) : Nat := (prD D).countP fun q => !gb B q.1 q.2
theorem countP_lt3 {α : Type} {p q : α → Bool} : ∀ {l : List α}, (∀ x ∈ l, q x = true → p x = true) → (∃ x ∈ l, p x = true ∧ q x = false) → l.countP q < l.countP p
  | [], _, ⟨x, hx, _⟩ => absurd hx (by simp)
  | a :: l, h, ⟨x, hx, h1, h2⟩ => by
    have hle : l.countP q ≤ l.countP p := List.countP_mono_left fun y hy => h y (List.mem_cons_of_mem _ hy)
    rw [List.countP_cons, List.countP_cons]
    rcases List.mem_cons.1 hx with rfl | hx
    · rw [h1, h2]; simp; omega
    · have ih := countP_lt3 (l := l) (fun y hy => h y (List.mem_cons_of_mem _ hy)) ⟨x, hx, h1, h2⟩
      have ha := h a (List.mem_cons_self ..)
      cases hq : q a <;> cases hp : p a <;> simp_all <;> omega
theorem cF_set {D : Nat} {B : List (List Bool)} (h : Sq D B) {s t : Nat} (hs : s < D) (ht : t < D) (hb : gb B s t = false) : cF D (setT B s t) < cF D B := by
  unfold cF
  refine countP_lt3 (fun q _ hq => ?_) ⟨(s, t), mem_prD.2 ⟨hs, ht⟩, by simp [hb], by rw [gb_setT h hs ht, if_pos ⟨rfl, rfl⟩]; rfl⟩
  rw [gb_setT h hs ht] at hq
  split at hq
  · cases hq
  · exact hq
section
variable {d : Mach} {D E : Nat}
/-- What is in the table is apart; and what ends alone tell apart is in it. -/
structure Tb (d : Mach) (D E : Nat) (B : List (List Bool)) : Prop where
  sq : Sq D B
  sound : ∀ s t, s < D → t < D → gb B s t = true → ¬ eqA E (dl d E) (dfin d) s t
  ends : ∀ s t, s < D → t < D → gb B s t = false → (dfin d s ↔ dfin d t)
theorem Tb.add (hd : DM d D E) {B : List (List Bool)} (h : Tb d D E B) {s t e : Nat} (hs : s < D) (ht : t < D) (he : e < E) (hb : gb B (dl d E s e) (dl d E t e) = true) : Tb d D E (setT B s t) := by
  refine ⟨h.sq.setT s t, fun s' t' hs' ht' hg => ?_, fun s' t' hs' ht' hg => ?_⟩
  · rw [gb_setT h.sq hs ht] at hg
    split at hg
    · rename_i hh
      obtain ⟨rfl, rfl⟩ := hh
      exact fun hq => h.sound _ _ (hd.dl_lt hs' he) (hd.dl_lt ht' he) hb (eqA_step hq he)
    · exact h.sound s' t' hs' ht' hg
  · rw [gb_setT h.sq hs ht] at hg
    split at hg
    · cases hg
    · exact h.ends s' t' hs' ht' hg
/-- Nothing changes any more: what is not in the table is not apart. -/
theorem Tb.done (hd : DM d D E) {B : List (List Bool)} (h : Tb d D E B) (hst : ∀ s t, s < D → t < D → gb B s t = false → ∀ e, e < E → gb B (dl d E s e) (dl d E t e) = false) {s t : Nat} (hs : s < D) (ht : t < D) :
    gb B s t = false ↔ eqA E (dl d E) (dfin d) s t := by
  constructor
  · exact fun hb => eqA_of_bisim (n := D) (R := fun s t => gb B s t = false) (fun s hs e he => hd.dl_lt hs he) (fun s t hs ht hr => h.ends s t hs ht hr) (fun s t hs ht hr e he => hst s t hs ht hr e he) hs ht hb
  · intro hq
    cases hb : gb B s t with
    | false => rfl
    | true => exact absurd hq (h.sound s t hs ht hb)
/-- A round, as far as it has come: nothing new so far, and all that was looked at leads to what is not apart; or something new. -/
def Rnd (d : Mach) (D E : Nat) (B0 B : List (List Bool)) (ag : Bool) (p : Nat → Nat → Nat → Prop) : Prop :=
  (ag = false ∧ B = B0 ∧ ∀ s t e, s < D → t < D → e < E → p s t e → gb B s t = false → gb B (dl d E s e) (dl d E t e) = false) ∨ (ag = true ∧ cF D B < cF D B0)
end

theorem Blk.ne {w : World} {g g' t t' : Nat} {cs cs' : List Value} (h : Blk w g t cs) (h' : Blk w g' t' cs') (ht : t ≠ t') : g ≠ g' := fun e => by
  have h1 : w.heap[g]? = _ := h
  have h2 : w.heap[g']? = _ := h'
  rw [e, h2] at h1
  injection h1 with h1
  injection h1 with _ h1
  exact ht h1.symm
abbrev nilHd : Hd := ⟨none, 0, []⟩
def hdS (h : Hd) : Value := .slice h.A h.l.length h.c
def slO (D : Nat) (o : Option Nat) : Value := match o with | none => .slice none 0 0 | some g => .slice (some ⟨g, 0, none⟩) D D
open Classical in
noncomputable def rowA (d : Mach) (D i k : Nat) : List Bool := (List.range D).map fun u => if u < k then (decide ((i : Int) ∈ d.ends) != decide ((u : Int) ∈ d.ends)) else false
def leadA (d : Mach) (E s e : Nat) : List Int := (List.range e).map fun e => (dl d E s e : Int)
/-- The first k rows of the table, and of where states lead to, as they were made. -/
structure A1 (wB : World) (d : Mach) (D E gT gl k : Nat) (os : List (Option Nat)) (hs : List Hd) (w : World) : Prop where
  tb : Blk w gT 100 (os.map (slO D))
  ld : Blk w gl 22 (hs.map hdS)
  ol : os.length = D
  hl : hs.length = D
  row : ∀ (i g : Nat), i < k → os[i]? = some (some g) → Blk w g 4 ((rowA d D i D).map Value.bool)
  some_ : ∀ i : Nat, i < k → ∃ g, os[i]? = some (some g)
  ge : ∀ (i g : Nat), os[i]? = some (some g) → wB.heap.size ≤ g ∧ g < w.heap.size
  inj : ∀ (i j g : Nat), os[i]? = some (some g) → os[j]? = some (some g) → i = j
  nils : ∀ i : Nat, k ≤ i → i < D → os[i]? = some none ∧ hs[i]? = some nilHd
  own : ∀ x ∈ hs, OwnI wB.heap.size 3 w x.A x.c x.l
  lead : ∀ (i : Nat) (x : Hd), i < k → hs[i]? = some x → x.l = leadA d E i E
  bel : Below wB.heap.size wB w
  lo : wB.heap.size ≤ gT ∧ wB.heap.size ≤ gl
/-- .. and the next ones, as far as they are made. -/
structure A2 (wB : World) (d : Mach) (D E gT gl s g : Nat) (os : List (Option Nat)) (hs : List Hd) (cur : Hd) (r : List Bool) (w : World) : Prop where
  tb : Blk w gT 100 (os.map (slO D))
  ld : Blk w gl 22 ((hs.set s cur).map hdS)
  ol : os.length = D
  hl : hs.length = D
  row : ∀ (i g : Nat), i < s → os[i]? = some (some g) → Blk w g 4 ((rowA d D i D).map Value.bool)
  cu : Blk w g 4 (r.map Value.bool)
  at_ : os[s]? = some (some g)
  some_ : ∀ i : Nat, i < s → ∃ g, os[i]? = some (some g)
  ge : ∀ (i g : Nat), os[i]? = some (some g) → wB.heap.size ≤ g ∧ g < w.heap.size
  inj : ∀ (i j g : Nat), os[i]? = some (some g) → os[j]? = some (some g) → i = j
  nils : ∀ i : Nat, s < i → i < D → os[i]? = some none ∧ hs[i]? = some nilHd
  own : ∀ x ∈ hs, OwnI wB.heap.size 3 w x.A x.c x.l
  ownc : OwnI wB.heap.size 3 w cur.A cur.c cur.l
  far : ∀ x ∈ hs, Far x.A cur.A
  lead : ∀ (i : Nat) (x : Hd), i < s → hs[i]? = some x → x.l = leadA d E i E
  bel : Below wB.heap.size wB w
  lo : wB.heap.size ≤ gT ∧ wB.heap.size ≤ gl
section
variable {wB : World} {d : Mach} {D E gT gl s g : Nat} {os : List (Option Nat)} {hs : List Hd} {cur : Hd} {r : List Bool} {w w1 : World}
theorem A1.below (h : A1 wB d D E gT gl s os hs w) (b : Below w.heap.size w w1) : A1 wB d D E gT gl s os hs w1 :=
  ⟨h.tb.below b h.tb.lt, h.ld.below b h.ld.lt, h.ol, h.hl, fun i g hi hg => (h.row i g hi hg).below b (h.row i g hi hg).lt, h.some_, fun i g hg => ⟨(h.ge i g hg).1, by have := (h.ge i g hg).2; have := b.size; omega⟩, h.inj, h.nils, fun x hx => (h.own x hx).below b (Nat.le_refl _), h.lead, h.bel.trans (b.mono h.bel.size), h.lo⟩
theorem A2.below (h : A2 wB d D E gT gl s g os hs cur r w) (b : Below w.heap.size w w1) : A2 wB d D E gT gl s g os hs cur r w1 :=
  ⟨h.tb.below b h.tb.lt, h.ld.below b h.ld.lt, h.ol, h.hl, fun i g hi hg => (h.row i g hi hg).below b (h.row i g hi hg).lt, h.cu.below b h.cu.lt, h.at_, h.some_, fun i g hg => ⟨(h.ge i g hg).1, by have := (h.ge i g hg).2; have := b.size; omega⟩, h.inj, h.nils, fun x hx => (h.own x hx).below b (Nat.le_refl _), h.ownc.below b (Nat.le_refl _), h.far, h.lead, h.bel.trans (b.mono h.bel.size), h.lo⟩
/-- One more state that the next one leads to. -/
theorem A2.more (h : A2 wB d D E gT gl s g os hs cur r w) (hs' : s < D) {A' : Option Addr} {c' : Nat} {l' : List Int} {w2 : World} (ho : OwnI wB.heap.size 3 w1 A' c' l') (gr : Grew w w1 cur.A) (hA : A'.map (·.block) = cur.A.map (·.block) ∨ ∃ g, A'.map (·.block) = some g ∧ w.heap.size ≤ g)
    (ht : Blk w2 gl 22 (((hs.set s cur).map hdS).set s (hdS ⟨A', c', l'⟩))) (gr2 : Grew w1 w2 (some ⟨gl, 0, none⟩)) : A2 wB d D E gT gl s g os hs ⟨A', c', l'⟩ r w2 := by
  have hb1 : ∀ {g' t' : Nat} {cs : List Value}, Blk w g' t' cs → t' ≠ 3 → Blk w1 g' t' cs := fun {g' t' cs} hb hn => hb.grown gr.by_ (fun e => h.ownc.ne_blk hb (fun hh => hn hh.symm) e.symm)
  have hl1 := hb1 h.ld (by decide)
  have hb : ∀ {g' t' : Nat} {cs : List Value}, Blk w g' t' cs → t' ≠ 3 → t' ≠ 22 → Blk w2 g' t' cs := fun {g' t' cs} hb hn hn2 => (hb1 hb hn).grown gr2.by_ (by have := (hb1 hb hn).ne hl1 hn2; simpa using this)
  have hset : ((hs.set s cur).map hdS).set s (hdS ⟨A', c', l'⟩) = (hs.set s ⟨A', c', l'⟩).map hdS := by rw [← List.map_set, List.set_set]
  have z := gr.by_.size
  have z2 := gr2.by_.size
  have bl := gr.below h.bel h.bel.size h.ownc.geB
  have o1 := fun x hx => (h.own x hx).grew gr (h.far x hx)
  exact ⟨hb h.tb (by decide) (by decide), by rw [← hset]; exact ht, h.ol, h.hl, fun i g' hi hg' => hb (h.row i g' hi hg') (by decide) (by decide), hb h.cu (by decide) (by decide), h.at_, h.some_, fun i g' hg' => ⟨(h.ge i g' hg').1, by have := (h.ge i g' hg').2; omega⟩, h.inj, h.nils,
    fun x hx => (o1 x hx).grew gr2 (.inr ((o1 x hx).ne_blk hl1 (by decide))), ho.grew gr2 (.inr (ho.ne_blk hl1 (by decide))), fun x hx => Own.far (h.own x hx) h.ownc (h.far x hx) hA, h.lead, gr2.below bl bl.size (by intro a ha; injection ha with ha; subst ha; exact h.lo.2), h.lo⟩
/-- One more cell of the next row. -/
theorem A2.cell (h : A2 wB d D E gT gl s g os hs cur r w) {r' : List Bool} (hk : Blk w1 g 4 (r'.map Value.bool)) (gr : Grew w w1 (some ⟨g, 0, none⟩)) : A2 wB d D E gT gl s g os hs cur r' w1 := by
  have hb : ∀ {g' t' : Nat} {cs : List Value}, Blk w g' t' cs → g' ≠ g → Blk w1 g' t' cs := fun {g' t' cs} hb hn => hb.grown gr.by_ (by simpa using hn)
  have z := gr.by_.size
  exact ⟨hb h.tb (h.tb.ne h.cu (by decide)), hb h.ld (h.ld.ne h.cu (by decide)), h.ol, h.hl, fun i g' hi hg' => hb (h.row i g' hi hg') (fun e => by subst e; have := h.inj i s g' hg' h.at_; omega), hk, h.at_, h.some_, fun i g' hg' => ⟨(h.ge i g' hg').1, by have := (h.ge i g' hg').2; omega⟩, h.inj, h.nils,
    fun x hx => (h.own x hx).grew gr (.inr ((h.own x hx).ne_blk h.cu (by decide))), h.ownc.grew gr (.inr (h.ownc.ne_blk h.cu (by decide))), h.far, h.lead, gr.below h.bel h.bel.size (by intro a ha; injection ha with ha; subst ha; exact (h.ge s g h.at_).1), h.lo⟩
end

/-- The whole table, as it stands. -/
structure A3 (wB : World) (d : Mach) (D E gT gl : Nat) (os : List (Option Nat)) (hs : List Hd) (B : List (List Bool)) (w : World) : Prop where
  tb : Blk w gT 100 (os.map (slO D))
  ld : Blk w gl 22 (hs.map hdS)
  ol : os.length = D
  hl : hs.length = D
  row : ∀ (i g : Nat), i < D → os[i]? = some (some g) → Blk w g 4 ((B.getD i []).map Value.bool)
  some_ : ∀ i : Nat, i < D → ∃ g, os[i]? = some (some g)
  ge : ∀ (i g : Nat), os[i]? = some (some g) → wB.heap.size ≤ g
  inj : ∀ (i j g : Nat), os[i]? = some (some g) → os[j]? = some (some g) → i = j
  own : ∀ x ∈ hs, OwnI wB.heap.size 3 w x.A x.c x.l
  lead : ∀ (i : Nat) (x : Hd), i < D → hs[i]? = some x → x.l = leadA d E i E
  bel : Below wB.heap.size wB w
theorem A3.same {wB : World} {d : Mach} {D E gT gl : Nat} {os : List (Option Nat)} {hs : List Hd} {B : List (List Bool)} {w w1 : World} (h : A3 wB d D E gT gl os hs B w) (b : Below w.heap.size w w1) : A3 wB d D E gT gl os hs B w1 :=
  ⟨h.tb.below b h.tb.lt, h.ld.below b h.ld.lt, h.ol, h.hl, fun i g hi hg => (h.row i g hi hg).below b (h.row i g hi hg).lt, h.some_, h.ge, h.inj, fun x hx => (h.own x hx).below b (Nat.le_refl _), h.lead, h.bel.trans (b.mono h.bel.size)⟩
noncomputable def tabA (d : Mach) (D : Nat) : List (List Bool) := (List.range D).map fun i => rowA d D i D
theorem tabA_at {d : Mach} {D i : Nat} (h : i < D) : (tabA d D).getD i [] = rowA d D i D := by rw [List.getD_eq_getElem?_getD]; simp [tabA, h]
theorem A1.whole {wB : World} {d : Mach} {D E gT gl : Nat} {os : List (Option Nat)} {hs : List Hd} {w : World} (h : A1 wB d D E gT gl D os hs w) : A3 wB d D E gT gl os hs (tabA d D) w :=
  ⟨h.tb, h.ld, h.ol, h.hl, fun i g hi hg => by rw [tabA_at hi]; exact h.row i g hi hg, h.some_, fun i g hg => (h.ge i g hg).1, h.inj, h.own, h.lead, h.bel⟩
/-- One more pair is apart. -/
theorem A3.set {wB : World} {d : Mach} {D E gT gl s t g : Nat} {os : List (Option Nat)} {hs : List Hd} {B : List (List Bool)} {w w1 : World} (h : A3 wB d D E gT gl os hs B w) (hq : Sq D B) (hs' : s < D) (hg : os[s]? = some (some g)) (hk : Blk w1 g 4 (((B.getD s []).map Value.bool).set t (.bool true))) (gr : Grew w w1 (some ⟨g, 0, none⟩)) :
    A3 wB d D E gT gl os hs (setT B s t) w1 := by
  have hc := h.row s g hs' hg
  have hb : ∀ {g' t' : Nat} {cs : List Value}, Blk w g' t' cs → g' ≠ g → Blk w1 g' t' cs := fun {g' t' cs} hb hn => hb.grown gr.by_ (by simpa using hn)
  refine ⟨hb h.tb (h.tb.ne hc (by decide)), hb h.ld (h.ld.ne hc (by decide)), h.ol, h.hl, fun i g' hi hg' => ?_, h.some_, h.ge, h.inj, fun x hx => (h.own x hx).grew gr (.inr ((h.own x hx).ne_blk hc (by decide))), h.lead, gr.below h.bel h.bel.size (by intro a ha; injection ha with ha; subst ha; exact h.ge s g hg)⟩
  unfold setT
  rw [getD_set _ _ _ _ _ (by rw [hq.len]; exact hs')]
  by_cases e : i = s
  · subst e
    rw [hg] at hg'
    injection hg' with hg'
    injection hg' with hg'
    subst hg'
    rw [if_pos rfl, List.map_set]
    exact hk
  · rw [if_neg e]
    exact hb (h.row i g' hi hg') (fun e2 => by subst e2; exact e (h.inj i s g' hg' hg))
theorem Rnd.hit {d : Mach} {D E : Nat} {B0 B : List (List Bool)} {ag : Bool} {p q : Nat → Nat → Nat → Prop} (h : Rnd d D E B0 B ag p) (hq : Sq D B) {s t : Nat} (hs : s < D) (ht : t < D) (hb : gb B s t = false) : Rnd d D E B0 (setT B s t) true q := by
  have h1 := cF_set hq hs ht hb
  rcases h with ⟨_, rfl, _⟩ | ⟨_, h2⟩
  · exact .inr ⟨rfl, h1⟩
  · exact .inr ⟨rfl, by omega⟩
theorem Rnd.miss {d : Mach} {D E : Nat} {B0 B : List (List Bool)} {ag : Bool} {p q : Nat → Nat → Nat → Prop} (h : Rnd d D E B0 B ag p) {s t e : Nat} (hx : gb B (dl d E s e) (dl d E t e) = false) (hpq : ∀ s' t' e', q s' t' e' → p s' t' e' ∨ (s' = s ∧ t' = t ∧ e' = e)) : Rnd d D E B0 B ag q := by
  rcases h with ⟨h1, h2, h3⟩ | h
  · refine .inl ⟨h1, h2, fun s' t' e' hs ht he hq hb => ?_⟩
    rcases hpq s' t' e' hq with h4 | ⟨rfl, rfl, rfl⟩
    · exact h3 s' t' e' hs ht he h4 hb
    · exact hx
  · exact .inr h
structure LV (wB : World) (go gS E : Nat) (fs : List Nat) (ao : List Arr) (en : List Int) (A Aa Ae : Option Addr) (c ca ce : Nat) (w' : World) : Prop where
  mac : Blk w' go 25 (MV.cells ⟨some ⟨gS, 0, none⟩, 1, Aa, ca, Ae, ce⟩ ⟨0, E, [0], ao, en⟩)
  s0 : OwnI wB.heap.size 3 w' (some ⟨gS, 0, none⟩) 1 [0]
  fo : OwnI wB.heap.size 3 w' A c (ni fs)
  eo : OwnI wB.heap.size 3 w' Ae ce en
  ar : OwnR arrCells wB.heap.size 85 3 w' Aa ca ao
  sf : Far (some ⟨gS, 0, none⟩) A
  se : Far (some ⟨gS, 0, none⟩) Ae
  fe : Far A Ae
  bel : Below wB.heap.size wB w'
  go0 : wB.heap.size ≤ go
section
variable {wB : World} {go gS E : Nat} {fs : List Nat} {ao : List Arr} {en : List Int} {A Aa Ae A' Aa' Ae' : Option Addr} {c ca ce c' ca' ce' : Nat} {w w1 w2 : World}
theorem LV.below (h : LV wB go gS E fs ao en A Aa Ae c ca ce w) (b : Below w.heap.size w w1) : LV wB go gS E fs ao en A Aa Ae c ca ce w1 :=
  ⟨h.mac.below b h.mac.lt, h.s0.below b (Nat.le_refl _), h.fo.below b (Nat.le_refl _), h.eo.below b (Nat.le_refl _), h.ar.below b (Nat.le_refl _), h.sf, h.se, h.fe, h.bel.trans (b.mono h.bel.size), h.go0⟩
theorem LV.arr (h : LV wB go gS E fs ao en A Aa Ae c ca ce w) {ao' : List Arr} (ho : OwnR arrCells wB.heap.size 85 3 w1 Aa' ca' ao') (g : Grew w w1 Aa) (hb1 : Blk w1 go 25 (MV.cells ⟨some ⟨gS, 0, none⟩, 1, Aa, ca, Ae, ce⟩ ⟨0, E, [0], ao, en⟩))
    (hk : Blk w2 go 25 (MV.cells ⟨some ⟨gS, 0, none⟩, 1, Aa', ca', Ae, ce⟩ ⟨0, E, [0], ao', en⟩)) (g2 : Grew w1 w2 (some ⟨go, 0, none⟩)) : LV wB go gS E fs ao' en A Aa' Ae c ca' ce w2 := by
  have o1 := h.s0.grew g (Own.apart h.s0 h.ar (by decide))
  have o2 := h.fo.grew g (Own.apart h.fo h.ar (by decide))
  have o3 := h.eo.grew g (Own.apart h.eo h.ar (by decide))
  have bl := g.below h.bel h.bel.size h.ar.geB
  exact ⟨hk, o1.grew g2 (.inr (o1.ne_blk hb1 (by decide))), o2.grew g2 (.inr (o2.ne_blk hb1 (by decide))), o3.grew g2 (.inr (o3.ne_blk hb1 (by decide))), ho.grew g2 (.inr (ho.ne_blk hb1 (by decide))), h.sf, h.se, h.fe, g2.below bl bl.size (by intro a ha; injection ha with ha; subst ha; exact h.go0), h.go0⟩
theorem LV.ends (h : LV wB go gS E fs ao en A Aa Ae c ca ce w) {en' : List Int} (ho : OwnI wB.heap.size 3 w1 Ae' ce' en') (g : Grew w w1 Ae) (hA : Ae'.map (·.block) = Ae.map (·.block) ∨ ∃ g, Ae'.map (·.block) = some g ∧ w.heap.size ≤ g) (hb1 : Blk w1 go 25 (MV.cells ⟨some ⟨gS, 0, none⟩, 1, Aa, ca, Ae, ce⟩ ⟨0, E, [0], ao, en⟩))
    (hk : Blk w2 go 25 (MV.cells ⟨some ⟨gS, 0, none⟩, 1, Aa, ca, Ae', ce'⟩ ⟨0, E, [0], ao, en'⟩)) (g2 : Grew w1 w2 (some ⟨go, 0, none⟩)) : LV wB go gS E fs ao en' A Aa Ae' c ca ce' w2 := by
  have o1 := h.s0.grew g h.se
  have o2 := h.fo.grew g h.fe
  have o3 := h.ar.grew g (Own.apart h.ar h.eo (by decide))
  have bl := g.below h.bel h.bel.size h.eo.geB
  exact ⟨hk, o1.grew g2 (.inr (o1.ne_blk hb1 (by decide))), o2.grew g2 (.inr (o2.ne_blk hb1 (by decide))), ho.grew g2 (.inr (ho.ne_blk hb1 (by decide))), o3.grew g2 (.inr (o3.ne_blk hb1 (by decide))), h.sf, Own.far h.s0 h.eo h.se hA, Own.far h.fo h.eo h.fe hA, g2.below bl bl.size (by intro a ha; injection ha with ha; subst ha; exact h.go0), h.go0⟩
theorem LV.new (h : LV wB go gS E fs ao en A Aa Ae c ca ce w) {t : Nat} (ho : OwnI wB.heap.size 3 w2 A' c' (ni (fs ++ [t]))) (g2 : Grew w w2 A) (hA : A'.map (·.block) = A.map (·.block) ∨ ∃ g, A'.map (·.block) = some g ∧ w.heap.size ≤ g) : LV wB go gS E (fs ++ [t]) ao en A' Aa Ae c' ca ce w2 :=
  ⟨h.mac.grown g2.by_ (fun e => h.fo.ne_blk h.mac (by decide) e.symm), h.s0.grew g2 h.sf, ho, h.eo.grew g2 h.fe.symm, h.ar.grew g2 (Own.apart h.ar h.fo (by decide)), Own.far h.s0 h.fo h.sf hA, h.se, far_symm (Own.far h.eo h.fo h.fe.symm hA), g2.below h.bel h.bel.size h.fo.geB, h.go0⟩
end
end Go.Proofs.YtcjedgiglimipaaDoor

/-
  Chapter 15, in plain Lean: of each row, by its number: can it be kept? No program in sight.
-/
namespace Go.Proofs.YtcjedgiglimipaaDoor
set_option linter.unusedSimpArgs false
set_option linter.unusedVariables false
set_option linter.unusedSectionVars false
open Go.RowKit

theorem rowN_k {n j k : Nat} (hn : n < 2 ^ j) (hk : j ≤ k) : rowN n k = rowN n j := (rowN_end hk (Nat.div_eq_of_lt hn)).symm
section
variable (p : Plt) (free : List Int)
/-- Where a row leads to, by the events that can't be forbidden: by the numbers. -/
noncomputable def edN (n : Nat) : List Int := (ufE p free).map fun e => ((vnum (nextP p (rowN n 6) e) : Nat) : Int)
structure Gd (D : Nat) (g : List Bool) : Prop where
  len : g.length = D
  sound : ∀ n, n < D → g.getD n false = false → ¬ Kp p free (rowN n 6)
  tells : ∀ n, n < D → g.getD n false = true → ¬ TellsL (rowN n 6) p.secret
end
theorem getD_set_bool (g : List Bool) (n m : Nat) (hn : n < g.length) : (g.set n false).getD m false = if n = m then false else g.getD m false := by
  by_cases c : n = m
  · subst c; rw [if_pos rfl, List.getD_eq_getElem?_getD, List.getElem?_set_self hn]; rfl
  · rw [if_neg c, List.getD_eq_getElem?_getD, List.getElem?_set_ne c, ← List.getD_eq_getElem?_getD]
section
variable {p : Plt} {free : List Int} {st : Nat} (hm : p.m.May) (hst : p.m.states = st) (h6 : st ≤ 6)
include hm hst h6
theorem next_num (s : List Int) (e : Int) : vnum (nextP p s e) < 2 ^ st ∧ rowN (vnum (nextP p s e)) 6 = nextP p s e := by
  have hr : IsRow (nextP p s e) (st : Int) := hst ▸ seeL_row hm _ _ _
  have h1 := num_lt hr
  exact ⟨h1, by rw [rowN_k h1 h6, row_num hr]⟩
theorem edN_mem {n : Nat} {x : Int} : x ∈ edN p free n ↔ ∃ e ∈ ufE p free, x = ((vnum (nextP p (rowN n 6) e) : Nat) : Int) := by
  unfold edN
  rw [List.mem_map]
  exact ⟨fun ⟨e, h1, h2⟩ => ⟨e, h1, h2.symm⟩, fun ⟨e, h1, h2⟩ => ⟨e, h1, h2.symm⟩⟩
theorem edN_rng {n i : Nat} (hi : i < (edN p free n).length) : ∃ (t : Nat) (e : Int), (edN p free n).getD i 0 = (t : Int) ∧ t < 2 ^ st ∧ e ∈ ufE p free ∧ rowN t 6 = nextP p (rowN n 6) e := by
  obtain ⟨e, he, h⟩ := (edN_mem hm hst h6).1 (getD_mem _ 0 i hi)
  have := next_num hm hst h6 (rowN n 6) e
  exact ⟨_, e, h, this.1, he, this.2⟩
theorem Gd.set {g : List Bool} (h : Gd p free (2 ^ st) g) {n i : Nat} (hn : n < 2 ^ st) (hi : i < (edN p free n).length) (hb : g.getD ((edN p free n).getD i 0).toNat false = false) : Gd p free (2 ^ st) (g.set n false) := by
  refine ⟨by rw [List.length_set]; exact h.len, fun k hk hg => ?_, fun k hk hg => ?_⟩
  · rw [getD_set_bool _ _ _ (by rw [h.len]; exact hn)] at hg
    by_cases c : n = k
    · subst c
      obtain ⟨t, e, h1, h2, h3, h4⟩ := edN_rng hm hst h6 hi
      rw [h1, Int.toNat_natCast] at hb
      have := h.sound t h2 hb
      rw [h4] at this
      exact Kp.not_next h3 this
    · rw [if_neg c] at hg; exact h.sound k hk hg
  · rw [getD_set_bool _ _ _ (by rw [h.len]; exact hn)] at hg
    by_cases c : n = k
    · rw [if_pos c] at hg; cases hg
    · rw [if_neg c] at hg; exact h.tells k hk hg
theorem Gd.done {g : List Bool} (h : Gd p free (2 ^ st) g) (hs : ∀ n i, n < 2 ^ st → i < (edN p free n).length → g.getD n false = true → g.getD ((edN p free n).getD i 0).toNat false = true) : ∀ n, n < 2 ^ st → (g.getD n false = true ↔ Kp p free (rowN n 6)) := by
  intro n hn
  constructor
  · intro hg
    refine Kp.of (G := fun s => ∃ n, n < 2 ^ st ∧ g.getD n false = true ∧ rowN n 6 = s) ?_ ?_ ⟨n, hn, hg, rfl⟩
    · rintro s ⟨k, hk, hgk, rfl⟩; exact h.tells k hk hgk
    · rintro s ⟨k, hk, hgk, rfl⟩ e he
      have hnx := next_num hm hst h6 (rowN k 6) e
      obtain ⟨i, hi, hie⟩ := (mem_iff_getD (edN p free k) 0 _).1 ((edN_mem hm hst h6).2 ⟨e, he, rfl⟩)
      have := hs k i hk hi hgk
      rw [hie, Int.toNat_natCast] at this
      exact ⟨_, hnx.1, this, hnx.2⟩
  · intro hk
    cases hg : g.getD n false with
    | true => rfl
    | false => exact absurd hk (h.sound n hn hg)
end
end Go.Proofs.YtcjedgiglimipaaDoor

/-
  Chapter 9's reference: From, Estimate, Tells, Has, Forward, Lesser, Best; the laws' seen, all, best: by their contracts.
-/
namespace Go.Proofs.YtcjedgiglimipaaDoor
set_option linter.unusedSimpArgs false
set_option linter.unusedVariables false
set_option linter.unusedSectionVars false
open Go.RowKit

structure Kn where
  R : Option Addr
  cr : Nat
  r : List Int
  W : Option Addr
  cw : Nat
  w : List Int
def Kn.cells (p : Kn) : List Value := [.slice p.R p.r.length p.cr, .slice p.W p.w.length p.cw]
def Kn.abs (p : Kn) : List Int × List Int := (p.r, p.w)
/-- What is known, and can be read. -/
structure KnAt (B : Nat) (w : World) (p : Kn) : Prop where
  r : RowT B 3 w p.R p.r
  w : RowT B 3 w p.W p.w
  nr : p.r.length ≤ 256
  nw : p.w.length ≤ 100000
theorem KnAt.below {B : Nat} {w w' : World} {p : Kn} (h : KnAt B w p) (b : Below w.heap.size w w') : KnAt B w' p := ⟨h.r.below b, h.w.below b, h.nr, h.nw⟩
theorem KnAt.grew {B e' sz c n : Nat} {w w' : World} {p : Kn} {A2 : Option Addr} {xs : List Value} (h : KnAt B w p) (ho : Own B e' sz w A2 c n xs) (hne : e' ≠ 3) (hg : Grew w w' A2) : KnAt B w' p := ⟨h.r.grew ho hne hg, h.w.grew ho hne hg, h.nr, h.nw⟩
end Go.Proofs.YtcjedgiglimipaaDoor

/-
  Chapter 15's reference: Good: by its contract.
-/
namespace Go.Proofs.YtcjedgiglimipaaDoor
set_option linter.unusedSimpArgs false
set_option linter.unusedVariables false
set_option linter.unusedSectionVars false
open Go.RowKit

/-- All is kept below a mark, but for two blocks. -/
structure KeepO (lo g h : Nat) (w w' : World) : Prop where
  size : w.heap.size ≤ w'.heap.size
  at_ : ∀ b, b < lo → b ≠ g → b ≠ h → w'.heap[b]? = w.heap[b]?
theorem KeepO.below {lo g h : Nat} {w w' : World} (b : Below w.heap.size w w') (hl : lo ≤ w.heap.size) : KeepO lo g h w w' := ⟨b.size, fun k hk _ _ => b.block k (by omega)⟩
theorem KeepO.trans {lo g h : Nat} {w w1 w2 : World} (a : KeepO lo g h w w1) (b : KeepO lo g h w1 w2) : KeepO lo g h w w2 := ⟨Nat.le_trans a.size b.size, fun k h1 h2 h3 => (b.at_ k h1 h2 h3).trans (a.at_ k h1 h2 h3)⟩
theorem KeepO.grewB {lo g h x i : Nat} {w w' : World} (hg : Grew w w' (some ⟨x, i, none⟩)) (hx : x = g ∨ x = h) (hl : lo ≤ w.heap.size) : KeepO lo g h w w' :=
  ⟨hg.by_.size, fun k h1 h2 h3 => hg.by_.block k (by omega) (by simp only [Option.map_some, ne_eq, Option.some.injEq]; omega)⟩
theorem KeepO.grew {lo g h : Nat} {w w' : World} {A : Option Addr} (hg : Grew w w' A) (hA : ∀ a, A = some a → lo ≤ a.block) (hl : lo ≤ w.heap.size) : KeepO lo g h w w' :=
  ⟨hg.by_.size, fun k h1 _ _ => hg.by_.block k (by omega) (by
    cases A with
    | none => simp
    | some a => have := hA a rfl; simp only [Option.map_some, ne_eq, Option.some.injEq]; omega)⟩
theorem KeepO.two {lo g h : Nat} {w w' : World} (a : KeepO lo h h w w') : KeepO lo g h w w' := ⟨a.size, fun k h1 _ h3 => a.at_ k h1 h3 h3⟩
theorem row_lenV {l : List Int} {b : Int} (h : IsRow l b) : l.length ≤ b.toNat := by
  have := nodup_nat_len b.toNat (l.map Int.toNat) (by
    rw [List.nodup_iff_pairwise_ne, List.pairwise_map]
    exact (List.nodup_iff_pairwise_ne.1 (Strict.nodup h.strict)).imp_of_mem fun {x y} hx hy hxy e => hxy (by have := h.mem hx; have := h.mem hy; omega)) fun x hx => by
    obtain ⟨y, hy, rfl⟩ := List.mem_map.1 hx
    have := h.mem hy; omega
  simpa using this
end Go.Proofs.YtcjedgiglimipaaDoor

/-
  Chapter 15's reference: Most: by its contract.
-/
namespace Go.Proofs.YtcjedgiglimipaaDoor
set_option linter.unusedSimpArgs false
set_option linter.unusedVariables false
set_option linter.unusedSectionVars false
open Go.RowKit

/-- The greatest part of some states that can be kept. -/
noncomputable def mostL (p : Plt) (free to : List Int) : List Int := pick fun x => ∃ t, Strict t ∧ (∀ y ∈ t, y ∈ to) ∧ x ∈ t ∧ Kp p free (wideL p.m p.seen t)
theorem part_iff {st : Nat} {to : List Int} (h : IsRow to (st : Int)) (h6 : st ≤ 6) {n : Nat} (hn : n < 64) : PartN n (vnum to) ↔ ∀ y ∈ rowN n 6, y ∈ to := by
  have hb := fun i => num_bit h i
  constructor
  · intro hp y hy
    obtain ⟨i, rfl, _, h2⟩ := rowN_mem.1 hy
    have := hp i h2
    rw [hb] at this
    exact of_decide_eq_true this
  · intro hs i hi
    rw [hb]
    have h6' : i < 6 := by
      rcases Nat.lt_or_ge i 6 with c | c
      · exact c
      · rw [Nat.testBit_lt_two_pow (Nat.lt_of_lt_of_le (show n < 2 ^ 6 from hn) (Nat.pow_le_pow_right (by decide) c))] at hi; cases hi
    exact decide_eq_true (hs _ (rowN_mem.2 ⟨i, rfl, h6', hi⟩))
theorem part_le {a b : Nat} (h : PartN a b) : a ≤ b := Nat.le_of_testBit h
/-- What is joined so far. -/
def MostU (p : Plt) (free to out : List Int) (n : Nat) : Prop := Strict out ∧ ∀ x, x ∈ out ↔ ∃ k, 1 ≤ k ∧ k < n ∧ PartN k (vnum to) ∧ Kp p free (wideL p.m p.seen (rowN k 6)) ∧ x ∈ rowN k 6
theorem MostU.done {p : Plt} {free to out : List Int} {st : Nat} (hr : IsRow to (st : Int)) (h6 : st ≤ 6) (h : MostU p free to out (vnum to + 1)) : out = mostL p free to := by
  have h64 : vnum to < 64 := Nat.lt_of_lt_of_le (num_lt hr) (Nat.le_trans (Nat.pow_le_pow_right (by decide) h6) (by decide))
  have hsm : Small out := fun x hx => by
    obtain ⟨k, _, _, _, _, hx⟩ := (h.2 x).1 hx
    obtain ⟨i, rfl, hi, _⟩ := rowN_mem.1 hx
    omega
  refine pick_eq h.1 hsm fun x => ?_
  rw [h.2]
  constructor
  · rintro ⟨k, h1, h2, h3, h4, h5⟩
    exact ⟨_, rowN_strict _ _, (part_iff hr h6 (by omega)).1 h3, h5, h4⟩
  · rintro ⟨t, h1, h2, h3, h4⟩
    have htr : IsRow t (st : Int) := IsRow.of_strict h1 fun y hy => by have := hr.mem (h2 y hy); omega
    have e1 : rowN (vnum t) 6 = t := by rw [rowN_k (num_lt htr) h6, row_num htr]
    have ht64 : vnum t < 64 := Nat.lt_of_lt_of_le (num_lt htr) (Nat.le_trans (Nat.pow_le_pow_right (by decide) h6) (by decide))
    have hp : PartN (vnum t) (vnum to) := (part_iff hr h6 ht64).2 (by rw [e1]; exact h2)
    refine ⟨vnum t, ?_, by have := part_le hp; omega, hp, by rw [e1]; exact h4, by rw [e1]; exact h3⟩
    rcases Nat.eq_zero_or_pos (vnum t) with c | c
    · rw [c] at e1
      rw [← e1] at h3
      obtain ⟨i, _, _, hi⟩ := rowN_mem.1 h3
      simp at hi
    · exact c
theorem MostU.skip {p : Plt} {free to out : List Int} {n : Nat} (h : MostU p free to out n) (hn : ¬ (PartN n (vnum to) ∧ Kp p free (wideL p.m p.seen (rowN n 6)))) : MostU p free to out (n + 1) := by
  refine ⟨h.1, fun x => ?_⟩
  rw [h.2]
  constructor
  · rintro ⟨k, h1, h2, h3⟩; exact ⟨k, h1, by omega, h3⟩
  · rintro ⟨k, h1, h2, h3, h4, h5⟩
    by_cases c : k = n
    · subst c; exact absurd ⟨h3, h4⟩ hn
    · exact ⟨k, h1, by omega, h3, h4, h5⟩
theorem MostU.join {p : Plt} {free to out : List Int} {n : Nat} (h : MostU p free to out n) (h1 : 1 ≤ n) (h2 : PartN n (vnum to)) (h3 : Kp p free (wideL p.m p.seen (rowN n 6))) : MostU p free to (sortedL (out ++ rowN n 6)) (n + 1) := by
  refine ⟨(sortedL_spec _).1, fun x => ?_⟩
  rw [(sortedL_spec _).2, List.mem_append, h.2]
  constructor
  · rintro (⟨k, g1, g2, g3⟩ | hx)
    · exact ⟨k, g1, by omega, g3⟩
    · exact ⟨n, h1, by omega, h2, h3, hx⟩
  · rintro ⟨k, g1, g2, g3, g4, g5⟩
    by_cases c : k = n
    · subst c; exact .inr g5
    · exact .inl ⟨k, g1, by omega, g3, g4, g5⟩
theorem MostU.row {p : Plt} {free to out : List Int} {n : Nat} (h : MostU p free to out n) : IsRow out 6 := IsRow.of_strict h.1 fun x hx => by
  obtain ⟨k, _, _, _, _, hx⟩ := (h.2 x).1 hx
  obtain ⟨i, rfl, hi, _⟩ := rowN_mem.1 hx
  omega
end Go.Proofs.YtcjedgiglimipaaDoor

/-
  Chapter 15's reference: Stay: by its contract.
-/
namespace Go.Proofs.YtcjedgiglimipaaDoor
set_option linter.unusedSimpArgs false
set_option linter.unusedVariables false
set_option linter.unusedSectionVars false
open Go.RowKit

noncomputable def toL (p : Plt) (free node : List Int) (e : Int) : List Int := if e ∈ free then mostL p free (stepL p.m node e) else stepL p.m node e
def StayIs (m : Mach) (to : List Int) (e s : Int) : Prop := ∃ t ∈ to, stepL m [s] e = [t]
noncomputable def stayL (m : Mach) (to node : List Int) (e : Int) : List Int := node.filter fun s => @decide (StayIs m to e s) (Classical.propDecidable _)
theorem stayL_mem {m : Mach} {to node : List Int} {e s : Int} : s ∈ stayL m to node e ↔ s ∈ node ∧ StayIs m to e s := by
  unfold stayL
  rw [List.mem_filter]
  exact and_congr Iff.rfl (@decide_eq_true_iff _ (Classical.propDecidable _))
theorem stayL_len (m : Mach) (to node : List Int) (e : Int) : (stayL m to node e).length ≤ node.length := by unfold stayL; exact List.length_filter_le _ _
theorem mostL_row {p : Plt} {free to : List Int} {b : Int} (h : IsRow to b) : IsRow (mostL p free to) b := pick_row fun x ⟨_, _, h2, h3, _⟩ => (h.mem (h2 x h3)).2.1
theorem toL_row {p : Plt} (hm : p.m.May) (free node : List Int) (e : Int) : IsRow (toL p free node e) p.m.states := by
  unfold toL
  split
  · exact mostL_row (stepL_row hm _ _)
  · exact stepL_row hm _ _
end Go.Proofs.YtcjedgiglimipaaDoor

/-
  Chapter 15: is a plant plain? By the contracts.
-/
namespace Go.Proofs.YtcjedgiglimipaaDoor
set_option linter.unusedSimpArgs false
set_option linter.unusedVariables false
set_option linter.unusedSectionVars false
open Go.RowKit

def PlainM (m : Mach) : Prop := m.starts.length ≤ 1 ∧ ∀ s e : Int, 0 ≤ s → s < m.states → 0 ≤ e → e < m.events → (stepL m [s] e).length ≤ 1
def KeyEq (a b : Arr) : Prop := a.frm = b.frm ∧ a.evt = b.evt
instance (a b : Arr) : Decidable (KeyEq a b) := inferInstanceAs (Decidable (_ ∧ _))
theorem two_of {l : List Int} (hs : Strict l) (h : ¬ l.length ≤ 1) : ∃ x y, x ∈ l ∧ y ∈ l ∧ x < y := by
  match l, h with
  | [], h => simp at h
  | [x], h => simp at h
  | x :: y :: l, _ => exact ⟨x, y, by simp, by simp, (List.pairwise_cons.1 hs).1 y (by simp)⟩
theorem ord_at {m : Mach} (hm : m.May) {i j : Nat} (hij : i < j) (hj : j < m.arrows.length) : (m.arrows.getD i default).lt (m.arrows.getD j default) := by
  have := List.pairwise_iff_getElem.1 (May.ord hm) i j (by omega) hj hij
  rw [List.getD_eq_getElem?_getD, List.getD_eq_getElem?_getD, List.getElem?_eq_getElem (by omega : i < m.arrows.length), List.getElem?_eq_getElem hj]
  exact this
theorem arr_ix {m : Mach} {a : Arr} (h : a ∈ m.arrows) : ∃ i, i < m.arrows.length ∧ m.arrows.getD i default = a := by
  obtain ⟨i, hi, e⟩ := List.getElem_of_mem h
  exact ⟨i, hi, by rw [List.getD_eq_getElem?_getD, List.getElem?_eq_getElem hi, e]; rfl⟩
theorem plain_adj {m : Mach} (hm : m.May) : PlainM m ↔ m.starts.length ≤ 1 ∧ ∀ i, 0 < i → i < m.arrows.length → ¬ KeyEq (m.arrows.getD (i - 1) default) (m.arrows.getD i default) := by
  refine and_congr Iff.rfl ⟨fun h i h0 hi hk => ?_, fun h s e s0 s1 e0 e1 => Classical.byContradiction fun hn => ?_⟩
  · have hlt := ord_at hm (show i - 1 < i by omega) hi
    have ha := getD_mem m.arrows default (i - 1) (by omega)
    have hb := getD_mem m.arrows default i hi
    generalize m.arrows.getD (i - 1) default = a at *
    generalize m.arrows.getD i default = b at *
    obtain ⟨⟨a1, a2⟩, _, a5, a6⟩ := May.arr hm ha
    have hl := h _ _ a1 a2 a5 a6
    have ma : a.to_ ∈ stepL m [a.frm] a.evt := mem_stepL.2 ⟨a, ha, rfl, by simp, rfl⟩
    have mb : b.to_ ∈ stepL m [a.frm] a.evt := mem_stepL.2 ⟨b, hb, hk.2.symm, by simp [hk.1], rfl⟩
    have hne : a.to_ ≠ b.to_ := by
      unfold Arr.lt at hlt
      obtain ⟨k1, k2⟩ := hk
      omega
    generalize stepL m [a.frm] a.evt = l at *
    match l, hl with
    | [], _ => simp at ma
    | [x], _ => exact hne ((List.mem_singleton.1 ma).trans (List.mem_singleton.1 mb).symm)
  · obtain ⟨x, y, hx, hy, hxy⟩ := two_of (stepL_row hm [s] e).strict hn
    obtain ⟨a, ha, a1, a2, a3⟩ := mem_stepL.1 hx
    obtain ⟨b, hb, b1, b2, b3⟩ := mem_stepL.1 hy
    rw [List.mem_singleton] at a2 b2
    obtain ⟨i, hi, ei⟩ := arr_ix ha
    obtain ⟨j, hj, ej⟩ := arr_ix hb
    have hij : i < j := by
      rcases Nat.lt_trichotomy i j with c | c | c
      · exact c
      · subst c; rw [ei] at ej; rw [ej] at a3; omega
      · have := ord_at hm c hi
        rw [ei, ej] at this
        unfold Arr.lt at this
        omega
    have h1 := ord_at hm (show i < i + 1 by omega) (by omega)
    have hk : KeyEq (m.arrows.getD i default) (m.arrows.getD (i + 1) default) := by
      by_cases c : i + 1 = j
      · rw [c, ei, ej]; exact ⟨a2.trans b2.symm, a1.trans b1.symm⟩
      · have h2 := ord_at hm (show i + 1 < j by omega) hj
        rw [ei] at h1 ⊢
        rw [ej] at h2
        generalize m.arrows.getD (i + 1) default = c at *
        unfold Arr.lt at h1 h2
        unfold KeyEq
        omega
    exact h (i + 1) (by omega) (by omega) (by rw [Nat.add_sub_cancel]; exact hk)
theorem veil_plain {w : World} {a : PV} {p : Plt} (ha : IsP (· < w.heap.size) w a p) (hm : p.m.May) :
    Cal Tryd.prog 70 [a.val p] w fun v w' => (∃ b : Bool, v = .bool b ∧ (b = true ↔ PlainM p.m)) ∧ Below w.heap.size w w' := by
  have nA := hm.2.2.2.2.1
  have hpa := plain_adj hm
  refine cal_veil_plain (by simp) 100000 fun Q hQ => ?_
  simp (disch := first | with_reducible assumption | omega) only [push_cast, x_blk, x_cd, ↓reduceIte, Nat.reduceEqDiff, List.map_cons, List.map_nil, Int.reduceEq, Int.lt_irrefl, F_veil_plain]
  refine blk_of (box_agg _ (a.cells p)) ?_
  intro w1 k1 b1 z1
  by_cases c1 : (1 : Int) < (p.m.starts.length : Int)
  · simp (disch := first | with_reducible assumption | omega) only [push_cast, x_blk, x_cd, ↓reduceIte, Nat.reduceEqDiff, List.map_cons, List.map_nil, Int.reduceEq, Int.lt_irrefl, k1.p2, c1]
    exact fin_1 (hQ _ _ ⟨⟨false, (by simp only [push_cast, ↓reduceIte, Nat.reduceEqDiff, Int.reduceEq]), by rw [hpa]; exact ⟨fun h => (by cases h), fun h => absurd h.1 (by omega)⟩⟩, b1⟩)
  simp (disch := first | with_reducible assumption | omega) only [push_cast, x_blk, x_cd, ↓reduceIte, Nat.reduceEqDiff, List.map_cons, List.map_nil, Int.reduceEq, Int.lt_irrefl, k1.p2, c1, k1.p3]
  refine loop_rule (fun f w' => ∃ i : Nat, i ≤ p.m.arrows.length ∧ (f 1 = .pointer (some ⟨w.heap.size, 0, none⟩) ∧ f 12 = .slice a.m.Aa p.m.arrows.length a.m.ca ∧ f 13 = .int .i64 p.m.arrows.length ∧ f 14 = .int .i64 i) ∧ (∀ j, 0 < j → j < i → ¬ KeyEq (p.m.arrows.getD (j - 1) default) (p.m.arrows.getD j default)) ∧ Below w1.heap.size w1 w')
    (fun f _ => p.m.arrows.length - (intOf (f 14)).toNat) ⟨0, Nat.zero_le _, ⟨rfl, rfl, rfl, rfl⟩, fun j h0 h1 => absurd h1 (by omega), Below.refl _ _⟩ ?_
  rintro f w2 ⟨i, hi, fr, hpre, b2⟩ J hJ
  have bb := b1.trans (b2.mono b1.size)
  by_cases hlt : i < p.m.arrows.length
  case neg =>
    obtain rfl : i = p.m.arrows.length := by omega
    simp (disch := first | with_reducible assumption | omega) only [push_cast, x_blk, x_cd, ↓reduceIte, Nat.reduceEqDiff, List.map_cons, List.map_nil, Int.reduceEq, Int.lt_irrefl, L_veil_plain_0, fr, Nat.lt_irrefl]
    exact fin_1 (hQ _ _ ⟨⟨true, (by simp only [push_cast, ↓reduceIte, Nat.reduceEqDiff, Int.reduceEq]), by rw [hpa]; exact ⟨fun _ => ⟨by omega, hpre⟩, fun _ => rfl⟩⟩, bb⟩)
  have hI := (ha.up bb).m.arrows
  have hA := hI.isSome (by omega)
  simp (disch := first | with_reducible assumption | omega) only [push_cast, x_blk, x_cd, ↓reduceIte, Nat.reduceEqDiff, List.map_cons, List.map_nil, Int.reduceEq, Int.lt_irrefl, L_veil_plain_0, fr, hlt, hI.ldA ty_ag_85 ty_sz_85]
  refine blk_of al_85 ?_
  intro w3 k3 b3 z3
  simp (disch := first | with_reducible assumption | omega) only [push_cast, x_blk, x_cd, ↓reduceIte, Nat.reduceEqDiff, List.map_cons, List.map_nil, Int.reduceEq, Int.lt_irrefl, fr]
  refine sto_blk k3 (cs := arrCells (p.m.arrows.getD i default)) ty_sz_85 rfl (by simp [arrCells, Value.oneCell']) ?_
  intro w4 k4 g4 z4
  have b4 : Below w2.heap.size w2 w4 := g4.below b3 (by omega) (by intro a ha; injection ha with ha; subst ha; exact Nat.le_refl _)
  have bd : Below w4.heap.size w4 w4.drew := (Same.refl w4).drew.below _
  have b24 := b4.trans (bd.mono b4.size)
  have b14 := b2.trans (b24.mono b2.size)
  have bb4 := b1.trans (b14.mono b1.size)
  have kP := k1.below b14 k1.lt
  replace k4 := k4.below bd k4.lt
  generalize hu : w4.drew = u at *
  by_cases h0 : (0 : Int) < (i : Int)
  case neg =>
    have hz : i = 0 := by omega
    simp (disch := first | with_reducible assumption | omega) only [push_cast, x_blk, x_cd, ↓reduceIte, Nat.reduceEqDiff, List.map_cons, List.map_nil, Int.reduceEq, Int.lt_irrefl, fr, hu, h0]
    exact hJ _ _ ⟨i + 1, hlt, (by simp only [push_cast, ↓reduceIte, Nat.reduceEqDiff, true_and, and_true, and_self, eq_self, fr]), fun j h1 h2 => absurd h2 (by omega), b14⟩ (by simp only [push_cast, ↓reduceIte, Nat.reduceEqDiff, intOf, fr]; omega)
  obtain ⟨i1, hi1⟩ : ∃ i1 : Nat, i = i1 + 1 := ⟨i - 1, by omega⟩
  have hi1l : i1 < p.m.arrows.length := by omega
  have e1 : (i : Int) - 1 = (i1 : Int) := by omega
  have hIu := (ha.up bb4).m.arrows
  have ld0 := fun {K : Fr → World → Prop} {f : Fr} {d : Option Nat} {w : World} => hIu.ld0 (P := Tryd.prog) (K := K) (f := f) (d := d) (w := w) ty_ag_3 i1 hi1l
  have ld00 : ∀ {K : Fr → World → Prop} {f : Fr} {d : Option Nat} {w : World}, Val1 Tryd.prog K (Instr.loadAt 3 (.pointer (some (eA a.m.Aa (i1 * 3 + 0))))) u f d w = K (updO f d (.int .i64 (p.m.arrows.getD i1 default).frm)) w := fun {K f d w} => ld0
  have ld1 := fun {K : Fr → World → Prop} {f : Fr} {d : Option Nat} {w : World} => hIu.ld1 (P := Tryd.prog) (K := K) (f := f) (d := d) (w := w) ty_ag_3 i1 hi1l
  have hky : KeyEq (p.m.arrows.getD (i - 1) default) (p.m.arrows.getD i default) ↔ (p.m.arrows.getD i1 default).frm = (p.m.arrows.getD i default).frm ∧ (p.m.arrows.getD i1 default).evt = (p.m.arrows.getD i default).evt := by
    rw [show i - 1 = i1 by omega]; exact Iff.rfl
  have hnext : ¬ KeyEq (p.m.arrows.getD (i - 1) default) (p.m.arrows.getD i default) → ∀ j, 0 < j → j < i + 1 → ¬ KeyEq (p.m.arrows.getD (j - 1) default) (p.m.arrows.getD j default) := fun hn j h1 h2 => by
    by_cases c : j = i
    · rw [c]; exact hn
    · exact hpre j h1 (by omega)
  have hbad : KeyEq (p.m.arrows.getD (i - 1) default) (p.m.arrows.getD i default) → ¬ PlainM p.m := fun hk hp => (hpa.1 hp).2 i (by omega) hlt hk
  generalize p.m.arrows.getD i1 default = x at *
  generalize p.m.arrows.getD i default = y at *
  by_cases q1 : x.frm = y.frm
  case neg =>
    simp (disch := first | with_reducible assumption | omega) only [push_cast, x_blk, x_cd, ↓reduceIte, Nat.reduceEqDiff, List.map_cons, List.map_nil, Int.reduceEq, Int.lt_irrefl, fr, hu, h0, kP.p3, e1, hi1l, hA, ld0, ld00, k4.a0 ty_ag_3, q1]
    exact hJ _ _ ⟨i + 1, hlt, (by simp only [push_cast, ↓reduceIte, Nat.reduceEqDiff, true_and, and_true, and_self, eq_self, fr]), hnext fun hh => q1 (hky.1 hh).1, b14⟩ (by simp only [push_cast, ↓reduceIte, Nat.reduceEqDiff, intOf, fr]; omega)
  by_cases q2 : x.evt = y.evt
  case neg =>
    simp (disch := first | with_reducible assumption | omega) only [push_cast, x_blk, x_cd, ↓reduceIte, Nat.reduceEqDiff, List.map_cons, List.map_nil, Int.reduceEq, Int.lt_irrefl, fr, hu, h0, kP.p3, e1, hi1l, hA, ld0, ld00, k4.a0 ty_ag_3, q1, eq_self, ld1, k4.a1 ty_ag_3, q2]
    exact hJ _ _ ⟨i + 1, hlt, (by simp only [push_cast, ↓reduceIte, Nat.reduceEqDiff, true_and, and_true, and_self, eq_self, fr]), hnext fun hh => q2 (hky.1 hh).2, b14⟩ (by simp only [push_cast, ↓reduceIte, Nat.reduceEqDiff, intOf, fr]; omega)
  simp (disch := first | with_reducible assumption | omega) only [push_cast, x_blk, x_cd, ↓reduceIte, Nat.reduceEqDiff, List.map_cons, List.map_nil, Int.reduceEq, Int.lt_irrefl, fr, hu, h0, kP.p3, e1, hi1l, hA, ld0, ld00, k4.a0 ty_ag_3, q1, eq_self, ld1, k4.a1 ty_ag_3, q2]
  exact fin_1 (hQ _ _ ⟨⟨false, (by simp only [push_cast, ↓reduceIte, Nat.reduceEqDiff, Int.reduceEq]), ⟨fun hh => (by cases hh), fun hh => absurd hh (hbad (hky.2 ⟨q1, q2⟩))⟩⟩, bb4⟩)
end Go.Proofs.YtcjedgiglimipaaDoor

/-
  Chapter 15, in plain Lean: the nodes and the moves of the veil, as they are come to. No program in sight.
-/
namespace Go.Proofs.YtcjedgiglimipaaDoor
set_option linter.unusedSimpArgs false
set_option linter.unusedVariables false
set_option linter.unusedSectionVars false
open Go.RowKit

structure Mv where
  node : Nat
  evt : Int
  stay : List Int
  to_ : Nat
structure VS where
  nodes : List (List Int)
  moves : List Mv
/-- The place of a row among rows; of one that is not there: behind all. -/
def ixL (x : List Int) : List (List Int) → Nat
  | [] => 0
  | y :: l => if y = x then 0 else ixL x l + 1
theorem ixL_lt {x : List Int} : ∀ {l : List (List Int)}, x ∈ l → ixL x l < l.length ∧ l[ixL x l]? = some x
  | [], h => by simp at h
  | y :: l, h => by
    unfold ixL
    by_cases c : y = x
    · rw [if_pos c]; exact ⟨by simp, by simp [c]⟩
    · rw [if_neg c]
      rcases List.mem_cons.1 h with h | h
      · exact absurd h.symm c
      · obtain ⟨h1, h2⟩ := ixL_lt h
        exact ⟨by simp; omega, by simpa using h2⟩
theorem ixL_none {x : List Int} : ∀ {l : List (List Int)}, x ∉ l → ixL x l = l.length
  | [], _ => rfl
  | y :: l, h => by
    unfold ixL
    rw [if_neg (fun c => h (by simp [c])), ixL_none (fun hh => h (by simp [hh]))]; rfl
theorem ixL_first {x : List Int} : ∀ {l : List (List Int)} {i : Nat}, l[i]? = some x → (∀ j, j < i → l[j]? ≠ some x) → ixL x l = i
  | [], i, h, _ => by simp at h
  | y :: l, i, h, hn => by
    unfold ixL
    cases i with
    | zero => rw [if_pos (by simpa using h)]
    | succ i =>
      rw [if_neg (fun c => hn 0 (by omega) (by simp [c])), ixL_first (by simpa using h) fun j hj => by simpa using hn (j + 1) (by omega)]
section
variable (p : Plt) (free : List Int)
noncomputable def vE (k : Nat) (st : VS) (e : Int) : VS :=
  if stayL p.m (toL p free (st.nodes.getD k []) e) (st.nodes.getD k []) e = [] then st else
    ⟨if wideL p.m p.seen (toL p free (st.nodes.getD k []) e) ∈ st.nodes then st.nodes else st.nodes ++ [wideL p.m p.seen (toL p free (st.nodes.getD k []) e)],
      st.moves ++ [⟨k, e, stayL p.m (toL p free (st.nodes.getD k []) e) (st.nodes.getD k []) e, ixL (wideL p.m p.seen (toL p free (st.nodes.getD k []) e)) st.nodes⟩]⟩
noncomputable def vIter : Nat → VS
  | 0 => ⟨[firstP p], []⟩
  | k + 1 => p.seen.foldl (vE p free k) (vIter k)
/-- Within the k-th round, as far as the j-th event. -/
noncomputable def vPart (k j : Nat) : VS := (p.seen.take j).foldl (vE p free k) (vIter p free k)
end
section
variable {p : Plt} {free : List Int}
theorem vPart_zero (k : Nat) : vPart p free k 0 = vIter p free k := rfl
theorem vPart_all (k : Nat) : vPart p free k p.seen.length = vIter p free (k + 1) := by unfold vPart; rw [List.take_length]; rfl
theorem vPart_succ (k : Nat) {j : Nat} (hj : j < p.seen.length) : vPart p free k (j + 1) = vE p free k (vPart p free k j) (p.seen.getD j 0) := by
  unfold vPart
  rw [take_snoc _ (0 : Int) j hj, List.foldl_append]; rfl
theorem vE_pre (k : Nat) (st : VS) (e : Int) : st.nodes <+: (vE p free k st e).nodes := by
  unfold vE
  split
  · exact List.prefix_refl _
  · dsimp only
    split
    · exact List.prefix_refl _
    · exact List.prefix_append _ _
/-- What holds of the nodes. -/
structure VGood (p : Plt) (st : VS) : Prop where
  nodup : st.nodes.Nodup
  row : ∀ l ∈ st.nodes, IsRow l p.m.states
  pos : 0 < st.nodes.length
theorem VGood.step (hm : p.m.May) {st : VS} (h : VGood p st) (k : Nat) (e : Int) : VGood p (vE p free k st e) := by
  unfold vE
  split
  · exact h
  · refine ⟨?_, ?_, ?_⟩
    · dsimp only
      split
      · exact h.nodup
      · rename_i hn
        rw [List.nodup_append]
        exact ⟨h.nodup, by simp, fun a ha b hb => by rw [List.mem_singleton.1 hb]; exact fun e => hn (e ▸ ha)⟩
    · dsimp only
      split
      · exact h.row
      · intro l hl
        rcases List.mem_append.1 hl with hl | hl
        · exact h.row l hl
        · rw [List.mem_singleton.1 hl]; exact wideL_row hm (row_range (toL_row hm free _ _))
    · dsimp only
      split
      · exact h.pos
      · simp
theorem VGood.fold (hm : p.m.May) (k : Nat) : ∀ (es : List Int) {st : VS}, VGood p st → VGood p (es.foldl (vE p free k) st) ∧ st.nodes <+: (es.foldl (vE p free k) st).nodes
  | [], _, h => ⟨h, List.prefix_refl _⟩
  | e :: es, st, h => by
    have := VGood.fold hm k es (h.step (free := free) hm k e)
    exact ⟨this.1, (vE_pre k st e).trans this.2⟩
theorem vIter_good (hm : p.m.May) : ∀ k, VGood p (vIter p free k)
  | 0 => ⟨by simp [vIter], fun l hl => by
      have : l = firstP p := by simpa [vIter] using hl
      rw [this]; exact firstP_row hm, by simp [vIter]⟩
  | k + 1 => (VGood.fold hm k p.seen (vIter_good hm k)).1
theorem vPart_good (hm : p.m.May) (k j : Nat) : VGood p (vPart p free k j) ∧ (vIter p free k).nodes <+: (vPart p free k j).nodes := VGood.fold hm k _ (vIter_good hm k)
theorem VGood.len {st : VS} (h : VGood p st) (h6 : p.m.states ≤ 6) : st.nodes.length ≤ 64 := by
  have : (st.nodes.map codeR).length ≤ 64 := nodup_nat_len 64 _ (List.Pairwise.map _ (fun a b hab => hab) (List.Pairwise.imp_of_mem (fun {x y} hx hy hxy e => hxy (codeR_inj ((h.row x hx).more h6) ((h.row y hy).more h6) e)) h.nodup)) fun n hn => by
    obtain ⟨l, hl, rfl⟩ := List.mem_map.1 hn
    exact codeR_lt ((h.row l hl).more h6)
  simpa using this
theorem vE_stop {k : Nat} {st : VS} (h : st.nodes.length ≤ k) (e : Int) : vE p free k st e = st := by
  unfold vE
  rw [if_pos]
  have : st.nodes.getD k [] = [] := by rw [List.getD_eq_getElem?_getD, List.getElem?_eq_none h]; rfl
  rw [this]; simp [stayL]
theorem vFold_stop {k : Nat} : ∀ (es : List Int) {st : VS}, st.nodes.length ≤ k → es.foldl (vE p free k) st = st
  | [], _, _ => rfl
  | e :: es, st, h => by rw [List.foldl_cons, vE_stop h]; exact vFold_stop es h
theorem vIter_stop {k : Nat} (h : (vIter p free k).nodes.length ≤ k) : ∀ n, k ≤ n → vIter p free n = vIter p free k := by
  intro n
  induction n with
  | zero => intro hk; rw [show k = 0 by omega]
  | succ n ih =>
    intro hk
    rcases Nat.lt_or_ge n k with c | c
    · rw [show k = n + 1 by omega]
    · have e := ih c
      show p.seen.foldl (vE p free n) (vIter p free n) = _
      rw [e, vFold_stop _ (by omega)]
/-- The veil: one, whatever the round. -/
theorem vIter_same {k k' : Nat} (h : (vIter p free k).nodes.length = k) (h' : (vIter p free k').nodes.length = k') : vIter p free k = vIter p free k' := by
  rw [← vIter_stop (Nat.le_of_eq h) (max k k') (Nat.le_max_left _ _), vIter_stop (Nat.le_of_eq h') (max k k') (Nat.le_max_right _ _)]
end
end Go.Proofs.YtcjedgiglimipaaDoor

/-
  Maps from sets of states to numbers, by what they answer.
-/
namespace Go.Proofs.YtcjedgiglimipaaDoor
set_option linter.unusedSimpArgs false
set_option linter.unusedVariables false
set_option linter.unusedSectionVars false
open Go.RowKit

theorem setV_rows {s t : List Int} (hs : IsRow s 6) (ht : IsRow t 6) (h : setV s = setV t) : s = t := setV_inj ⟨hs.strict, hs.small (by decide)⟩ ⟨ht.strict, ht.small (by decide)⟩ h
/-- What a map answers at rows. -/
def SMap (w : World) (g : Nat) (φ : List Int → Option Int) : Prop := ∃ kv, MapIs Tryd.prog 76 w g kv ∧ ∀ s v, IsRow s 6 → ((setV s, v) ∈ kv ↔ ∃ x, φ s = some x ∧ v = .int .i64 x)
def putF (φ : List Int → Option Int) (s : List Int) (x : Int) : List Int → Option Int := fun t => if t = s then some x else φ t
section
variable {w w' : World} {g : Nat} {φ : List Int → Option Int}
theorem SMap.lt (h : SMap w g φ) : g < w.heap.size := by obtain ⟨kv, h1, _⟩ := h; exact h1.lt
theorem SMap.keep (h : SMap w g φ) (hk : w'.heap[g]? = w.heap[g]?) : SMap w' g φ := by obtain ⟨kv, h1, h2⟩ := h; exact ⟨kv, h1.keep hk, h2⟩
theorem SMap.below {B : Nat} (h : SMap w g φ) (hb : Below B w w') (hB : g < B) : SMap w' g φ := h.keep (hb.block g hB)
theorem SMap.empty (h : MapIs Tryd.prog 76 w g []) : SMap w g fun _ => none := ⟨[], h, fun s v _ => by simp⟩
theorem SMap.grown {row : Option Nat} (h : SMap w g φ) (hb : w.grownBy w' row) (hg : some g ≠ row) : SMap w' g φ := h.keep (hb.block g h.lt hg)
section
variable {K : Fr → World → Prop} {f : Fr} {d : Option Nat} {u : World}
theorem mapT : Tryd.prog.underlying 106 = some (.map 76 3) := Tryd.underlying106
theorem zeroI : (Tryd.prog.info? 3).map (·.zero) = some (some (.int .i64 0)) := by kernel_rfl
theorem SMap.look (h : SMap u g φ) {s : List Int} (hs : IsRow s 6) : Val1 Tryd.prog K (Instr.lookup 106 (.map (some g)) (setV s) false) u f d w = K (updO f d (.int .i64 ((φ s).getD 0))) w := by
  have h3 : Val1 Tryd.prog (fun f' _ => f' 0 = .int .i64 ((φ s).getD 0)) (Instr.lookup 106 (.map (some g)) (setV s) false) u f (some 0) u := by
    obtain ⟨kv, hm, h2⟩ := h
    refine map_look keyed_set mapT zeroI false hm (key_set s) (fun v hv => ?_) fun hno => ?_
    · obtain ⟨x, hx, rfl⟩ := (h2 s v hs).1 hv
      rw [hx]; rfl
    · cases hφ : φ s with
      | none => rfl
      | some x => exact absurd rfl (hno _ ((h2 s _ hs).2 ⟨x, hφ, rfl⟩))
  obtain ⟨v', hr, hv⟩ := h3
  have hv' : v' = .int .i64 ((φ s).getD 0) := hv
  rw [← hv']
  exact val1_of u f d w hr
theorem SMap.look2 (h : SMap u g φ) {s : List Int} (hs : IsRow s 6) : Val1 Tryd.prog K (Instr.lookup 106 (.map (some g)) (setV s) true) u f d w = K (updO f d (.tuple #[.int .i64 ((φ s).getD 0), .bool (φ s).isSome])) w := by
  have h3 : Val1 Tryd.prog (fun f' _ => f' 0 = .tuple #[.int .i64 ((φ s).getD 0), .bool (φ s).isSome]) (Instr.lookup 106 (.map (some g)) (setV s) true) u f (some 0) u := by
    obtain ⟨kv, hm, h2⟩ := h
    refine map_look keyed_set mapT zeroI true hm (key_set s) (fun v hv => ?_) fun hno => ?_
    · obtain ⟨x, hx, rfl⟩ := (h2 s v hs).1 hv
      rw [hx]; rfl
    · cases hφ : φ s with
      | none => rfl
      | some x => exact absurd rfl (hno _ ((h2 s _ hs).2 ⟨x, hφ, rfl⟩))
  obtain ⟨v', hr, hv⟩ := h3
  have hv' : v' = .tuple #[.int .i64 ((φ s).getD 0), .bool (φ s).isSome] := hv
  rw [← hv']
  exact val1_of u f d w hr
theorem SMap.absent (h : SMap w g φ) {kv : List (Value × Value)} (h2 : ∀ s v, IsRow s 6 → ((setV s, v) ∈ kv ↔ ∃ x, φ s = some x ∧ v = .int .i64 x)) {s : List Int} (hs : IsRow s 6) (hn : φ s = none) : ∀ p ∈ kv, p.1 ≠ setV s := fun p hp e => by
  obtain ⟨x, hx, _⟩ := (h2 s p.2 hs).1 (by rw [← e]; exact hp)
  rw [hn] at hx; cases hx
theorem SMap.put (h : SMap w g φ) {s : List Int} (hs : IsRow s 6) (x : Int) (h1 : ∀ w', SMap w' g (putF φ s x) → Grew w w' (some ⟨g, 0, none⟩) → w'.heap.size = w.heap.size → K (updO f d undef) w') :
    Eff1 Tryd.prog K (do Instr.mapUpdate 106 (.map (some g)) (setV s) (.int .i64 x); pure undef) f d w := by
  have h0 := h
  obtain ⟨kv, hm, h2⟩ := h
  cases hφ : φ s with
  | none =>
    refine map_new keyed_set mapT hm (key_set s) (h0.absent h2 hs hφ) _ fun w' m' g' z' => h1 w' ⟨_, m', fun t v ht => ?_⟩ g' z'
    rw [List.mem_append, List.mem_singleton, Prod.mk.injEq]
    unfold putF
    by_cases c : t = s
    · subst c
      rw [if_pos rfl]
      constructor
      · rintro (hh | ⟨_, rfl⟩)
        · exact absurd rfl (h0.absent h2 hs hφ _ hh)
        · exact ⟨x, rfl, rfl⟩
      · rintro ⟨y, hy, rfl⟩
        injection hy with hy
        exact .inr ⟨rfl, by rw [hy]⟩
    · rw [if_neg c, ← h2 t v ht]
      constructor
      · rintro (hh | ⟨hh, _⟩)
        · exact hh
        · exact absurd (setV_rows ht hs hh) c
      · exact .inl
  | some old =>
    have hin : (setV s, Value.int .i64 old) ∈ kv := (h2 s _ hs).2 ⟨old, hφ, rfl⟩
    refine map_old keyed_set mapT hm (key_set s) hin _ fun j w' hj m' g' z' => h1 w' ⟨_, m', fun t v ht => ?_⟩ g' z'
    have hjl := (List.getElem?_eq_some_iff.1 hj).1
    obtain ⟨_, _, _, _, _, hnd⟩ := m'
    have hself : (setV s, Value.int .i64 x) ∈ kv.set j (setV s, .int .i64 x) := List.mem_of_getElem? (List.getElem?_set_self hjl)
    unfold putF
    by_cases c : t = s
    · subst c
      rw [if_pos rfl]
      constructor
      · intro hh
        exact ⟨x, rfl, pair_inj hnd hh hself⟩
      · rintro ⟨y, hy, rfl⟩
        injection hy with hy
        rw [← hy]; exact hself
    · rw [if_neg c, ← h2 t v ht]
      constructor
      · intro hh
        obtain ⟨i, hi⟩ := List.mem_iff_getElem?.1 hh
        by_cases ci : j = i
        · subst ci
          rw [List.getElem?_set_self hjl] at hi
          injection hi with hi
          injection hi with hi _
          exact absurd (setV_rows hs ht hi).symm c
        · rw [List.getElem?_set_ne ci] at hi
          exact List.mem_of_getElem? hi
      · intro hh
        obtain ⟨i, hi⟩ := List.mem_iff_getElem?.1 hh
        by_cases ci : j = i
        · subst ci
          rw [hj] at hi
          injection hi with hi
          injection hi with hi _
          exact absurd (setV_rows hs ht hi).symm c
        · exact List.mem_of_getElem? (by rw [List.getElem?_set_ne ci]; exact hi)
end
end
end Go.Proofs.YtcjedgiglimipaaDoor

/-
  Chapter 15, in plain Lean: what the program's keeps goes through. No program in sight.
-/
namespace Go.Proofs.YtcjedgiglimipaaDoor
set_option linter.unusedSimpArgs false
set_option linter.unusedVariables false
set_option linter.unusedSectionVars false
open Go.RowKit

/-- What is known of sets: 1 it can be kept, 2 it can't. -/
def GOk (p : Plt) (free : List Int) (φ : List Int → Option Int) : Prop := ∀ s x, IsRow s 6 → φ s = some x → (x = 1 ∧ Kp p free s) ∨ (x = 2 ∧ ¬ Kp p free s)
theorem GOk.put {p : Plt} {free : List Int} {φ : List Int → Option Int} (h : GOk p free φ) {s : List Int} {x : Int} (hx : (x = 1 ∧ Kp p free s) ∨ (x = 2 ∧ ¬ Kp p free s)) : GOk p free (putF φ s x) := fun t y ht hy => by
  unfold putF at hy
  by_cases c : t = s
  · subst c; rw [if_pos rfl] at hy; injection hy with hy; subst hy; exact hx
  · rw [if_neg c] at hy; exact h t y ht hy
def Rch (p : Plt) (free s t : List Int) : Prop := ∃ u : List Int, (∀ e ∈ u, e ∈ ufE p free) ∧ t = u.foldl (nextP p) s
theorem Rch.refl (p : Plt) (free s : List Int) : Rch p free s s := ⟨[], by simp, rfl⟩
theorem Rch.next {p : Plt} {free s t : List Int} (h : Rch p free s t) {e : Int} (he : e ∈ ufE p free) : Rch p free s (nextP p t e) := by
  obtain ⟨u, h1, rfl⟩ := h
  refine ⟨u ++ [e], fun x hx => ?_, by rw [List.foldl_append]; rfl⟩
  rcases List.mem_append.1 hx with hx | hx
  · exact h1 x hx
  · rw [List.mem_singleton.1 hx]; exact he
theorem Rch.kp {p : Plt} {free s t : List Int} (h : Rch p free s t) (hs : Kp p free s) : Kp p free t := by
  obtain ⟨u, h1, rfl⟩ := h
  intro v hv
  rw [← List.foldl_append]
  exact hs (u ++ v) fun e he => by
    rcases List.mem_append.1 he with he | he
    · exact h1 e he
    · exact hv e he
/-- What was reached, as far as some of it was looked at. -/
structure KRG (p : Plt) (free s : List Int) (R : List (List Int)) (i : Nat) : Prop where
  nodup : R.Nodup
  row : ∀ t ∈ R, IsRow t p.m.states
  rch : ∀ t ∈ R, Rch p free s t
  self : s ∈ R
  le : i ≤ R.length
  seen : ∀ j t, j < i → R[j]? = some t → Kp p free t ∨ (¬ TellsL t p.secret ∧ ∀ e ∈ ufE p free, nextP p t e ∈ R)
theorem KRG.start {p : Plt} {free s : List Int} (hs : IsRow s p.m.states) : KRG p free s [s] 0 :=
  ⟨by simp, fun t ht => by rw [List.mem_singleton.1 ht]; exact hs, fun t ht => by rw [List.mem_singleton.1 ht]; exact Rch.refl _ _ _, by simp, Nat.zero_le _, fun j t hj => absurd hj (by omega)⟩
theorem KRG.add {p : Plt} {free s : List Int} {R : List (List Int)} {i : Nat} (h : KRG p free s R i) (hm : p.m.May) {t : List Int} (ht : t ∈ R) {e : Int} (he : e ∈ ufE p free) (hn : nextP p t e ∉ R) : KRG p free s (R ++ [nextP p t e]) i := by
  refine ⟨?_, ?_, ?_, List.mem_append_left _ h.self, by have := h.le; rw [List.length_append]; omega, fun j x hj hx => ?_⟩
  · rw [List.nodup_append]
    exact ⟨h.nodup, by simp, fun a ha b hb => by rw [List.mem_singleton.1 hb]; exact fun e => hn (e ▸ ha)⟩
  · intro x hx
    rcases List.mem_append.1 hx with hx | hx
    · exact h.row x hx
    · rw [List.mem_singleton.1 hx]; exact seeL_row hm _ _ _
  · intro x hx
    rcases List.mem_append.1 hx with hx | hx
    · exact h.rch x hx
    · rw [List.mem_singleton.1 hx]; exact (h.rch t ht).next he
  · rw [List.getElem?_append_left (by have := h.le; omega)] at hx
    rcases h.seen j x hj hx with k | ⟨k1, k2⟩
    · exact .inl k
    · exact .inr ⟨k1, fun e he => List.mem_append_left _ (k2 e he)⟩
/-- One more was looked at. -/
theorem KRG.next {p : Plt} {free s : List Int} {R : List (List Int)} {i : Nat} (h : KRG p free s R i) {t : List Int} (ht : R[i]? = some t) (hk : Kp p free t ∨ (¬ TellsL t p.secret ∧ ∀ e ∈ ufE p free, nextP p t e ∈ R)) : KRG p free s R (i + 1) :=
  ⟨h.nodup, h.row, h.rch, h.self, (List.getElem?_eq_some_iff.1 ht).1, fun j x hj hx => by
    by_cases c : j = i
    · subst c; rw [ht] at hx; injection hx with hx; subst hx; exact hk
    · exact h.seen j x (by omega) hx⟩
theorem KRG.len {p : Plt} {free s : List Int} {R : List (List Int)} {i : Nat} (h : KRG p free s R i) (h6 : p.m.states ≤ 6) : R.length ≤ 64 := by
  have : (R.map codeR).length ≤ 64 := nodup_nat_len 64 _ (List.Pairwise.map _ (fun a b hab => hab) (List.Pairwise.imp_of_mem (fun {x y} hx hy hxy e => hxy (codeR_inj ((h.row x hx).more h6) ((h.row y hy).more h6) e)) h.nodup)) fun n hn => by
    obtain ⟨l, hl, rfl⟩ := List.mem_map.1 hn
    exact codeR_lt ((h.row l hl).more h6)
  simpa using this
theorem KRG.done {p : Plt} {free s : List Int} {R : List (List Int)} (h : KRG p free s R R.length) : ∀ t ∈ R, Kp p free t := fun t ht => by
  refine Kp.of (G := fun t => t ∈ R ∨ Kp p free t) ?_ ?_ (.inl ht)
  · rintro x (hx | hx)
    · obtain ⟨j, hj⟩ := List.mem_iff_getElem?.1 hx
      rcases h.seen j x (List.getElem?_eq_some_iff.1 hj).1 hj with k | k
      · exact k.self
      · exact k.1
    · exact hx.self
  · rintro x (hx | hx) e he
    · obtain ⟨j, hj⟩ := List.mem_iff_getElem?.1 hx
      rcases h.seen j x (List.getElem?_eq_some_iff.1 hj).1 hj with k | k
      · exact .inr (k.next he)
      · exact .inl (k.2 e he)
    · exact .inr (hx.next he)
end Go.Proofs.YtcjedgiglimipaaDoor

/-
  Chapter 15: the program's keeps: by its contract.
-/
namespace Go.Proofs.YtcjedgiglimipaaDoor
set_option linter.unusedSimpArgs false
set_option linter.unusedVariables false
set_option linter.unusedSectionVars false
open Go.RowKit

structure KeepM (g : Nat) (w w' : World) : Prop where
  os : w'.os = w.os
  tape : w'.tape = w.tape
  output : w'.output = w.output
  size : w.heap.size ≤ w'.heap.size
  block : ∀ b, b < w.heap.size → b ≠ g → w'.heap[b]? = w.heap[b]?
section
variable {g : Nat} {w w' w2 : World}
theorem KeepM.refl (g : Nat) (w : World) : KeepM g w w := ⟨rfl, rfl, rfl, Nat.le_refl _, fun _ _ _ => rfl⟩
theorem KeepM.trans (h : KeepM g w w') (k : KeepM g w' w2) : KeepM g w w2 := ⟨k.os.trans h.os, k.tape.trans h.tape, k.output.trans h.output, Nat.le_trans h.size k.size, fun b hb hne => (k.block b (Nat.lt_of_lt_of_le hb h.size) hne).trans (h.block b hb hne)⟩
theorem KeepM.of (h : Below w.heap.size w w') : KeepM g w w' := ⟨h.os, h.tape, h.output, h.size, fun b hb _ => h.block b hb⟩
theorem KeepM.below {B : Nat} (h : KeepM g w w') (b : Below B w' w2) (hB : w'.heap.size ≤ B) : KeepM g w w2 := h.trans ⟨b.os, b.tape, b.output, b.size, fun x hx _ => b.block x (Nat.lt_of_lt_of_le hx hB)⟩
theorem KeepM.grew {A : Option Addr} (h : KeepM g w w') (hg : Grew w' w2 A) (hA : ∀ a, A = some a → w.heap.size ≤ a.block) : KeepM g w w2 :=
  ⟨hg.by_.os.trans h.os, hg.by_.tape.trans h.tape, hg.by_.output.trans h.output, Nat.le_trans h.size hg.by_.size, fun b hb hne => by
    rw [hg.by_.block b (Nat.lt_of_lt_of_le hb h.size) (by
      cases A with
      | none => simp
      | some a => have := hA a rfl; simp only [Option.map_some, ne_eq, Option.some.injEq]; omega)]
    exact h.block b hb hne⟩
theorem KeepM.self {o : Nat} (h : KeepM g w w') (hg : Grew w' w2 (some ⟨g, o, none⟩)) : KeepM g w w2 :=
  ⟨hg.by_.os.trans h.os, hg.by_.tape.trans h.tape, hg.by_.output.trans h.output, Nat.le_trans h.size hg.by_.size, fun b hb hne => by
    rw [hg.by_.block b (Nat.lt_of_lt_of_le hb h.size) (by simp only [Option.map_some, ne_eq, Option.some.injEq]; exact hne)]
    exact h.block b hb hne⟩
theorem KeepM.to_below {B : Nat} {w0 : World} (k : KeepM g w w') (b : Below B w0 w) (hB : B ≤ w.heap.size) (hg : B ≤ g) : Below B w0 w' :=
  ⟨k.os.trans b.os, k.tape.trans b.tape, k.output.trans b.output, Nat.le_trans b.size k.size, fun x hx => (k.block x (by omega) (by omega)).trans (b.block x hx)⟩
theorem Blk.keepM {x t : Nat} {cs : List Value} (h : Blk w x t cs) (k : KeepM g w w') (hne : x ≠ g) : Blk w' x t cs := by unfold Blk at *; rw [k.block x (by have := h; exact (Array.getElem?_eq_some_iff.1 h).1) hne]; exact h
theorem IsP.keepM {B : Nat} {a : PV} {p : Plt} (h : IsP (· < B) w a p) (k : KeepM g w w') (hB : B ≤ g) (hw : B ≤ w.heap.size) : IsP (· < B) w' a p := h.keep fun b hb => k.block b (Nat.lt_of_lt_of_le hb hw) (by omega)
theorem Ints.keepB {B : Nat} {A : Option Addr} {l : List Int} (h : Ints (· < B) w A l) (k : KeepM g w w') (hB : B ≤ g) (hw : B ≤ w.heap.size) : Ints (· < B) w' A l := h.keep fun b hb => k.block b (Nat.lt_of_lt_of_le hb hw) (by omega)
end
theorem Own.ne_ltV {B e sz c n g : Nat} {w : World} {A : Option Addr} {xs : List Value} (h : Own B e sz w A c n xs) (hg : g < B) : some g ≠ A.map (·.block) := by
  intro e
  cases A with
  | none => cases e
  | some a =>
    have e' : g = a.block := Option.some.inj e
    have := h.geB a rfl
    omega
abbrev kpC (a : PV) (p : Plt) (A : Option Addr) (free : List Int) (c gM : Nat) : List Value := [.int .i64 p.m.states, .int .i64 p.m.events, .slice a.m.As p.m.starts.length a.m.cs, .slice a.m.Aa p.m.arrows.length a.m.ca, .slice a.m.Ae p.m.ends.length a.m.ce, .slice a.Ap p.seen.length a.cp, .slice a.Aq p.secret.length a.cq, .slice A free.length c, .map (some gM)]
section
variable {K : Fr → World → Prop} {u : World} {f : Fr} {d : Option Nat} {w : World} {g t : Nat} {a : PV} {p : Plt} {A : Option Addr} {free : List Int} {c gM : Nat}
theorem Blk.kM (h : Blk u g t (kpC a p A free c gM)) : Val1 Tryd.prog K (Instr.loadAt 106 (.pointer (some ⟨g, 8, none⟩))) u f d w = K (updO f d (.map (some gM))) w := h.ld ty_ag_106 8 (by simp)
theorem Blk.kF (h : Blk u g t (kpC a p A free c gM)) : Val1 Tryd.prog K (Instr.loadAt 22 (.pointer (some ⟨g, 7, none⟩))) u f d w = K (updO f d (.slice A free.length c)) w := h.ld ty_ag_22 7 (by simp)
theorem Blk.kS (h : Blk u g t (kpC a p A free c gM)) : Val1 Tryd.prog K (Instr.loadAt 22 (.pointer (some ⟨g, 6, none⟩))) u f d w = K (updO f d (.slice a.Aq p.secret.length a.cq)) w := h.ld ty_ag_22 6 (by simp)
theorem Blk.kE (h : Blk u g t (kpC a p A free c gM)) : Val1 Tryd.prog K (Instr.loadAt 22 (.pointer (some ⟨g, 5, none⟩))) u f d w = K (updO f d (.slice a.Ap p.seen.length a.cp)) w := h.ld ty_ag_22 5 (by simp)
theorem Blk.kP (h : Blk u g t (kpC a p A free c gM)) : Val1 Tryd.prog K (Instr.loadAt 43 (.pointer (some ⟨g, 0, none⟩))) u f d w = K (updO f d (a.val p)) w :=
  h.ldSub ty_ag_43 0 (vs := a.cells p) ty_sz_43 fun k v hv => by
    match k, hv with
    | 0, hv => exact hv
    | 1, hv => exact hv
    | 2, hv => exact hv
    | 3, hv => exact hv
    | 4, hv => exact hv
    | 5, hv => exact hv
    | 6, hv => exact hv
    | k + 7, hv => simp [PV.cells] at hv
end
/-- Behind keeps: the map of what is known has grown; nothing else that was there was touched. -/
def KeepsRes (p : Plt) (free s : List Int) (gM : Nat) (w : World) (v : Value) (w' : World) : Prop :=
  (∃ b : Bool, v = .bool b ∧ (b = true ↔ Kp p free s)) ∧ (∃ φ, GOk p free φ ∧ SMap w' gM φ) ∧ KeepM gM w w'
theorem veil_keeps {w : World} {a : PV} {p : Plt} (ha : IsP (· < w.heap.size) w a p) (hf : p.Fits) (hp : p.May) {A1 : Option Addr} {c1 : Nat} {free : List Int} (h1 : Ints (· < w.heap.size) w A1 free) (n1 : free.length ≤ 17592186043904)
    {gK gM : Nat} (hK : Blk w gK 108 (kpC a p A1 free c1 gM)) {φ : List Int → Option Int} (hφ : GOk p free φ) (hM : SMap w gM φ) {s : List Int} (hs : IsRow s p.m.states) :
    Cal Tryd.prog 72 [.pointer (some ⟨gK, 0, none⟩), setV s] w (KeepsRes p free s gM w) := by
  have hm := hp.1
  have s6 : IsRow s 6 := hs.more hp.2.1
  have n8 : p.seen.length ≤ 8 := by have := row_lenV hp.2.2.1; have := hm.2.2.2.1; omega
  refine cal_veil_keeper_keeps (by simp) 1000000 fun Q hQ => ?_
  simp (disch := first | with_reducible assumption | omega) only [push_cast, x_blk, x_cd, ↓reduceIte, Nat.reduceEqDiff, List.map_cons, List.map_nil, Int.reduceEq, Int.lt_irrefl, F_veil_keeper_keeps]
  refine blk_of (box_agg _ (setCells (wordsOf s))) ?_
  intro w1 kS b1 z1
  have bd : Below w1.heap.size w1 w1.drew := (Same.refl w1).drew.below _
  have b1d := b1.trans (bd.mono b1.size)
  have kS2 := kS.below bd kS.lt
  have kK := hK.below b1d hK.lt
  have mM := hM.below b1d hM.lt
  generalize hu : w1.drew = u at *
  have lk := fun {K : Fr → World → Prop} {f : Fr} {d : Option Nat} {w : World} => mM.look (K := K) (f := f) (d := d) (w := w) s6
  have hbig : w.heap.size ≤ u.heap.size := b1d.size
  have g01 : (0 : Int) < 1 := by decide
  have g02 : (0 : Int) < 2 := by decide
  have hk0 : ∀ b, b < w.heap.size → b ≠ gM → u.heap[b]? = w.heap[b]? := fun b hb _ => b1d.block b hb
  cases hφs : φ s with
  | some x =>
    have hx := hφ s x s6 hφs
    rw [hφs] at lk
    have bd2 : Below u.heap.size u u.drew := (Same.refl u).drew.below _
    have kS3 := kS2.below bd2 kS2.lt
    have kK3 := kK.below bd2 kK.lt
    have mM3 := mM.below bd2 mM.lt
    have b3 := b1d.trans (bd2.mono hbig)
    generalize hu2 : u.drew = u2 at *
    have lk3 := fun {K : Fr → World → Prop} {f : Fr} {d : Option Nat} {w : World} => mM3.look (K := K) (f := f) (d := d) (w := w) s6
    rw [hφs] at lk3
    rcases hx with ⟨rfl, hk⟩ | ⟨rfl, hk⟩
    · simp (disch := first | with_reducible assumption | omega) only [push_cast, x_blk, x_cd, ↓reduceIte, Nat.reduceEqDiff, List.map_cons, List.map_nil, Int.reduceEq, Int.lt_irrefl, hu, kK.kM, kS2.setA (wordsOf_words _) ty_ag_76 ty_sz_76, v_lookup, lk, Option.getD_some, g01, g02, hu2, kK3.kM, kS3.setA (wordsOf_words _) ty_ag_76 ty_sz_76, lk3, g01, eq_self]
      exact fin_1 (hQ _ _ ⟨⟨true, (by simp only [push_cast, ↓reduceIte, Nat.reduceEqDiff, Int.reduceEq]), ⟨fun _ => hk, fun _ => rfl⟩⟩, ⟨φ, hφ, mM3⟩, KeepM.of b3⟩)
    · simp (disch := first | with_reducible assumption | omega) only [push_cast, x_blk, x_cd, ↓reduceIte, Nat.reduceEqDiff, List.map_cons, List.map_nil, Int.reduceEq, Int.lt_irrefl, hu, kK.kM, kS2.setA (wordsOf_words _) ty_ag_76 ty_sz_76, v_lookup, lk, Option.getD_some, g01, g02, hu2, kK3.kM, kS3.setA (wordsOf_words _) ty_ag_76 ty_sz_76, lk3]
      exact fin_1 (hQ _ _ ⟨⟨false, (by simp only [push_cast, ↓reduceIte, Nat.reduceEqDiff, Int.reduceEq]), ⟨fun h => (by cases h), fun h => absurd h hk⟩⟩, ⟨φ, hφ, mM3⟩, KeepM.of b3⟩)
  | none =>
  rw [hφs] at lk
  simp (disch := first | with_reducible assumption | omega) only [push_cast, x_blk, x_cd, ↓reduceIte, Nat.reduceEqDiff, List.map_cons, List.map_nil, Int.reduceEq, Int.lt_irrefl, hu, kK.kM, kS2.setA (wordsOf_words _) ty_ag_76 ty_sz_76, v_lookup, lk, Option.getD_none, bs_rec setEnc slT_72 _ (by decide)]
  have o2 := own_rec setEnc u s 76
  have b2 : Below u.heap.size u (u.alloc (.cells (setC s).toArray 76)) := (Below.refl _ _).alloc (Nat.le_refl _) _
  generalize u.alloc (.cells (setC s).toArray 76) = w2 at *
  have hz2 := b2.size
  have b02 := b1d.trans (b2.mono hbig)
  replace kS2 := kS2.below b2 kS2.lt
  replace o2 := o2.base (B' := w.heap.size + 1) (by have := bd.size; omega)
  simp (disch := first | with_reducible assumption | omega) only [push_cast, x_blk, x_cd, ↓reduceIte, Nat.reduceEqDiff, List.map_cons, List.map_nil, Int.reduceEq, Int.lt_irrefl, e_makeMap]
  refine map_made (k := 76) _ ?_
  intro w3 m3 b3 z3
  have b03 := b02.trans (b3.mono b02.size)
  have kS3 := kS2.below b3 kS2.lt
  have o3 := o2.below b3 (Nat.le_refl _)
  have hm3 := SMap.empty m3
  have lM3 := hm3.lt
  generalize hgN : w2.heap.size = gN at *
  have hN : w.heap.size ≤ gN := by rw [← hgN]; exact b02.size
  have hN2 : w.heap.size < gN := by rw [← hgN]; exact kS2.lt
  simp (disch := first | with_reducible assumption | omega) only [push_cast, x_blk, x_cd, ↓reduceIte, Nat.reduceEqDiff, List.map_cons, List.map_nil, Int.reduceEq, Int.lt_irrefl, e_insert, kS3.setA (wordsOf_words _) ty_ag_76 ty_sz_76]
  refine hm3.put s6 1 ?_
  intro w4 m4 g4 z4
  have b04 := g4.below b03 b03.size (by intro a ha; injection ha with ha; subst ha; exact hN)
  simp (disch := first | with_reducible assumption | omega) only [push_cast, x_blk, x_cd, ↓reduceIte, Nat.reduceEqDiff, List.map_cons, List.map_nil, Int.reduceEq, Int.lt_irrefl]
  have o4 := o3.grew g4 (.inr (fun e => by
    have h1 := (hm3 : SMap w3 gN _).lt
    obtain ⟨kv, hkv, _⟩ := hm3
    exact hkv.ne_own o3 e.symm))
  have hg0 : ∀ t, IsRow t 6 → putF (fun _ => none) s 1 t = if t ∈ [s] then some 1 else none := fun t _ => by
    unfold putF
    by_cases c : t = s
    · rw [if_pos c, if_pos (by simp [c])]
    · rw [if_neg c, if_neg (by simpa using c)]
  have hR0 := KRG.start (free := free) hs
  refine loop_rule (fun f w' => ∃ (i : Nat) (R : List (List Int)) (A : Option Addr) (c : Nat) (ψ : List Int → Option Int), KRG p free s R i ∧ (f 0 = .pointer (some ⟨gK, 0, none⟩) ∧ f 3 = .pointer (some ⟨w.heap.size, 0, none⟩) ∧ f 5 = .slice A R.length c ∧ f 6 = .map (some gN) ∧ f 7 = .int .i64 i) ∧
      OwnR setC (w.heap.size + 1) 76 4 w' A c R ∧ SMap w' gN ψ ∧ (∀ t, IsRow t 6 → ψ t = if t ∈ R then some 1 else none) ∧ Blk w' w.heap.size 76 (setCells (wordsOf s)) ∧ Below w.heap.size w w')
    (fun f _ => 65 - (intOf (f 7)).toNat) ⟨0, [s], _, 1, _, hR0, ⟨rfl, rfl, rfl, rfl, rfl⟩, o4, m4, hg0, ?_, b04⟩ ?_
  · exact kS3.grown g4.by_ (by simp; omega)
  clear o4 m4 hg0 hR0 b04 g4 o3 hm3 b03 kS3
  rintro f w5 ⟨i, R, A, c, ψ, hR, fr, ho, mN, hψ, kS5, b5⟩ J hJ
  have hz5 := b5.size
  have kK5 := hK.below b5 hK.lt
  have mM5 := hM.below b5 hM.lt
  have hRl := hR.len hp.2.1
  by_cases hil : i < R.length
  case neg =>
    have hie : i = R.length := by have := hR.le; omega
    subst hie
    have hall := hR.done
    have hks := hall s hR.self
    simp (disch := first | with_reducible assumption | omega) only [push_cast, x_blk, x_cd, ↓reduceIte, Nat.reduceEqDiff, List.map_cons, List.map_nil, Int.reduceEq, Int.lt_irrefl, L_veil_keeper_keeps_2, fr, Nat.lt_irrefl]
    refine loop_rule (fun f w' => ∃ (k : Nat) (χ : List Int → Option Int), k ≤ R.length ∧ (f 0 = .pointer (some ⟨gK, 0, none⟩) ∧ f 112 = .slice A R.length c ∧ f 113 = .int .i64 R.length ∧ f 114 = .int .i64 k) ∧ GOk p free χ ∧ SMap w' gM χ ∧ KeepM gM w5 w')
      (fun f _ => R.length - (intOf (f 114)).toNat) ⟨0, φ, Nat.zero_le _, (by simp only [push_cast, ↓reduceIte, Nat.reduceEqDiff, true_and, and_true, and_self, eq_self, fr]), hφ, mM5, KeepM.refl _ _⟩ ?_
    clear fr
    rintro f w6 ⟨k, χ, hk, fr, hχ, mM6, hkm⟩ J2 hJ2
    have hz6 := hkm.size
    have hk6 := hkm.block
    by_cases hkl : k < R.length
    case neg =>
      obtain rfl : k = R.length := by omega
      simp (disch := first | with_reducible assumption | omega) only [push_cast, x_blk, x_cd, ↓reduceIte, Nat.reduceEqDiff, List.map_cons, List.map_nil, Int.reduceEq, Int.lt_irrefl, L_veil_keeper_keeps_0, fr, Nat.lt_irrefl]
      exact fin_1 (hQ _ _ ⟨⟨true, (by simp only [push_cast, ↓reduceIte, Nat.reduceEqDiff, Int.reduceEq]), ⟨fun _ => hks, fun _ => rfl⟩⟩, ⟨χ, hχ, mM6⟩, (KeepM.of b5).trans hkm⟩)
    obtain ⟨t, ht⟩ : ∃ t, R[k]? = some t := ⟨_, List.getElem?_eq_getElem hkl⟩
    have htm := List.mem_of_getElem? ht
    have ht6 : IsRow t 6 := (hR.row t htm).more hp.2.1
    have hRb : Recs setC 4 (fun b => w.heap.size ≤ b ∧ b < w5.heap.size) w5 A R := ((OwnR.recs ho setEnc (by decide)).both (Recs.lt setEnc (by decide) (OwnR.recs ho setEnc (by decide)))).mono fun b hb => ⟨by have := hb.1.1; omega, hb.2⟩
    have lM := hM.lt
    have lK := hK.lt
    have hR6 := hRb.keep fun b hb => hk6 b hb.2 (by omega)
    have sA := hR6.isSome (by omega)
    have hldx := fun {K : Fr → World → Prop} {f : Fr} {d : Option Nat} {w' : World} => hR6.ldAll (P := Tryd.prog) (K := K) (f := f) (d := d) (w := w') setEnc ty_ag_76 ht ty_sz_76
    simp (disch := first | with_reducible assumption | omega) only [push_cast, x_blk, x_cd, ↓reduceIte, Nat.reduceEqDiff, List.map_cons, List.map_nil, Int.reduceEq, Int.lt_irrefl, L_veil_keeper_keeps_0, fr, hkl, sA, hldx]
    refine blk_of (cs := setCells (wordsOf [])) al_76 ?_
    intro w7 k7 b7 z7
    simp (disch := first | with_reducible assumption | omega) only [push_cast, x_blk, x_cd, ↓reduceIte, Nat.reduceEqDiff, List.map_cons, List.map_nil, Int.reduceEq, Int.lt_irrefl]
    refine sto_blk k7 (cs := setCells (wordsOf t)) (e4_set _) (by rw [setCells_4, setCells_4]) (setCells_one _) ?_
    intro w8 k8 g8 z8
    have b8 := g8.below b7 b7.size (by intro a ha; injection ha with ha; subst ha; exact Nat.le_refl _)
    have bd : Below w8.heap.size w8 w8.drew := (Same.refl w8).drew.below _
    have b9 := b8.trans (bd.mono b8.size)
    have k9 := k8.below bd k8.lt
    have hne : gK ≠ gM := by
      obtain ⟨kv, hkv, _⟩ := hM
      exact fun e => hkv.ne_blk hK e.symm
    have kK6 : Blk w6 gK 108 (kpC a p A1 free c1 gM) := by
      unfold Blk at kK5 ⊢
      rw [hk6 gK (by omega) hne]; exact kK5
    have kK9 := kK6.below b9 (by omega)
    have mM9 := mM6.below b9 (by omega)
    have hz9 := b9.size
    generalize hu9 : w8.drew = u9 at *
    simp (disch := first | with_reducible assumption | omega) only [push_cast, x_blk, x_cd, ↓reduceIte, Nat.reduceEqDiff, List.map_cons, List.map_nil, Int.reduceEq, Int.lt_irrefl, fr, hu9, kK9.kM, k9.setA (wordsOf_words _) ty_ag_76 ty_sz_76]
    refine mM9.put ht6 1 ?_
    intro w10 m10 g10 z10
    simp (disch := first | with_reducible assumption | omega) only [push_cast, x_blk, x_cd, ↓reduceIte, Nat.reduceEqDiff, List.map_cons, List.map_nil, Int.reduceEq, Int.lt_irrefl, fr]
    exact hJ2 _ _ ⟨k + 1, _, hkl, (by simp only [push_cast, ↓reduceIte, Nat.reduceEqDiff, true_and, and_true, and_self, eq_self, fr]), hχ.put (.inl ⟨rfl, hall t htm⟩), m10, (hkm.below b9 (Nat.le_refl _)).self g10⟩ (by simp only [push_cast, ↓reduceIte, Nat.reduceEqDiff, intOf, fr]; omega)
  obtain ⟨t, ht⟩ : ∃ t, R[i]? = some t := ⟨_, List.getElem?_eq_getElem hil⟩
  have htm := List.mem_of_getElem? ht
  have ht6 : IsRow t 6 := (hR.row t htm).more hp.2.1
  have lM := hM.lt
  have lK := hK.lt
  have bd : Below w5.heap.size w5 w5.drew := (Same.refl w5).drew.below _
  have b6 := b5.trans (bd.mono hz5)
  have ho6 := ho.below bd (Nat.le_refl _)
  have kK6 := hK.below b6 lK
  have mM6 := hM.below b6 lM
  have kS6 := kS5.below bd kS5.lt
  have mN6 := mN.below bd mN.lt
  have hz6 := bd.size
  generalize hu6 : w5.drew = u6 at *
  have hR6 := Recs.lt setEnc (by decide) (OwnR.recs ho6 setEnc (by decide))
  have sA := hR6.isSome (by omega)
  have hldx := fun {K : Fr → World → Prop} {f : Fr} {d : Option Nat} {w' : World} => hR6.ldAll (P := Tryd.prog) (K := K) (f := f) (d := d) (w := w') setEnc ty_ag_76 ht ty_sz_76
  have lk6 : ∀ {K : Fr → World → Prop} {f : Fr} {d : Option Nat} {w : World}, Val1 Tryd.prog K (Instr.lookup 106 (.map (some gM)) (.agg (setC t).toArray) false) u6 f d w = K (updO f d (.int .i64 ((φ t).getD 0))) w := fun {K f d w} => mM6.look ht6
  have hmu : (intOf (f 7)).toNat = i := by rw [fr.2.2.2.2]; simp [intOf]
  by_cases hg1 : (φ t).getD 0 = 1
  · have hkt : Kp p free t := by
      cases hφt : φ t with
      | none => rw [hφt] at hg1; cases hg1
      | some x =>
        rw [hφt] at hg1
        have hx1 : x = 1 := hg1
        rcases hφ t x ht6 hφt with ⟨_, h⟩ | ⟨h, _⟩
        · exact h
        · omega
    simp (disch := first | with_reducible assumption | omega) only [push_cast, x_blk, x_cd, ↓reduceIte, Nat.reduceEqDiff, List.map_cons, List.map_nil, Int.reduceEq, Int.lt_irrefl, L_veil_keeper_keeps_2, fr, hil, hu6, kK6.kM, sA, hldx, v_lookup, lk6, hg1, eq_self]
    exact hJ _ _ ⟨i + 1, R, A, c, ψ, hR.next ht (.inl hkt), (by simp only [push_cast, ↓reduceIte, Nat.reduceEqDiff, true_and, and_true, and_self, eq_self, fr]), ho6, mN6, hψ, kS6, b6⟩ (by rw [hmu]; simp only [push_cast, ↓reduceIte, Nat.reduceEqDiff, intOf, fr]; omega)
  simp (disch := first | with_reducible assumption | omega) only [push_cast, x_blk, x_cd, ↓reduceIte, Nat.reduceEqDiff, List.map_cons, List.map_nil, Int.reduceEq, Int.lt_irrefl, L_veil_keeper_keeps_2, fr, hil, hu6, kK6.kM, sA, hldx, v_lookup, lk6, hg1]
  have bd7 : Below u6.heap.size u6 u6.drew := (Same.refl u6).drew.below _
  have b7 := b6.trans (bd7.mono (by omega))
  have ho7 := ho6.below bd7 (by omega)
  have kK7 := hK.below b7 lK
  have mM7 := hM.below b7 lM
  have kS7 := kS6.below bd7 kS6.lt
  have mN7 := mN6.below bd7 mN6.lt
  have hz7 := bd7.size
  generalize hu7 : u6.drew = u7 at *
  have hR7 := Recs.lt setEnc (by decide) (OwnR.recs ho7 setEnc (by decide))
  have sA7 := hR7.isSome (by omega)
  have hldx7 := fun {K : Fr → World → Prop} {f : Fr} {d : Option Nat} {w' : World} => hR7.ldAll (P := Tryd.prog) (K := K) (f := f) (d := d) (w := w') setEnc ty_ag_76 ht ty_sz_76
  have nQ := hf.lenQ
  simp (disch := first | with_reducible assumption | omega) only [push_cast, x_blk, x_cd, ↓reduceIte, Nat.reduceEqDiff, List.map_cons, List.map_nil, Int.reduceEq, Int.lt_irrefl, fr, hil, hu7, kK7.kS, sA7, hldx7]
  refine call_of (current_Tells (ht6.small (by decide)) (ha.up b7).secret nQ (hp.2.2.2.small hm.2.1)) ?_
  rintro v w8 ⟨rfl, b8⟩
  have b58 := b7.trans (b8.mono (by have := b7.size; omega))
  have ho8 := ho7.below b8 (by have := b7.size; omega)
  have kK8 := hK.below b58 lK
  have mM8 := hM.below b58 lM
  have kS8 := kS7.below b8 kS7.lt
  have mN8 := mN7.below b8 mN7.lt
  have hbad : ¬ Kp p free t → ¬ Kp p free s := fun hn hk => hn ((hR.rch t htm).kp hk)
  have hz8 := b58.size
  have bd9 : Below w8.heap.size w8 w8.drew := (Same.refl w8).drew.below _
  have b9 := b58.trans (bd9.mono hz8)
  have kK9 := hK.below b9 lK
  have mM9 := hM.below b9 lM
  have kS9 := kS8.below bd9 kS8.lt
  by_cases ct : TellsL t p.secret
  · simp (disch := first | with_reducible assumption | omega) only [push_cast, x_blk, x_cd, ↓reduceIte, Nat.reduceEqDiff, List.map_cons, List.map_nil, Int.reduceEq, Int.lt_irrefl, fr, decide_eq_true ct]
    refine ⟨b8, ?_⟩
    generalize hu9 : w8.drew = u9 at *
    simp (disch := first | with_reducible assumption | omega) only [push_cast, x_blk, x_cd, ↓reduceIte, Nat.reduceEqDiff, List.map_cons, List.map_nil, Int.reduceEq, Int.lt_irrefl, fr, hu9, kK9.kM, kS9.setA (wordsOf_words _) ty_ag_76 ty_sz_76]
    refine mM9.put s6 2 ?_
    intro w10 m10 g10 z10
    have hz9 := b9.size
    simp (disch := first | with_reducible assumption | omega) only [push_cast, x_blk, x_cd, ↓reduceIte, Nat.reduceEqDiff, List.map_cons, List.map_nil, Int.reduceEq, Int.lt_irrefl, fr]
    exact fin_1 (hQ _ _ ⟨⟨false, (by simp only [push_cast, ↓reduceIte, Nat.reduceEqDiff, Int.reduceEq, fr]), ⟨fun h => (by cases h), fun h => absurd h (hbad (Kp.not_tells ct))⟩⟩, ⟨_, hφ.put (.inr ⟨rfl, hbad (Kp.not_tells ct)⟩), m10⟩, (KeepM.of b9).self g10⟩)
  have lk7 : ∀ {K : Fr → World → Prop} {f : Fr} {d : Option Nat} {w : World}, Val1 Tryd.prog K (Instr.lookup 106 (.map (some gM)) (.agg (setC t).toArray) false) u7 f d w = K (updO f d (.int .i64 ((φ t).getD 0))) w := fun {K f d w} => mM7.look ht6
  simp (disch := first | with_reducible assumption | omega) only [push_cast, x_blk, x_cd, ↓reduceIte, Nat.reduceEqDiff, List.map_cons, List.map_nil, Int.reduceEq, Int.lt_irrefl, fr, decide_eq_false ct]
  refine ⟨b8, ?_⟩
  by_cases hg2 : (φ t).getD 0 = 2
  · have hkt : ¬ Kp p free t := by
      cases hφt : φ t with
      | none => rw [hφt] at hg2; cases hg2
      | some x =>
        rw [hφt] at hg2
        have hx1 : x = 2 := hg2
        rcases hφ t x ht6 hφt with ⟨h, _⟩ | ⟨_, h⟩
        · omega
        · exact h
    generalize hu9 : w8.drew = u9 at *
    simp (disch := first | with_reducible assumption | omega) only [push_cast, x_blk, x_cd, ↓reduceIte, Nat.reduceEqDiff, List.map_cons, List.map_nil, Int.reduceEq, Int.lt_irrefl, fr, kK7.kM, hil, sA7, hldx7, v_lookup, lk7, hg2, eq_self, hu9, kK9.kM, kS9.setA (wordsOf_words _) ty_ag_76 ty_sz_76]
    refine mM9.put s6 2 ?_
    intro w10 m10 g10 z10
    have hz9 := b9.size
    simp (disch := first | with_reducible assumption | omega) only [push_cast, x_blk, x_cd, ↓reduceIte, Nat.reduceEqDiff, List.map_cons, List.map_nil, Int.reduceEq, Int.lt_irrefl, fr]
    exact fin_1 (hQ _ _ ⟨⟨false, (by simp only [push_cast, ↓reduceIte, Nat.reduceEqDiff, Int.reduceEq, fr]), ⟨fun h => (by cases h), fun h => absurd h (hbad (hkt))⟩⟩, ⟨_, hφ.put (.inr ⟨rfl, hbad (hkt)⟩), m10⟩, (KeepM.of b9).self g10⟩)
  clear kK9 mM9 kS9 b9 bd9
  simp (disch := first | with_reducible assumption | omega) only [push_cast, x_blk, x_cd, ↓reduceIte, Nat.reduceEqDiff, List.map_cons, List.map_nil, Int.reduceEq, Int.lt_irrefl, fr, kK7.kM, hil, sA7, hldx7, v_lookup, lk7, hg2, kK8.kE]
  have hkg : ∀ {R2 : List (List Int)}, R <+: R2 → R2[i]? = some t := fun h => by rw [prefix_getElem? h hil]; exact ht
  refine loop_rule (fun f' w' => ∃ (j : Nat) (R2 : List (List Int)) (A : Option Addr) (c : Nat) (ψ : List Int → Option Int), j ≤ p.seen.length ∧ R <+: R2 ∧ KRG p free s R2 i ∧ (∀ e ∈ p.seen.take j, e ∉ free → nextP p t e ∈ R2) ∧ (f' 0 = .pointer (some ⟨gK, 0, none⟩) ∧ f' 3 = .pointer (some ⟨w.heap.size, 0, none⟩) ∧ f' 5 = .slice A R2.length c ∧ f' 6 = .map (some gN) ∧ f' 7 = .int .i64 i ∧ f' 79 = .slice a.Ap p.seen.length a.cp ∧ f' 80 = .int .i64 p.seen.length ∧ f' 81 = .int .i64 j) ∧
      OwnR setC (w.heap.size + 1) 76 4 w' A c R2 ∧ SMap w' gN ψ ∧ (∀ t, IsRow t 6 → ψ t = if t ∈ R2 then some 1 else none) ∧ Blk w' w.heap.size 76 (setCells (wordsOf s)) ∧ Below w.heap.size w w')
    (fun f' _ => p.seen.length - (intOf (f' 81)).toNat) ⟨0, R, A, c, ψ, Nat.zero_le _, List.prefix_refl _, hR, fun e he => by simp at he, (by simp only [push_cast, ↓reduceIte, Nat.reduceEqDiff, true_and, and_true, and_self, eq_self, fr]), ho8, mN8, hψ, kS8, b58⟩ ?_
  clear fr hR ho8 mN8 hψ kS8 b58 kK8 mM8 hRl
  rintro f w9 ⟨j, R2, A, c, ψ, hj, hpre, hR, hsn, fr, ho, mN, hψ, kS9, b9⟩ J2 hJ2
  have hRl := hR.len hp.2.1
  have hil2 : i < R2.length := Nat.lt_of_lt_of_le hil hpre.length_le
  have ht2 := hkg hpre
  by_cases hjl : j < p.seen.length
  case neg =>
    obtain rfl : j = p.seen.length := by omega
    rw [List.take_length] at hsn
    have hnx := hR.next ht2 (.inr ⟨ct, fun e he => hsn e (ufE_mem.1 he).1 (ufE_mem.1 he).2⟩)
    simp (disch := first | with_reducible assumption | omega) only [push_cast, x_blk, x_cd, ↓reduceIte, Nat.reduceEqDiff, List.map_cons, List.map_nil, Int.reduceEq, Int.lt_irrefl, L_veil_keeper_keeps_1, fr, Nat.lt_irrefl]
    exact hJ _ _ ⟨i + 1, R2, A, c, ψ, hnx, (by simp only [push_cast, ↓reduceIte, Nat.reduceEqDiff, true_and, and_true, and_self, eq_self, fr]), ho, mN, hψ, kS9, b9⟩ (by rw [hmu]; simp only [push_cast, ↓reduceIte, Nat.reduceEqDiff, intOf, fr]; omega)
  have hz9 := b9.size
  have kK9 := hK.below b9 lK
  have hIs := (ha.up b9).seen
  have sI := hIs.isSome (by omega)
  have hld := fun {K : Fr → World → Prop} {f : Fr} {d : Option Nat} {w : World} => hIs.ld (P := Tryd.prog) (K := K) (f := f) (d := d) (w := w) ty_ag_3 j hjl
  have hem := getD_mem p.seen 0 j hjl
  have htk := take_snoc p.seen (0 : Int) j hjl
  generalize p.seen.getD j 0 = e at *
  have hmu2 : (intOf (f 81)).toNat = j := by rw [fr.2.2.2.2.2.2.2]; simp [intOf]
  simp (disch := first | with_reducible assumption | omega) only [push_cast, x_blk, x_cd, ↓reduceIte, Nat.reduceEqDiff, List.map_cons, List.map_nil, Int.reduceEq, Int.lt_irrefl, L_veil_keeper_keeps_1, fr, hjl, sI, hld, kK9.kF]
  refine call_of (row_Has (h1.up b9) c1 e (by omega)) ?_
  rintro v w10 ⟨rfl, s10⟩
  have b10 := s10.below w9.heap.size
  have ho10 := ho.below b10 (Nat.le_refl _)
  have mN10 := mN.below b10 mN.lt
  have kS10 := kS9.below b10 kS9.lt
  have b910 := b9.trans (b10.mono hz9)
  have hz10 := b10.size
  by_cases q : e ∈ free
  · simp (disch := first | with_reducible assumption | omega) only [push_cast, x_blk, x_cd, ↓reduceIte, Nat.reduceEqDiff, List.map_cons, List.map_nil, Int.reduceEq, Int.lt_irrefl, fr, decide_eq_true q]
    exact hJ2 _ _ ⟨j + 1, R2, A, c, ψ, hjl, hpre, hR, fun x hx hnf => by
      rw [htk] at hx
      rcases List.mem_append.1 hx with hx | hx
      · exact hsn x hx hnf
      · rw [List.mem_singleton.1 hx] at hnf; exact absurd q hnf, (by simp only [push_cast, ↓reduceIte, Nat.reduceEqDiff, true_and, and_true, and_self, eq_self, fr]), ho10, mN10, hψ, kS10, b910⟩ (by rw [hmu2]; simp only [push_cast, ↓reduceIte, Nat.reduceEqDiff, intOf, fr]; omega)
  have bd : Below w10.heap.size w10 w10.drew := (Same.refl w10).drew.below _
  have ho11 := ho10.below bd (Nat.le_refl _)
  have mN11 := mN10.below bd mN10.lt
  have kS11 := kS10.below bd kS10.lt
  have b911 := b910.trans (bd.mono (by omega))
  have kK11 := hK.below b911 lK
  have hz11 := bd.size
  have hR11 := Recs.lt setEnc (by decide) (OwnR.recs ho11 setEnc (by decide))
  have sA11 := hR11.isSome (by omega)
  have hldx11 := fun {K : Fr → World → Prop} {f : Fr} {d : Option Nat} {w' : World} => hR11.ldAll (P := Tryd.prog) (K := K) (f := f) (d := d) (w := w') setEnc ty_ag_76 ht2 ty_sz_76
  generalize hu11 : w10.drew = u11 at *
  have hue : e ∈ ufE p free := ufE_mem.2 ⟨hem, q⟩
  simp (disch := first | with_reducible assumption | omega) only [push_cast, x_blk, x_cd, ↓reduceIte, Nat.reduceEqDiff, List.map_cons, List.map_nil, Int.reduceEq, Int.lt_irrefl, fr, decide_eq_false q, hu11, kK11.kP, hil2, sA11, hldx11]
  have rT := seeL_row hm p.seen t e
  have r6 : IsRow (nextP p t e) 6 := rT.more hp.2.1
  refine cutT (fun f' w' => ∃ g : Nat, (f' 0 = .pointer (some ⟨gK, 0, none⟩) ∧ f' 3 = .pointer (some ⟨w.heap.size, 0, none⟩) ∧ f' 5 = .slice A R2.length c ∧ f' 6 = .map (some gN) ∧ f' 7 = .int .i64 i ∧ f' 79 = .slice a.Ap p.seen.length a.cp ∧ f' 80 = .int .i64 p.seen.length ∧ f' 81 = .int .i64 j ∧ f' 10 = .pointer (some ⟨g, 0, none⟩)) ∧
      Blk w' g 76 (setCells (wordsOf (nextP p t e))) ∧ u11.heap.size ≤ g ∧ Below u11.heap.size u11 w') 20000 40000 (by decide) ?_ ?_
  · intro E hE
    rw [x_t_two]
    refine ⟨?_, ?_⟩
    · simp (disch := first | with_reducible assumption | omega) only [push_cast, x_blk, x_cd, ↓reduceIte, Nat.reduceEqDiff, List.map_cons, List.map_nil, Int.reduceEq, Int.lt_irrefl, fr]
      refine call_of (current_Next (ha.up b911) hf hm t e) ?_
      rintro v w12 ⟨rfl, b12⟩
      simp (disch := first | with_reducible assumption | omega) only [push_cast, x_blk, x_cd, ↓reduceIte, Nat.reduceEqDiff, List.map_cons, List.map_nil, Int.reduceEq, Int.lt_irrefl, fr]
      refine ⟨b12, ?_⟩
      refine blk_of (cs := setCells (wordsOf [])) al_76 ?_
      intro w13 k13 b13 z13
      have b13' := b12.trans (b13.mono b12.size)
      simp (disch := first | with_reducible assumption | omega) only [push_cast, x_blk, x_cd, ↓reduceIte, Nat.reduceEqDiff, List.map_cons, List.map_nil, Int.reduceEq, Int.lt_irrefl, fr]
      refine ⟨b13', ?_⟩
      refine sto_blk k13 (cs := setCells (wordsOf (nextP p t e))) (e4_set _) (by rw [setCells_4, setCells_4]) (setCells_one _) ?_
      intro w14 k14 g14 z14
      simp (disch := first | with_reducible assumption | omega) only [push_cast, x_blk, x_cd, ↓reduceIte, Nat.reduceEqDiff, List.map_cons, List.map_nil, Int.reduceEq, Int.lt_irrefl, fr]
      exact hE _ _ ⟨_, (by simp only [push_cast, ↓reduceIte, Nat.reduceEqDiff, true_and, and_true, and_self, eq_self, fr]), k14, b12.size, g14.below b13' b13'.size (by intro a ha; injection ha with ha; subst ha; exact b12.size)⟩
    · simp (disch := first | with_reducible assumption | omega) only [push_cast, x_blk, x_cd, ↓reduceIte, Nat.reduceEqDiff, List.map_cons, List.map_nil, Int.reduceEq, Int.lt_irrefl, fr]
      refine blk_of (cs := setCells (wordsOf [])) al_76 ?_
      intro w13 k13 b13 z13
      simp (disch := first | with_reducible assumption | omega) only [push_cast, x_blk, x_cd, ↓reduceIte, Nat.reduceEqDiff, List.map_cons, List.map_nil, Int.reduceEq, Int.lt_irrefl, fr]
      refine ⟨b13, ?_⟩
      refine call_of (current_Next (ha.up (b911.trans (b13.mono (by omega)))) hf hm t e) ?_
      rintro v w12 ⟨rfl, b12⟩
      have b12' := b13.trans (b12.mono b13.size)
      replace k13 := k13.below b12 k13.lt
      simp (disch := first | with_reducible assumption | omega) only [push_cast, x_blk, x_cd, ↓reduceIte, Nat.reduceEqDiff, List.map_cons, List.map_nil, Int.reduceEq, Int.lt_irrefl, fr]
      refine ⟨b12', ?_⟩
      refine sto_blk k13 (cs := setCells (wordsOf (nextP p t e))) (e4_set _) (by rw [setCells_4, setCells_4]) (setCells_one _) ?_
      intro w14 k14 g14 z14
      simp (disch := first | with_reducible assumption | omega) only [push_cast, x_blk, x_cd, ↓reduceIte, Nat.reduceEqDiff, List.map_cons, List.map_nil, Int.reduceEq, Int.lt_irrefl, fr]
      exact hE _ _ ⟨_, (by simp only [push_cast, ↓reduceIte, Nat.reduceEqDiff, true_and, and_true, and_self, eq_self, fr]), k14, Nat.le_refl _, g14.below b12' b12'.size (by intro a ha; injection ha with ha; subst ha; exact Nat.le_refl _)⟩
  clear fr
  rintro f w12 ⟨g, fr, kT, hg, b12⟩
  have hz12 := b12.size
  have ho12 := ho11.below b12 (by omega)
  have mN12 := mN11.below b12 mN11.lt
  have kS12 := kS11.below b12 kS11.lt
  have b912 := b911.trans (b12.mono (by omega))
  have hkT : ∀ {K : Fr → World → Prop} {f : Fr} {d : Option Nat} {w : World}, Val1 Tryd.prog K (Instr.lookup 106 (.map (some gN)) (.agg (setC (nextP p t e)).toArray) false) w12 f d w = K (updO f d (.int .i64 ((ψ (nextP p t e)).getD 0))) w := fun {K f d w} => mN12.look r6
  have hnx : ∀ {R3 : List (List Int)}, R2 <+: R3 → nextP p t e ∈ R3 → ∀ x ∈ p.seen.take (j + 1), x ∉ free → nextP p t x ∈ R3 := fun hp3 hin x hx hnf => by
    rw [htk] at hx
    rcases List.mem_append.1 hx with hx | hx
    · exact hp3.subset (hsn x hx hnf)
    · rw [List.mem_singleton.1 hx]; exact hin
  rw [hψ _ r6] at hkT
  by_cases hin : nextP p t e ∈ R2
  · rw [if_pos hin] at hkT
    simp (disch := first | with_reducible assumption | omega) only [push_cast, x_blk, x_cd, ↓reduceIte, Nat.reduceEqDiff, List.map_cons, List.map_nil, Int.reduceEq, Int.lt_irrefl, fr, kT.setA (wordsOf_words _) ty_ag_76 ty_sz_76, v_lookup, hkT, Option.getD_some]
    exact hJ2 _ _ ⟨j + 1, R2, A, c, ψ, hjl, hpre, hR, hnx (List.prefix_refl _) hin, (by simp only [push_cast, ↓reduceIte, Nat.reduceEqDiff, true_and, and_true, and_self, eq_self, fr]), ho12, mN12, hψ, kS12, b912⟩ (by rw [hmu2]; simp only [push_cast, ↓reduceIte, Nat.reduceEqDiff, intOf, fr]; omega)
  rw [if_neg hin] at hkT
  have hlt12 := mN12.lt
  have hne : ∀ {w' : World} {A' : Option Addr} {c' : Nat} {l : List (List Int)} {χ : List Int → Option Int}, SMap w' gN χ → OwnR setC (w.heap.size + 1) 76 4 w' A' c' l → some gN ≠ A'.map (·.block) := fun hs ho => by
    obtain ⟨kv, hkv, _⟩ := hs
    exact hkv.ne_own ho
  have lN11 := mN11.lt
  have hgT : g ≠ gN := by omega
  have hRl2 := hRl
  simp (disch := first | with_reducible assumption | omega) only [push_cast, x_blk, x_cd, ↓reduceIte, Nat.reduceEqDiff, List.map_cons, List.map_nil, Int.reduceEq, Int.lt_irrefl, fr, kT.setA (wordsOf_words _) ty_ag_76 ty_sz_76, v_lookup, hkT, Option.getD_none, eq_self]
  refine mN12.put r6 1 ?_
  intro w13 m13 g13 z13
  have ho13 := ho12.grew g13 (.inr (fun e => hne mN12 ho12 e.symm))
  have kT13 := kT.grown g13.by_ (by simp; omega)
  have kS13 := kS12.grown g13.by_ (by simp; omega)
  have b913 := g13.below b912 b912.size (by intro a ha; injection ha with ha; subst ha; exact hN)
  simp (disch := first | with_reducible assumption | omega) only [push_cast, x_blk, x_cd, ↓reduceIte, Nat.reduceEqDiff, List.map_cons, List.map_nil, Int.reduceEq, Int.lt_irrefl, fr, kT13.setA (wordsOf_words _) ty_ag_76 ty_sz_76, bs_rec setEnc slT_72 _ (by decide)]
  refine app_rec setEnc slT_72 ho13 (nextP p t e) (by omega) (by omega) (by have := kS13.lt; omega) ?_
  intro A14 c14 w14 o14 g14 hA14 hs14 z14
  simp (disch := first | with_reducible assumption | omega) only [push_cast, x_blk, x_cd, ↓reduceIte, Nat.reduceEqDiff, List.map_cons, List.map_nil, Int.reduceEq, Int.lt_irrefl, fr]
  exact hJ2 _ _ ⟨j + 1, R2 ++ [nextP p t e], A14, c14, putF ψ (nextP p t e) 1, hjl, hpre.trans (List.prefix_append _ _), hR.add hm (List.mem_of_getElem? ht2) hue hin, hnx (List.prefix_append _ _) (by simp), (by simp only [push_cast, ↓reduceIte, Nat.reduceEqDiff, true_and, and_true, and_self, eq_self, fr, List.length_append, List.length_cons, List.length_nil]), o14, m13.grown g14.by_ (hne m13 ho13), fun x hx => by
    unfold putF
    by_cases cx : x = nextP p t e
    · rw [if_pos cx, if_pos (by simp [cx])]
    · rw [if_neg cx, hψ x hx]
      by_cases cy : x ∈ R2
      · rw [if_pos cy, if_pos (by simp [cy])]
      · rw [if_neg cy, if_neg (by simp [cy, cx])], kS13.grown g14.by_ (ho13.ne_ltV (Nat.lt_succ_self _)), g14.below b913 b913.size (fun a ha => by have := ho13.geB a ha; omega)⟩ (by rw [hmu2]; simp only [push_cast, ↓reduceIte, Nat.reduceEqDiff, intOf, fr]; omega)
end Go.Proofs.YtcjedgiglimipaaDoor

/-
  Chapter 15, in plain Lean: what the program's most and move go through; bits of numbers. No program in sight.
-/
namespace Go.Proofs.YtcjedgiglimipaaDoor
set_option linter.unusedSimpArgs false
set_option linter.unusedVariables false
set_option linter.unusedSectionVars false
open Go.RowKit

def subK (l : List Int) (b k : Nat) : List Int := ((List.range k).filter fun i => b.testBit i).map fun i => l.getD i 0
theorem subK_succ (l : List Int) (b k : Nat) : subK l b (k + 1) = if b.testBit k = true then subK l b k ++ [l.getD k 0] else subK l b k := by
  unfold subK
  rw [List.range_succ, List.filter_append, List.map_append]
  by_cases h : b.testBit k = true
  · rw [if_pos h, List.filter_cons, if_pos h]; rfl
  · rw [if_neg h, List.filter_cons, if_neg h]; simp
theorem subK_mem {l : List Int} {b k : Nat} {x : Int} : x ∈ subK l b k ↔ ∃ i, i < k ∧ b.testBit i = true ∧ l.getD i 0 = x := by
  unfold subK
  simp only [List.mem_map, List.mem_filter, List.mem_range]
  exact ⟨fun ⟨i, ⟨h1, h2⟩, h3⟩ => ⟨i, h1, h2, h3⟩, fun ⟨i, h1, h2, h3⟩ => ⟨i, ⟨h1, h2⟩, h3⟩⟩
theorem subK_in {l : List Int} {b k : Nat} (hk : k ≤ l.length) : ∀ x ∈ subK l b k, x ∈ l := fun x hx => by
  obtain ⟨i, h1, _, rfl⟩ := subK_mem.1 hx
  exact getD_mem l 0 i (by omega)
theorem strict_at {l : List Int} (h : Strict l) {i j : Nat} (hij : i < j) (hj : j < l.length) : l.getD i 0 < l.getD j 0 := by
  have := List.pairwise_iff_getElem.1 h i j (by omega) hj hij
  rw [List.getD_eq_getElem?_getD, List.getD_eq_getElem?_getD, List.getElem?_eq_getElem (by omega : i < l.length), List.getElem?_eq_getElem hj]
  exact this
theorem subK_strict {l : List Int} (h : Strict l) {b k : Nat} (hk : k ≤ l.length) : Strict (subK l b k) := by
  unfold subK Strict
  rw [List.pairwise_map]
  refine List.Pairwise.imp_of_mem (fun {i j} _ hj hij => strict_at h hij ?_) (List.Pairwise.filter _ List.pairwise_lt_range)
  have := List.mem_range.1 (List.mem_filter.1 hj).1
  omega
/-- Each part of a row has its bits. -/
theorem sub_all {l t : List Int} (hl : Strict l) (n : l.length ≤ 256) (ht : Strict t) (hin : ∀ y ∈ t, y ∈ l) : ∃ b, b < 2 ^ l.length ∧ subK l b l.length = t := by
  let ix : List Int := ((List.range l.length).filter fun i => decide (l.getD i 0 ∈ t)).map fun (i : Nat) => (i : Int)
  have hs : Strict ix := by
    show List.Pairwise _ _
    rw [List.pairwise_map]
    exact List.Pairwise.imp (fun h => Int.ofNat_lt.2 h) (List.Pairwise.filter _ List.pairwise_lt_range)
  have hx : ∀ i : Nat, ((i : Int) ∈ ix ↔ i < l.length ∧ l.getD i 0 ∈ t) := fun i => by
    show (i : Int) ∈ List.map _ _ ↔ _
    simp only [List.mem_map, List.mem_filter, List.mem_range, decide_eq_true_eq]
    constructor
    · rintro ⟨j, h1, h2⟩
      have : j = i := by omega
      subst this; exact h1
    · intro h; exact ⟨i, h, rfl⟩
  have hr : IsRow ix (l.length : Int) := IsRow.of_strict hs fun x hxm => by
    obtain ⟨j, hj, rfl⟩ := List.mem_map.1 hxm
    have := List.mem_range.1 (List.mem_filter.1 hj).1
    omega
  refine ⟨vnum ix, num_lt hr, (subK_strict hl (Nat.le_refl _)).ext ht fun x => ?_⟩
  rw [subK_mem]
  constructor
  · rintro ⟨i, h1, h2, rfl⟩
    rw [num_bit hr] at h2
    exact ((hx i).1 (of_decide_eq_true h2)).2
  · intro hxt
    obtain ⟨i, h1, rfl⟩ := (mem_iff_getD l 0 x).1 (hin x hxt)
    exact ⟨i, h1, by rw [num_bit hr]; exact decide_eq_true ((hx i).2 ⟨h1, hxt⟩), rfl⟩
/-- What is joined, as far as the n-th part. -/
def MostB (p : Plt) (free l out : List Int) (n : Nat) : Prop := ∀ x, x ∈ out ↔ ∃ k, 1 ≤ k ∧ k < n ∧ Kp p free (wideL p.m p.seen (subK l k l.length)) ∧ x ∈ subK l k l.length
section
variable {p : Plt} {free l out : List Int} {n : Nat}
theorem MostB.start : MostB p free l [] 1 := fun x => ⟨fun h => by simp at h, fun ⟨k, h1, h2, _⟩ => absurd h2 (by omega)⟩
theorem MostB.skip (h : MostB p free l out n) (hn : ¬ Kp p free (wideL p.m p.seen (subK l n l.length))) : MostB p free l out (n + 1) := fun x => by
  rw [h x]
  constructor
  · rintro ⟨k, h1, h2, h3⟩; exact ⟨k, h1, by omega, h3⟩
  · rintro ⟨k, h1, h2, h3, h4⟩
    by_cases c : k = n
    · subst c; exact absurd h3 hn
    · exact ⟨k, h1, by omega, h3, h4⟩
theorem MostB.join (h : MostB p free l out n) (h1 : 1 ≤ n) (hn : Kp p free (wideL p.m p.seen (subK l n l.length))) : MostB p free l (out ++ subK l n l.length) (n + 1) := fun x => by
  rw [List.mem_append, h x]
  constructor
  · rintro (⟨k, g1, g2, g3⟩ | hx)
    · exact ⟨k, g1, by omega, g3⟩
    · exact ⟨n, h1, by omega, hn, hx⟩
  · rintro ⟨k, g1, g2, g3, g4⟩
    by_cases c : k = n
    · subst c; exact .inr g4
    · exact .inl ⟨k, g1, by omega, g3, g4⟩
theorem MostB.small (hl : Small l) (h : MostB p free l out n) : Small out := fun x hx => by
  obtain ⟨k, _, _, _, hx⟩ := (h x).1 hx
  exact hl x (subK_in (Nat.le_refl _) x hx)
theorem MostB.done (hl : Strict l) (hs : Small l) (h6 : l.length ≤ 256) (h : MostB p free l out (2 ^ l.length)) : setV out = setV (mostL p free l) := by
  unfold setV
  rw [wordsOf_ext fun x h0 h1 => ?_]
  rw [h x, mostL, mem_pick]
  constructor
  · rintro ⟨k, g1, g2, g3, g4⟩
    exact ⟨⟨h0, h1⟩, _, subK_strict hl (Nat.le_refl _), subK_in (Nat.le_refl _), g4, g3⟩
  · rintro ⟨_, t, g1, g2, g3, g4⟩
    obtain ⟨k, k1, rfl⟩ := sub_all hl h6 g1 g2
    refine ⟨k, ?_, k1, g4, g3⟩
    rcases Nat.eq_zero_or_pos k with c | c
    · subst c
      obtain ⟨i, _, hi, _⟩ := subK_mem.1 g3
      simp at hi
    · exact c
end

def movK (m : Mach) (s to : List Int) (e : Int) (k : Nat) : List Int := ((m.arrows.take k).filter fun a => decide (a.evt = e) && decide (a.frm ∈ s) && decide (a.to_ ∈ to)).map (·.frm)
theorem movK_succ (m : Mach) (s to : List Int) (e : Int) {k : Nat} (h : k < m.arrows.length) :
    movK m s to e (k + 1) = if (m.arrows.getD k default).evt = e ∧ (m.arrows.getD k default).frm ∈ s ∧ (m.arrows.getD k default).to_ ∈ to then movK m s to e k ++ [(m.arrows.getD k default).frm] else movK m s to e k := by
  unfold movK
  rw [take_snoc _ default k h, List.filter_append, List.map_append]
  generalize m.arrows.getD k default = y
  by_cases h1 : y.evt = e <;> by_cases h2 : y.frm ∈ s <;> by_cases h3 : y.to_ ∈ to <;> simp [h1, h2, h3]
theorem movK_len (m : Mach) (s to : List Int) (e : Int) (k : Nat) : (movK m s to e k).length ≤ k := by
  unfold movK
  rw [List.length_map]
  exact Nat.le_trans (List.length_filter_le _ _) (List.length_take_le _ _)
theorem mov_stay {m : Mach} (hm : m.May) (hp : PlainM m) {s to : List Int} (hs : Strict s) (e : Int) : movK m s to e m.arrows.length = stayL m to s e := by
  have one : ∀ a b, a ∈ m.arrows → b ∈ m.arrows → a.frm = b.frm → a.evt = b.evt → a.to_ = b.to_ := fun a b ha hb h1 h2 => by
    obtain ⟨⟨a1, a2⟩, _, a5, a6⟩ := May.arr hm ha
    have hl := hp.2 _ _ a1 a2 a5 a6
    have ma : a.to_ ∈ stepL m [a.frm] a.evt := mem_stepL.2 ⟨a, ha, rfl, by simp, rfl⟩
    have mb : b.to_ ∈ stepL m [a.frm] a.evt := mem_stepL.2 ⟨b, hb, h2.symm, by simp [h1], rfl⟩
    generalize stepL m [a.frm] a.evt = l at *
    match l, hl with
    | [], _ => simp at ma
    | [x], _ => exact (List.mem_singleton.1 ma).trans (List.mem_singleton.1 mb).symm
  refine Strict.ext ?_ ?_ fun x => ?_
  · unfold movK Strict
    rw [List.take_length, List.pairwise_map]
    refine List.Pairwise.imp_of_mem (fun {a b} ha hb hab => ?_) (List.Pairwise.filter _ (May.ord hm))
    rw [List.mem_filter] at ha hb
    simp only [Bool.and_eq_true, decide_eq_true_eq] at ha hb
    have := one a b ha.1 hb.1
    have e1 := ha.2.1.1
    have e2 := hb.2.1.1
    unfold Arr.lt at hab
    rcases Int.lt_trichotomy a.frm b.frm with c | c | c
    · exact c
    · have := this c (e1.trans e2.symm); omega
    · omega
  · unfold stayL; exact List.Pairwise.filter _ hs
  · rw [stayL_mem]
    unfold movK
    rw [List.take_length, List.mem_map]
    simp only [List.mem_filter, Bool.and_eq_true, decide_eq_true_eq]
    constructor
    · rintro ⟨a, ⟨ha, ⟨h1, h2⟩, h3⟩, rfl⟩
      refine ⟨h2, a.to_, h3, ?_⟩
      obtain ⟨⟨a1, a2⟩, _, a5, a6⟩ := May.arr hm ha
      have hl := hp.2 _ _ a1 a2 a5 a6
      have ma : a.to_ ∈ stepL m [a.frm] a.evt := mem_stepL.2 ⟨a, ha, rfl, by simp, rfl⟩
      rw [h1] at hl ma
      generalize stepL m [a.frm] e = l at *
      match l, hl with
      | [], _ => simp at ma
      | [x], _ => rw [List.mem_singleton.1 ma]
    · rintro ⟨h1, t, h2, h3⟩
      have ht : t ∈ stepL m [x] e := by rw [h3]; simp
      obtain ⟨a, ha, b1, b2, rfl⟩ := mem_stepL.1 ht
      rw [List.mem_singleton] at b2
      exact ⟨a, ⟨ha, ⟨b1, by rw [b2]; exact h1⟩, h2⟩, b2⟩

section
variable {P : Program} {K : Fr → World → Prop} {u : World} {f : Fr} {d : Option Nat} {w : World} {t : Nat} {xo yo : Operand}
theorem shl_i64 {k z : Nat} (h : 2 ^ k = z) (hk : k < 62) : Val1 P K (binS .shl t xo yo (.int .i64 1) (.int .i64 k)) u f d w = K (updO f d (.int .i64 z)) w :=
  val1_of u f d w fun w' _ => by
    subst h
    have h0 : ¬ ((k : Int) < 0) := by omega
    have hb : IntKind.i64.bits = 64 := rfl
    have h1 : min k 64 = k := by omega
    have h2 : (1 : Int) * 2 ^ k = ((2 ^ k : Nat) : Int) := by simp
    have h3 : 2 ^ k < 2 ^ 62 := Nat.pow_lt_pow_right (by decide) hk
    have h4 : IntKind.i64.wrap ((2 ^ k : Nat) : Int) = ((2 ^ k : Nat) : Int) := by
      generalize 2 ^ k = q at *
      exact wrap_i64 _ (by omega) (by omega)
    simp only [binS, eqGuard, binOp, Op.shift, if_neg h0, Int.toNat_natCast, hb, h1, h2, h4]
    simp
theorem shr_i64 {x k z : Nat} (h : x >>> k = z) (hk : k < 64) : Val1 P K (binS .shr t xo yo (.int .i64 x) (.int .i64 k)) u f d w = K (updO f d (.int .i64 z)) w :=
  val1_of u f d w fun w' _ => by
    subst h
    have h0 : ¬ ((k : Int) < 0) := by omega
    have hb : IntKind.i64.bits = 64 := rfl
    have h1 : min k 64 = k := by omega
    have h2 : (x : Int).fdiv (2 ^ k) = ((x >>> k : Nat) : Int) := by
      have e : (2 : Int) ^ k = ((2 ^ k : Nat) : Int) := by simp
      rw [e, Nat.shiftRight_eq_div_pow, Int.fdiv_eq_ediv_of_nonneg _ (Int.natCast_nonneg _)]
      rfl
    show (Op.shift .shr .i64 x .i64 k : Sem Value).run P w' = _
    unfold Op.shift
    rw [if_neg h0]
    show Result.ok (Value.int .i64 ((x : Int).fdiv (2 ^ (min (k : Int).toNat 64)))) w' = _
    rw [Int.toNat_natCast, h1, h2]
theorem and1_i64 {x z : Nat} (h : x &&& 1 = z) (hx : x < 2 ^ 62) : Val1 P K (binS .and t xo yo (.int .i64 x) (.int .i64 1)) u f d w = K (updO f d (.int .i64 z)) w :=
  val1_of u f d w fun w' _ => by
    subst h
    have h1 : (BitVec.ofInt 64 (x : Int) &&& BitVec.ofInt 64 ((1 : Nat) : Int)).toNat = x &&& 1 := by
      rw [BitVec.toNat_and]
      have : x < 2 ^ 64 := by omega
      simp [BitVec.toNat_ofInt, Nat.mod_eq_of_lt this]
    have h2 : x &&& 1 ≤ 1 := Nat.and_le_right
    have h3 : IntKind.i64.wrap ((x &&& 1 : Nat) : Int) = ((x &&& 1 : Nat) : Int) := wrap_i64 _ (by omega) (by omega)
    show Result.ok (Value.int .i64 (IntKind.i64.wrap ((BitVec.ofInt 64 (x : Int) &&& BitVec.ofInt 64 ((1 : Nat) : Int)).toNat : Int))) w' = _
    rw [h1, h3]
theorem bit_and1 (x k : Nat) : (x >>> k) &&& 1 = if x.testBit k then 1 else 0 := by
  rw [Nat.and_one_is_mod, Nat.shiftRight_eq_div_pow, Nat.testBit_eq_decide_div_mod_eq]
  by_cases h : x / 2 ^ k % 2 = 1
  · rw [h]; simp
  · have h0 : x / 2 ^ k % 2 = 0 := by omega
    rw [h0]; simp
end
end Go.Proofs.YtcjedgiglimipaaDoor

/-
  Chapter 15, in plain Lean: what a veil lets be; what holds of the veil that is made: it keeps the secret, and forbids nothing but what is free. No program in sight.
-/
namespace Go.Proofs.YtcjedgiglimipaaDoor
set_option linter.unusedSimpArgs false
set_option linter.unusedVariables false
set_option linter.unusedSectionVars false
open Go.RowKit

theorem clos_one {es : List (Int × Int)} {l : List Int} {x : Int} : Clos es l x ↔ ∃ y ∈ l, Clos es [y] x := by
  constructor
  · intro h
    induction h with
    | base x h => exact ⟨x, h, .base x (by simp)⟩
    | step p hp _ ih =>
      obtain ⟨y, h1, h2⟩ := ih
      exact ⟨y, h1, .step p hp h2⟩
  · rintro ⟨y, h1, h2⟩
    exact Clos.mono (fun x hx => by rw [List.mem_singleton.1 hx]; exact h1) h2
theorem step_one {m : Mach} {l : List Int} {e x : Int} : x ∈ stepL m l e ↔ ∃ y ∈ l, x ∈ stepL m [y] e := by
  rw [mem_stepL]
  constructor
  · rintro ⟨a, h1, h2, h3, h4⟩
    exact ⟨a.frm, h3, mem_stepL.2 ⟨a, h1, h2, by simp, h4⟩⟩
  · rintro ⟨y, hy, h⟩
    obtain ⟨a, h1, h2, h3, h4⟩ := mem_stepL.1 h
    rw [List.mem_singleton] at h3
    exact ⟨a, h1, h2, by rw [h3]; exact hy, h4⟩
section
variable {p : Plt} {free : List Int}
theorem next_mem (hm : p.m.May) {S : List Int} {e x : Int} : x ∈ nextP p S e ↔ Clos (unE p.m p.seen) (stepL p.m S e) x := mem_wideL hm (stepL_range hm S e)
theorem next_one (hm : p.m.May) {S : List Int} {e x : Int} : x ∈ nextP p S e ↔ ∃ y ∈ S, x ∈ nextP p [y] e := by
  rw [next_mem hm, clos_one]
  constructor
  · rintro ⟨z, h1, h2⟩
    obtain ⟨y, h3, h4⟩ := step_one.1 h1
    exact ⟨y, h3, (next_mem hm).2 (clos_one.2 ⟨z, h4, h2⟩)⟩
  · rintro ⟨y, h1, h2⟩
    obtain ⟨z, h3, h4⟩ := clos_one.1 ((next_mem hm).1 h2)
    exact ⟨z, step_one.2 ⟨y, h1, h3⟩, h4⟩
theorem fold_one (hm : p.m.May) : ∀ (u S : List Int) {x : Int}, x ∈ u.foldl (nextP p) S ↔ ∃ y ∈ S, x ∈ u.foldl (nextP p) [y]
  | [], S, x => by simp
  | e :: u, S, x => by
    rw [List.foldl_cons, fold_one hm u]
    constructor
    · rintro ⟨z, h1, h2⟩
      obtain ⟨y, h3, h4⟩ := (next_one hm).1 h1
      exact ⟨y, h3, by rw [List.foldl_cons, fold_one hm u]; exact ⟨z, h4, h2⟩⟩
    · rintro ⟨y, h1, h2⟩
      rw [List.foldl_cons, fold_one hm u] at h2
      obtain ⟨z, h3, h4⟩ := h2
      exact ⟨z, (next_one hm).2 ⟨y, h1, h3⟩, h4⟩
theorem fold_mono (hm : p.m.May) {u S S' : List Int} (h : ∀ x ∈ S, x ∈ S') : ∀ x ∈ u.foldl (nextP p) S, x ∈ u.foldl (nextP p) S' := fun x hx => by
  obtain ⟨y, h1, h2⟩ := (fold_one hm u S).1 hx
  exact (fold_one hm u S').2 ⟨y, h y h1, h2⟩
/-- What is joined out of what can be kept can be kept. -/
theorem Kp.join (hm : p.m.May) {S : List Int} (h : ∀ x ∈ S, ∃ T, x ∈ T ∧ (∀ y ∈ T, y ∈ S) ∧ Kp p free T) : Kp p free S := by
  intro u hu ht
  obtain ⟨hne, hin⟩ := ht
  obtain ⟨x, hx⟩ := List.exists_mem_of_ne_nil _ hne
  obtain ⟨y, h1, h2⟩ := (fold_one hm u S).1 hx
  obtain ⟨T, h3, h4, h5⟩ := h y h1
  refine h5 u hu ⟨fun e => ?_, fun z hz => hin z (fold_mono hm h4 z hz)⟩
  have : x ∈ u.foldl (nextP p) T := (fold_one hm u T).2 ⟨y, h3, h2⟩
  rw [e] at this; simp at this
theorem wide_mono (hm : p.m.May) {s t : List Int} (hs : ∀ x ∈ s, 0 ≤ x ∧ x < p.m.states) (ht : ∀ x ∈ t, 0 ≤ x ∧ x < p.m.states) (h : ∀ x ∈ s, x ∈ t) : ∀ x ∈ wideL p.m p.seen s, x ∈ wideL p.m p.seen t := fun _ hx =>
  (mem_wideL hm ht).2 (Clos.mono h ((mem_wideL hm hs).1 hx))
theorem mostL_mem {to : List Int} {x : Int} : x ∈ mostL p free to ↔ (0 ≤ x ∧ x < 256) ∧ ∃ t, Strict t ∧ (∀ y ∈ t, y ∈ to) ∧ x ∈ t ∧ Kp p free (wideL p.m p.seen t) := mem_pick
theorem most_kept (hm : p.m.May) {to : List Int} (hto : ∀ x ∈ to, 0 ≤ x ∧ x < p.m.states) : Kp p free (wideL p.m p.seen (mostL p free to)) := by
  have hst : p.m.states ≤ 256 := hm.2.1
  have hM : ∀ x ∈ mostL p free to, 0 ≤ x ∧ x < p.m.states := fun x hx => by
    obtain ⟨_, t, _, h2, h3, _⟩ := mostL_mem.1 hx
    exact hto x (h2 x h3)
  refine Kp.join hm fun x hx => ?_
  obtain ⟨y, h1, h2⟩ := clos_one.1 ((mem_wideL hm hM).1 hx)
  obtain ⟨_, t, g1, g2, g3, g4⟩ := mostL_mem.1 h1
  have ht : ∀ x ∈ t, 0 ≤ x ∧ x < p.m.states := fun x hx => hto x (g2 x hx)
  refine ⟨wideL p.m p.seen t, (mem_wideL hm ht).2 (clos_one.2 ⟨y, g3, h2⟩), wide_mono hm ht hM fun z hz => ?_, g4⟩
  exact mostL_mem.2 ⟨by have := ht z hz; omega, t, g1, g2, hz, g4⟩
theorem to_kept (hm : p.m.May) {N : List Int} (hN : Kp p free N) {e : Int} (he : e ∈ p.seen) : Kp p free (wideL p.m p.seen (toL p free N e)) := by
  unfold toL
  split
  · exact most_kept hm (stepL_range hm N e)
  · rename_i hf
    exact hN.next (ufE_mem.2 ⟨he, hf⟩)
theorem wide_closed (hm : p.m.May) {s : List Int} (hs : ∀ x ∈ s, 0 ≤ x ∧ x < p.m.states) : UnClosed p.m p.seen (wideL p.m p.seen s) := fun a ha hne hf =>
  (mem_wideL hm hs).2 (Clos.step (a.frm, a.to_) (mem_eds.2 ⟨a, ha, by simp [unA, hne], rfl⟩) ((mem_wideL hm hs).1 hf))
/-- What holds of the nodes and the moves. -/
structure VKept (p : Plt) (free : List Int) (st : VS) : Prop where
  node : ∀ N ∈ st.nodes, Kp p free N ∧ UnClosed p.m p.seen N
  move : ∀ mv ∈ st.moves, ∃ N, st.nodes[mv.node]? = some N ∧ mv.evt ∈ p.seen ∧ mv.stay = stayL p.m (toL p free N mv.evt) N mv.evt ∧ st.nodes[mv.to_]? = some (wideL p.m p.seen (toL p free N mv.evt))
theorem VKept.step (hm : p.m.May) {st : VS} (h : VKept p free st) (k : Nat) {e : Int} (he : e ∈ p.seen) : VKept p free (vE p free k st e) := by
  rcases Nat.lt_or_ge k st.nodes.length with hk | hk
  · have hpre := vE_pre (p := p) (free := free) k st e
    have hN : st.nodes[k]? = some (st.nodes.getD k []) := by rw [List.getD_eq_getElem?_getD, List.getElem?_eq_getElem hk]; rfl
    have hNm := List.mem_of_getElem? hN
    unfold vE at hpre ⊢
    generalize st.nodes.getD k [] = N at *
    split
    · exact h
    · rename_i hne
      rw [if_neg hne] at hpre
      dsimp only at hpre
      generalize hx : wideL p.m p.seen (toL p free N e) = x at *
      have hkx : Kp p free x ∧ UnClosed p.m p.seen x := by
        rw [← hx]
        exact ⟨to_kept hm (h.node N hNm).1 he, wide_closed hm (row_range (toL_row hm free N e))⟩
      have up : ∀ i y, st.nodes[i]? = some y → (if x ∈ st.nodes then st.nodes else st.nodes ++ [x])[i]? = some y := fun i y hy => by
        rw [prefix_getElem? hpre (List.getElem?_eq_some_iff.1 hy).1]; exact hy
      refine ⟨fun M hM => ?_, fun mv hmv => ?_⟩
      · dsimp only at hM
        split at hM
        · exact h.node M hM
        · rcases List.mem_append.1 hM with hM | hM
          · exact h.node M hM
          · rw [List.mem_singleton.1 hM]; exact hkx
      · dsimp only at hmv ⊢
        rcases List.mem_append.1 hmv with hmv | hmv
        · obtain ⟨M, g1, g2, g3, g4⟩ := h.move mv hmv
          exact ⟨M, up _ _ g1, g2, g3, up _ _ g4⟩
        · rw [List.mem_singleton.1 hmv]
          dsimp only
          refine ⟨N, up _ _ hN, he, rfl, ?_⟩
          rw [hx]
          by_cases c : x ∈ st.nodes
          · rw [if_pos c]; exact (ixL_lt c).2
          · rw [if_neg c, ixL_none c, List.getElem?_append_right (Nat.le_refl _), Nat.sub_self]; rfl
  · rw [vE_stop hk]; exact h
theorem VKept.fold (hm : p.m.May) (k : Nat) : ∀ (es : List Int) {st : VS}, (∀ e ∈ es, e ∈ p.seen) → VKept p free st → VKept p free (es.foldl (vE p free k) st)
  | [], _, _, h => h
  | e :: es, st, he, h => VKept.fold hm k es (fun x hx => he x (by simp [hx])) (h.step hm k (he e (by simp)))
theorem vIter_kept (hm : p.m.May) (hf : Kp p free (firstP p)) : ∀ k, VKept p free (vIter p free k)
  | 0 => ⟨fun N hN => by
      have : N = firstP p := by simpa [vIter] using hN
      rw [this]
      exact ⟨hf, wide_closed hm (row_range (may_starts hm))⟩, fun mv hmv => by simp [vIter] at hmv⟩
  | k + 1 => VKept.fold hm k p.seen (fun _ h => h) (vIter_kept hm hf k)
theorem vE_moves (k : Nat) (st : VS) (e : Int) : st.moves <+: (vE p free k st e).moves := by
  unfold vE
  split
  · exact List.prefix_refl _
  · exact List.prefix_append _ _
theorem vFold_pre (k : Nat) : ∀ (es : List Int) (st : VS), st.moves <+: (es.foldl (vE p free k) st).moves ∧ st.nodes <+: (es.foldl (vE p free k) st).nodes
  | [], _ => ⟨List.prefix_refl _, List.prefix_refl _⟩
  | e :: es, st => ⟨(vE_moves k st e).trans (vFold_pre k es _).1, (vE_pre k st e).trans (vFold_pre k es _).2⟩
/-- Of a node that was gone through, each event that is let be anywhere has its move. -/
def VFull (p : Plt) (free : List Int) (st : VS) (n : Nat) (e : Int) : Prop := ∀ N, st.nodes[n]? = some N → stayL p.m (toL p free N e) N e ≠ [] → ∃ mv ∈ st.moves, mv.node = n ∧ mv.evt = e
theorem VFull.up {st st' : VS} {n : Nat} {e : Int} (h : VFull p free st n e) (hn : n < st.nodes.length) (h1 : st.nodes <+: st'.nodes) (h2 : st.moves <+: st'.moves) : VFull p free st' n e := fun N hN hs => by
  rw [prefix_getElem? h1 hn] at hN
  obtain ⟨mv, g1, g2⟩ := h N hN hs
  exact ⟨mv, h2.subset g1, g2⟩
theorem vFold_full (k : Nat) : ∀ (es : List Int) (st : VS), k < st.nodes.length → ∀ e ∈ es, VFull p free (es.foldl (vE p free k) st) k e
  | [], _, _, e, he => by simp at he
  | e :: es, st, hk, f, hf => by
    have hk1 : k < (vE p free k st e).nodes.length := Nat.lt_of_lt_of_le hk (vE_pre k st e).length_le
    have hp := vFold_pre (p := p) (free := free) k es (vE p free k st e)
    rcases List.mem_cons.1 hf with rfl | hf
    · refine VFull.up (st := vE p free k st f) (fun N hN hs => ?_) hk1 hp.2 hp.1
      rw [prefix_getElem? (vE_pre k st f) hk] at hN
      have hNN : st.nodes.getD k [] = N := by rw [List.getD_eq_getElem?_getD, hN]; rfl
      unfold vE
      rw [hNN, if_neg hs]
      exact ⟨⟨k, f, stayL p.m (toL p free N f) N f, ixL (wideL p.m p.seen (toL p free N f)) st.nodes⟩, List.mem_append_right _ (List.mem_singleton.2 rfl), rfl, rfl⟩
    · exact vFold_full k es _ hk1 f hf
theorem vIter_pre {j k : Nat} (h : j ≤ k) : (vIter p free j).moves <+: (vIter p free k).moves ∧ (vIter p free j).nodes <+: (vIter p free k).nodes := by
  induction k with
  | zero => rw [show j = 0 by omega]; exact ⟨List.prefix_refl _, List.prefix_refl _⟩
  | succ k ih =>
    rcases Nat.lt_or_ge k j with c | c
    · rw [show j = k + 1 by omega]; exact ⟨List.prefix_refl _, List.prefix_refl _⟩
    · have h1 := ih c
      have h2 := vFold_pre (p := p) (free := free) k p.seen (vIter p free k)
      exact ⟨h1.1.trans h2.1, h1.2.trans h2.2⟩
theorem vIter_full {n k : Nat} (h : n < k) (hn : n < (vIter p free k).nodes.length) {e : Int} (he : e ∈ p.seen) : VFull p free (vIter p free k) n e := by
  have hp := vIter_pre (p := p) (free := free) (show n + 1 ≤ k from h)
  rcases Nat.lt_or_ge n (vIter p free n).nodes.length with c | c
  · have h1 := vFold_full (p := p) (free := free) n p.seen (vIter p free n) c e he
    have hl : n < (vIter p free (n + 1)).nodes.length := Nat.lt_of_lt_of_le c (vIter_pre (p := p) (free := free) (Nat.le_succ n)).2.length_le
    exact VFull.up (st := vIter p free (n + 1)) h1 hl hp.2 hp.1
  · rw [vIter_stop c k (by omega)] at hn; omega
end
def mvFind (ms : List Mv) (n : Nat) (e : Int) : Option Mv := ms.find? fun a => decide (a.node = n) && decide (a.evt = e)
theorem mvFind_some {ms : List Mv} {n : Nat} {e : Int} {mv : Mv} (h : mvFind ms n e = some mv) : mv ∈ ms ∧ mv.node = n ∧ mv.evt = e := by
  have h1 := List.mem_of_find?_eq_some h
  have h2 := List.find?_some h
  simp only [Bool.and_eq_true, decide_eq_true_eq] at h2
  exact ⟨h1, h2⟩
theorem mvFind_none {ms : List Mv} {n : Nat} {e : Int} (h : mvFind ms n e = none) {mv : Mv} (hm : mv ∈ ms) : ¬ (mv.node = n ∧ mv.evt = e) := fun hh => by
  have := List.find?_eq_none.1 h mv hm
  simp [hh.1, hh.2] at this
section
variable {p : Plt} {free : List Int}
theorem arr_step {m : Mach} {s e t : Int} (h : t ∈ stepL m [s] e) : ∃ a ∈ m.arrows, a.frm = s ∧ a.evt = e ∧ a.to_ = t := by
  obtain ⟨a, h1, h2, h3, h4⟩ := mem_stepL.1 h
  exact ⟨a, h1, List.mem_singleton.1 h3, h2, h4⟩
end
end Go.Proofs.YtcjedgiglimipaaDoor

/-
  Chapter 15, in plain Lean: another way to forbid; the veil lets all be that it lets be. No program in sight.
-/
namespace Go.Proofs.YtcjedgiglimipaaDoor
set_option linter.unusedSimpArgs false
set_option linter.unusedVariables false
set_option linter.unusedSectionVars false
open Go.RowKit

abbrev Plc := Int × List Int
def onP (p : Plt) (o : Mach) (x : Plc) (e : Int) : Option Plc := match stepL p.m [x.1] e with
  | [s] => if stepL o x.2 e = [] then none else some (s, stepL o x.2 e)
  | _ => none
theorem onP_some {p : Plt} {o : Mach} {x y : Plc} {e : Int} : onP p o x e = some y ↔ stepL p.m [x.1] e = [y.1] ∧ stepL o x.2 e ≠ [] ∧ y.2 = stepL o x.2 e := by
  unfold onP
  split
  · rename_i s hs
    rw [hs]
    by_cases c : stepL o x.2 e = []
    · rw [if_pos c]
      exact ⟨fun h => by (cases h), fun h => absurd c h.2.1⟩
    · rw [if_neg c]
      constructor
      · intro h
        injection h with h
        subst h
        exact ⟨rfl, c, rfl⟩
      · rintro ⟨h1, _, h3⟩
        injection h1 with h1
        rw [h1, ← h3]
  · rename_i hn
    exact ⟨fun h => by (cases h), fun h => absurd h.1 (hn _)⟩
/-- What unseen events lead to. -/
inductive OR (p : Plt) (o : Mach) (l0 : List Plc) : Plc → Prop
  | base (x : Plc) (h : x ∈ l0) : OR p o l0 x
  | step (x : Plc) (e : Int) (y : Plc) (h : OR p o l0 x) (he : e ∉ p.seen) (h0 : 0 ≤ e) (h1 : e < p.m.events) (hy : onP p o x e = some y) : OR p o l0 y
def onsL (p : Plt) (o : Mach) (l : List Plc) (e : Int) : List Plc := l.filterMap fun x => onP p o x e
theorem onsL_mem {p : Plt} {o : Mach} {l : List Plc} {e : Int} {y : Plc} : y ∈ onsL p o l e ↔ ∃ x ∈ l, onP p o x e = some y := List.mem_filterMap
structure SetsOk (p : Plt) (o : Mach) (S : List (List Plc)) : Prop where
  wide : ∀ l ∈ S, ∃ l0, (∀ x ∈ l0, 0 ≤ x.1 ∧ x.1 < p.m.states) ∧ ∀ y, y ∈ l ↔ OR p o l0 y
  first : ∀ s, p.m.starts = [s] → ∃ l ∈ S, ∀ y, y ∈ l ↔ OR p o [(s, o.starts)] y
  next : ∀ l ∈ S, ∀ e ∈ p.seen, ∃ l' ∈ S, ∀ y, y ∈ l' ↔ OR p o (onsL p o l e) y
def HoldsL (p : Plt) (free : List Int) (o : Mach) (l : List Plc) : Prop :=
  (∀ x ∈ l, ∀ e : Int, 0 ≤ e → e < p.m.events → (stepL p.m [x.1] e).length = 1 → onP p o x e = none → e ∈ free) ∧ ((∃ x ∈ l, x.1 ∉ p.secret) ∨ l = [])
def KeepsL (p : Plt) (free : List Int) (o : Mach) : Prop := ∃ S, SetsOk p o S ∧ ∀ l ∈ S, HoldsL p free o l
/-- The plant's states of places. -/
noncomputable def piL (l : List Plc) : List Int := pick fun s => ∃ x ∈ l, x.1 = s
section
variable {p : Plt} {free : List Int} {o : Mach}
theorem OR.range (hm : p.m.May) {l0 : List Plc} (h0 : ∀ x ∈ l0, 0 ≤ x.1 ∧ x.1 < p.m.states) {x : Plc} (h : OR p o l0 x) : 0 ≤ x.1 ∧ x.1 < p.m.states := by
  induction h with
  | base x h => exact h0 x h
  | step x e y _ _ _ _ hy _ =>
    have := (onP_some.1 hy).1
    exact stepL_range hm [x.1] e y.1 (by rw [this]; simp)
theorem piL_mem (hm : p.m.May) {l : List Plc} (h0 : ∀ x ∈ l, 0 ≤ x.1 ∧ x.1 < p.m.states) {s : Int} : s ∈ piL l ↔ ∃ x ∈ l, x.1 = s := by
  unfold piL
  rw [mem_pick]
  refine ⟨fun h => h.2, fun h => ⟨?_, h⟩⟩
  obtain ⟨x, h1, h2⟩ := h
  have := h0 x h1
  have : p.m.states ≤ 256 := hm.2.1
  omega
theorem piL_range (hm : p.m.May) {l : List Plc} (h0 : ∀ x ∈ l, 0 ≤ x.1 ∧ x.1 < p.m.states) : ∀ s ∈ piL l, 0 ≤ s ∧ s < p.m.states := fun s hs => by
  obtain ⟨x, h1, rfl⟩ := (piL_mem hm h0).1 hs
  exact h0 x h1
theorem plain_step (hm : p.m.May) (hp : PlainM p.m) {a : Arr} (ha : a ∈ p.m.arrows) : stepL p.m [a.frm] a.evt = [a.to_] := by
  obtain ⟨⟨a1, a2⟩, _, a5, a6⟩ := May.arr hm ha
  have hl := hp.2 _ _ a1 a2 a5 a6
  have ma : a.to_ ∈ stepL p.m [a.frm] a.evt := mem_stepL.2 ⟨a, ha, rfl, by simp, rfl⟩
  generalize stepL p.m [a.frm] a.evt = l at *
  match l, hl with
  | [], _ => simp at ma
  | [x], _ => rw [List.mem_singleton.1 ma]
theorem on_of_holds {l : List Plc} (hh : HoldsL p free o l) {x : Plc} (hx : x ∈ l) {e t : Int} (h0 : 0 ≤ e) (h1 : e < p.m.events) (hs : stepL p.m [x.1] e = [t]) (he : e ∉ free) : ∃ y, onP p o x e = some y ∧ y.1 = t := by
  cases hon : onP p o x e with
  | none => exact absurd (hh.1 x hx e h0 h1 (by rw [hs]; rfl) hon) he
  | some y =>
    refine ⟨y, rfl, ?_⟩
    have := (onP_some.1 hon).1
    rw [hs] at this
    injection this with this
    exact this.symm
/-- The states of what unseen events lead to. -/
theorem pi_wide (hm : p.m.May) (hp : PlainM p.m) (hfs : ∀ e ∈ free, e ∈ p.seen) {l0 l : List Plc} (h0 : ∀ x ∈ l0, 0 ≤ x.1 ∧ x.1 < p.m.states) (hl : ∀ y, y ∈ l ↔ OR p o l0 y) (hh : HoldsL p free o l) : piL l = wideL p.m p.seen (piL l0) := by
  have hlr : ∀ x ∈ l, 0 ≤ x.1 ∧ x.1 < p.m.states := fun x hx => ((hl x).1 hx).range hm h0
  refine (pick_strict _).ext (wideL_strict _ _ _) fun s => ?_
  rw [mem_wideL hm (piL_range hm h0)]
  show s ∈ piL l ↔ _
  rw [piL_mem hm hlr]
  constructor
  · rintro ⟨x, hx, rfl⟩
    replace hx := (hl x).1 hx
    induction hx with
    | base x h => exact .base _ ((piL_mem hm h0).2 ⟨x, h, rfl⟩)
    | step x e y _ he _ _ hy ih =>
      have h1 := (onP_some.1 hy).1
      obtain ⟨a, b1, b2, b3, b4⟩ := arr_step (m := p.m) (s := x.1) (e := e) (t := y.1) (by rw [h1]; simp)
      rw [← b4]
      exact Clos.step (a.frm, a.to_) (mem_eds.2 ⟨a, b1, by simp [unA, b3, he], rfl⟩) (by rw [b2]; exact ih)
  · intro h
    induction h with
    | base s h =>
      obtain ⟨x, h1, h2⟩ := (piL_mem hm h0).1 h
      exact ⟨x, (hl x).2 (.base x h1), h2⟩
    | step q hq _ ih =>
      obtain ⟨a, ha, hu, rfl⟩ := mem_eds.1 hq
      obtain ⟨x, hx, hxs⟩ := ih
      have hxs : x.1 = a.frm := hxs
      have hne : a.evt ∉ p.seen := by simpa [unA] using hu
      have har := May.arr hm ha
      have hst := plain_step hm hp ha
      rw [← hxs] at hst
      obtain ⟨y, hy, hy1⟩ := on_of_holds hh hx har.2.2.1 har.2.2.2 hst fun hf => hne (hfs _ hf)
      exact ⟨y, (hl y).2 (.step x a.evt y ((hl x).1 hx) hne har.2.2.1 har.2.2.2 hy), hy1⟩
theorem ons_range (hm : p.m.May) {l : List Plc} {e : Int} : ∀ x ∈ onsL p o l e, 0 ≤ x.1 ∧ x.1 < p.m.states := fun y hy => by
  obtain ⟨x, _, h⟩ := onsL_mem.1 hy
  exact stepL_range hm [x.1] e y.1 (by rw [(onP_some.1 h).1]; simp)
theorem pi_next (hm : p.m.May) (hp : PlainM p.m) (hfs : ∀ e ∈ free, e ∈ p.seen) {l l' : List Plc} (hlr : ∀ x ∈ l, 0 ≤ x.1 ∧ x.1 < p.m.states) (hh : HoldsL p free o l) {e : Int} (he : e ∉ free) (hl' : ∀ y, y ∈ l' ↔ OR p o (onsL p o l e) y) (hh' : HoldsL p free o l') : piL l' = nextP p (piL l) e := by
  rw [pi_wide hm hp hfs (ons_range hm) hl' hh']
  show _ = wideL p.m p.seen (stepL p.m (piL l) e)
  congr 1
  refine (pick_strict _).ext (stepL_row hm _ _).strict fun t => ?_
  show t ∈ piL (onsL p o l e) ↔ _
  rw [piL_mem hm (ons_range hm), step_one]
  constructor
  · rintro ⟨y, hy, rfl⟩
    obtain ⟨x, hx, hxy⟩ := onsL_mem.1 hy
    exact ⟨x.1, (piL_mem hm hlr).2 ⟨x, hx, rfl⟩, by rw [(onP_some.1 hxy).1]; simp⟩
  · rintro ⟨s, hs, ht⟩
    obtain ⟨x, hx, rfl⟩ := (piL_mem hm hlr).1 hs
    obtain ⟨a, b1, b2, b3, b4⟩ := arr_step ht
    obtain ⟨_, _, a5, a6⟩ := May.arr hm b1
    have hst := plain_step hm hp b1
    rw [b2, b3, b4] at hst
    rw [b3] at a5 a6
    obtain ⟨y, hy, hy1⟩ := on_of_holds hh hx a5 a6 hst he
    exact ⟨y, onsL_mem.2 ⟨x, hx, hy⟩, hy1⟩
/-- Of the sets of places: the ranges, and that their states can be kept. -/
theorem sets_kept (hm : p.m.May) (hp : PlainM p.m) (hfs : ∀ e ∈ free, e ∈ p.seen) {S : List (List Plc)} (hS : SetsOk p o S) (hr : ∀ l ∈ S, ∀ x ∈ l, 0 ≤ x.1 ∧ x.1 < p.m.states) (hh : ∀ l ∈ S, HoldsL p free o l) : ∀ l ∈ S, Kp p free (piL l) := fun l hl => by
  refine Kp.of (G := fun s => ∃ l ∈ S, s = piL l) ?_ ?_ ⟨l, hl, rfl⟩
  · rintro _ ⟨l, hl, rfl⟩ ⟨hne, hin⟩
    rcases (hh l hl).2 with ⟨x, hx, hns⟩ | rfl
    · exact hns (hin _ ((piL_mem hm (hr l hl)).2 ⟨x, hx, rfl⟩))
    · refine hne ?_
      obtain ⟨s, hs⟩ := List.exists_mem_of_ne_nil _ hne
      obtain ⟨x, hx, _⟩ := (piL_mem hm (hr [] hl)).1 hs
      simp at hx
  · rintro _ ⟨l, hl, rfl⟩ e he
    obtain ⟨h1, h2⟩ := ufE_mem.1 he
    obtain ⟨l', hl', hy⟩ := hS.next l hl e h1
    exact ⟨l', hl', (pi_next hm hp hfs (hr l hl) (hh l hl) h2 hy (hh l' hl')).symm⟩
/-- Where the veil is when the other way lets a word be. -/
def Cov (p : Plt) (S : List (List Plc)) (V : VS) (x : Plc) (n : Nat) : Prop := ∃ l ∈ S, x ∈ l ∧ ∃ N, V.nodes[n]? = some N ∧ ∀ y ∈ l, y.1 ∈ N
structure CovOk (p : Plt) (o : Mach) (C : Plc → Nat → Prop) (V : VS) : Prop where
  first : ∀ s, p.m.starts = [s] → C (s, o.starts) 0
  stay : ∀ x n, C x n → ∀ e : Int, 0 ≤ e → e < p.m.events → e ∉ p.seen → ∀ y, onP p o x e = some y → C y n
  move : ∀ x n, C x n → ∀ e ∈ p.seen, ∀ y, onP p o x e = some y → ∃ mv, mvFind V.moves n e = some mv ∧ x.1 ∈ mv.stay ∧ mv.to_ < V.nodes.length ∧ C y mv.to_
theorem SetsOk.range (hm : p.m.May) {S : List (List Plc)} (hS : SetsOk p o S) : ∀ l ∈ S, ∀ x ∈ l, 0 ≤ x.1 ∧ x.1 < p.m.states := fun l hl x hx => by
  obtain ⟨l0, h0, h1⟩ := hS.wide l hl
  exact ((h1 x).1 hx).range hm h0
theorem SetsOk.closed {S : List (List Plc)} (hS : SetsOk p o S) {l : List Plc} (hl : l ∈ S) {x : Plc} (hx : x ∈ l) {e : Int} (he : e ∉ p.seen) (h0 : 0 ≤ e) (h1 : e < p.m.events) {y : Plc} (hy : onP p o x e = some y) : y ∈ l := by
  obtain ⟨l0, _, h⟩ := hS.wide l hl
  exact (h y).2 (.step x e y ((h x).1 hx) he h0 h1 hy)
theorem cov_all (hm : p.m.May) (hp : PlainM p.m) (hfs : ∀ e ∈ free, e ∈ p.seen) {s0 : Int} (hst : p.m.starts = [s0]) (hK : KeepsL p free o) : (Kp p free (firstP p) ∧ firstP p ≠ []) ∧ ∀ k, (vIter p free k).nodes.length = k → ∃ C, CovOk p o C (vIter p free k) := by
  obtain ⟨S, hS, hh⟩ := hK
  have hr := hS.range hm
  have hk := sets_kept hm hp hfs hS hr hh
  obtain ⟨l0, hl0, hl0m⟩ := hS.first s0 hst
  have h0r : ∀ x ∈ [(s0, o.starts)], 0 ≤ x.1 ∧ x.1 < p.m.states := fun z hz => by
    rw [List.mem_singleton.1 hz]
    exact row_range (may_starts hm) s0 (by rw [hst]; simp)
  have e0 : piL l0 = firstP p := by
    rw [pi_wide hm hp hfs h0r hl0m (hh l0 hl0)]
    show _ = wideL p.m p.seen p.m.starts
    congr 1
    refine (pick_strict _).ext (may_starts hm).strict fun t => ?_
    show t ∈ piL [(s0, o.starts)] ↔ _
    rw [piL_mem hm h0r, hst]
    simp [eq_comm]
  have hF : Kp p free (firstP p) := e0 ▸ hk l0 hl0
  refine ⟨⟨hF, fun hn => ?_⟩, fun k hkl => ⟨Cov p S (vIter p free k), ?_, ?_, ?_⟩⟩
  · have : s0 ∈ firstP p := (mem_wideL hm (row_range (may_starts hm))).2 (.base _ (by rw [hst]; simp))
    rw [hn] at this; simp at this
  · intro s hs
    have : s = s0 := by rw [hst] at hs; injection hs with hs; exact hs.symm
    subst this
    refine ⟨l0, hl0, (hl0m _).2 (.base _ (by simp)), firstP p, ?_, fun y hy => ?_⟩
    · rw [prefix_getElem? (vIter_pre (p := p) (free := free) (Nat.zero_le k)).2 (by simp [vIter])]
      simp [vIter]
    · rw [← e0]; exact (piL_mem hm (hr l0 hl0)).2 ⟨y, hy, rfl⟩
  · rintro x n ⟨l, hl, hx, N, hN, hin⟩ e h0 h1 he y hy
    exact ⟨l, hl, hS.closed hl hx he h0 h1 hy, N, hN, hin⟩
  · rintro x n ⟨l, hl, hx, N, hN, hin⟩ e he y hy
    have hV := vIter_kept (free := free) hm hF k
    have hfull := vIter_full (p := p) (free := free) (n := n) (k := k) (by have := (List.getElem?_eq_some_iff.1 hN).1; omega) (List.getElem?_eq_some_iff.1 hN).1 he N hN
    generalize vIter p free k = V at *
    obtain ⟨l', hl', hy'⟩ := hS.next l hl e he
    have hor := ons_range (o := o) (l := l) (e := e) hm
    have hyo : y ∈ onsL p o l e := onsL_mem.2 ⟨x, hx, hy⟩
    have hw := pi_wide hm hp hfs hor hy' (hh l' hl')
    have hsub : ∀ t ∈ piL (onsL p o l e), t ∈ toL p free N e := fun t ht => by
      obtain ⟨z, hz, rfl⟩ := (piL_mem hm hor).1 ht
      have hst1 : ∀ z ∈ onsL p o l e, z.1 ∈ stepL p.m N e := fun z hz => by
        obtain ⟨x', hx', hxz⟩ := onsL_mem.1 hz
        exact step_one.2 ⟨x'.1, hin x' hx', by rw [(onP_some.1 hxz).1]; simp⟩
      unfold toL
      split
      · refine mostL_mem.2 ⟨by have := hor z hz; have : p.m.states ≤ 256 := hm.2.1; omega, piL (onsL p o l e), pick_strict _, fun t ht => ?_, ht, ?_⟩
        · obtain ⟨z', hz', rfl⟩ := (piL_mem hm hor).1 ht
          exact hst1 z' hz'
        · rw [← hw]; exact hk l' hl'
      · exact hst1 z hz
    have hyt : y.1 ∈ toL p free N e := hsub _ ((piL_mem hm hor).2 ⟨y, hyo, rfl⟩)
    have hxs : x.1 ∈ stayL p.m (toL p free N e) N e := stayL_mem.2 ⟨hin x hx, y.1, hyt, (onP_some.1 hy).1⟩
    obtain ⟨mv0, m1, m2⟩ := hfull (fun hn => by rw [hn] at hxs; simp at hxs)
    cases hmv : mvFind V.moves n e with
    | none => exact absurd m2 (mvFind_none hmv m1)
    | some mv =>
      obtain ⟨g1, g2, g3⟩ := mvFind_some hmv
      obtain ⟨N', k1, k2, k3, k4⟩ := hV.move mv g1
      rw [g2, hN] at k1
      injection k1 with k1
      subst k1
      rw [g3] at k3 k4
      refine ⟨mv, rfl, by rw [k3]; exact hxs, (List.getElem?_eq_some_iff.1 k4).1, l', hl', (hy' y).2 (.base y hyo), _, k4, fun z hz => ?_⟩
      have hzp : z.1 ∈ piL l' := (piL_mem hm (hr l' hl')).2 ⟨z, hz, rfl⟩
      rw [hw] at hzp
      exact wide_mono hm (piL_range hm hor) (row_range (toL_row hm free N e)) hsub _ hzp
def evL (n : Nat) : List Int := (List.range n).map fun (i : Nat) => (i : Int)
theorem evL_succ (n : Nat) : evL (n + 1) = evL n ++ [(n : Int)] := by unfold evL; rw [List.range_succ, List.map_append]; rfl
def putO (l : List Plc) (y : Option Plc) : List Plc := match y with
  | some y => if y ∈ l then l else l ++ [y]
  | none => l
def oAdd (p : Plt) (o : Mach) (x : Plc) (l : List Plc) (e : Int) : List Plc := if e ∈ p.seen then l else putO l (onP p o x e)
def oPart (p : Plt) (o : Mach) (x : Plc) (l : List Plc) (i : Nat) : List Plc := (evL i).foldl (oAdd p o x) l
def oIter (p : Plt) (o : Mach) (l0 : List Plc) : Nat → List Plc
  | 0 => l0
  | k + 1 => match (oIter p o l0 k)[k]? with
    | some x => oPart p o x (oIter p o l0 k) p.m.events.toNat
    | none => oIter p o l0 k
theorem oPart_zero (x : Plc) (l : List Plc) : oPart p o x l 0 = l := rfl
theorem oPart_succ (x : Plc) (l : List Plc) (i : Nat) : oPart p o x l (i + 1) = oAdd p o x (oPart p o x l i) (i : Int) := by unfold oPart; rw [evL_succ, List.foldl_append]; rfl
theorem oIter_succ {l0 : List Plc} {k : Nat} {x : Plc} (h : (oIter p o l0 k)[k]? = some x) : oIter p o l0 (k + 1) = oPart p o x (oIter p o l0 k) p.m.events.toNat := by
  simp only [oIter, h]
theorem oIter_none {l0 : List Plc} {k : Nat} (h : (oIter p o l0 k)[k]? = none) : oIter p o l0 (k + 1) = oIter p o l0 k := by simp only [oIter, h]
theorem putO_prefix (l : List Plc) (y : Option Plc) : l <+: putO l y := by
  unfold putO
  split
  · split
    · exact List.prefix_refl _
    · exact List.prefix_append _ _
  · exact List.prefix_refl _
theorem oAdd_prefix (x : Plc) (l : List Plc) (e : Int) : l <+: oAdd p o x l e := by
  unfold oAdd
  split
  · exact List.prefix_refl _
  · exact putO_prefix _ _
theorem oPart_prefix (x : Plc) (l : List Plc) : ∀ i, l <+: oPart p o x l i
  | 0 => List.prefix_refl _
  | i + 1 => by rw [oPart_succ]; exact (oPart_prefix x l i).trans (oAdd_prefix x _ _)
theorem putO_mem {l : List Plc} {y : Option Plc} {z : Plc} : z ∈ putO l y ↔ z ∈ l ∨ y = some z := by
  unfold putO
  split
  · rename_i y
    split
    · rename_i h
      exact ⟨.inl, fun hh => by
        rcases hh with hh | hh
        · exact hh
        · injection hh with hh; exact hh ▸ h⟩
    · rw [List.mem_append, List.mem_singleton]
      exact or_congr Iff.rfl ⟨fun h => by rw [h], fun h => by injection h with h; exact h.symm⟩
  · exact ⟨.inl, fun h => h.resolve_right (by simp)⟩
theorem oPart_mem (x : Plc) (l : List Plc) (z : Plc) : ∀ i, z ∈ oPart p o x l i ↔ z ∈ l ∨ ∃ j, j < i ∧ (j : Int) ∉ p.seen ∧ onP p o x (j : Int) = some z
  | 0 => by rw [oPart_zero]; exact ⟨.inl, fun h => h.resolve_right fun ⟨j, hj, _⟩ => absurd hj (by omega)⟩
  | i + 1 => by
    have ih := oPart_mem x l z i
    rw [oPart_succ]
    have hstep : z ∈ oAdd p o x (oPart p o x l i) (i : Int) ↔ z ∈ oPart p o x l i ∨ ((i : Int) ∉ p.seen ∧ onP p o x (i : Int) = some z) := by
      unfold oAdd
      split
      · rename_i h; exact ⟨.inl, fun hh => hh.resolve_right fun q => q.1 h⟩
      · rename_i h; rw [putO_mem]; exact or_congr Iff.rfl ⟨fun q => ⟨h, q⟩, fun q => q.2⟩
    rw [hstep, ih, or_assoc]
    refine or_congr Iff.rfl ⟨?_, ?_⟩
    · rintro (⟨j, h1, h2⟩ | h)
      · exact ⟨j, by omega, h2⟩
      · exact ⟨i, by omega, h⟩
    · rintro ⟨j, h1, h2⟩
      by_cases c : j = i
      · subst c; exact .inr h2
      · exact .inl ⟨j, by omega, h2⟩
theorem oIter_prefix (l0 : List Plc) (k : Nat) : oIter p o l0 k <+: oIter p o l0 (k + 1) := by
  cases h : (oIter p o l0 k)[k]? with
  | some x => rw [oIter_succ h]; exact oPart_prefix _ _ _
  | none =>
    have : oIter p o l0 (k + 1) = oIter p o l0 k := oIter_none h
    rw [this]; exact List.prefix_refl _
theorem oIter_prefix0 (l0 : List Plc) : ∀ k, l0 <+: oIter p o l0 k
  | 0 => List.prefix_refl _
  | k + 1 => (oIter_prefix0 l0 k).trans (oIter_prefix l0 k)
/-- Gone through to the end: it is what unseen events lead to. -/
theorem oIter_done (ev0 : 0 ≤ p.m.events) {l0 l : List Plc} (h : l = oIter p o l0 l.length) : ∀ y, y ∈ l ↔ OR p o l0 y := by
  have sound : ∀ k, ∀ y ∈ oIter p o l0 k, OR p o l0 y := by
    intro k
    induction k with
    | zero => exact fun y hy => .base y hy
    | succ k ih =>
      intro y hy
      cases hx : (oIter p o l0 k)[k]? with
      | none =>
        have : oIter p o l0 (k + 1) = oIter p o l0 k := oIter_none hx
        rw [this] at hy; exact ih y hy
      | some x =>
        rw [oIter_succ hx] at hy
        rcases (oPart_mem x _ y _).1 hy with hy | ⟨j, h1, h2, h3⟩
        · exact ih y hy
        · exact .step x j y (ih x (List.mem_of_getElem? hx)) h2 (by omega) (by omega) h3
  have closed : ∀ k j x, j < k → (oIter p o l0 k)[j]? = some x → ∀ e : Int, e ∉ p.seen → 0 ≤ e → e < p.m.events → ∀ y, onP p o x e = some y → y ∈ oIter p o l0 k := by
    intro k
    induction k with
    | zero => intro j x hj; omega
    | succ k ih =>
      intro j x hj hx e he h0 h1 y hy
      have hpre := oIter_prefix (p := p) (o := o) l0 k
      cases hkx : (oIter p o l0 k)[k]? with
      | none =>
        have e1 : oIter p o l0 (k + 1) = oIter p o l0 k := oIter_none hkx
        rw [e1] at hx ⊢
        by_cases c : j = k
        · subst c; rw [hkx] at hx; cases hx
        · exact ih j x (by omega) hx e he h0 h1 y hy
      | some x0 =>
        have hkl := (List.getElem?_eq_some_iff.1 hkx).1
        by_cases c : j = k
        · subst c
          rw [prefix_getElem? hpre hkl, hkx] at hx
          injection hx with hx
          subst hx
          rw [oIter_succ hkx]
          exact (oPart_mem _ _ _ _).2 (.inr ⟨e.toNat, by omega, by rw [show ((e.toNat : Nat) : Int) = e by omega]; exact he, by rw [show ((e.toNat : Nat) : Int) = e by omega]; exact hy⟩)
        · rw [prefix_getElem? hpre (by omega)] at hx
          exact hpre.subset (ih j x (by omega) hx e he h0 h1 y hy)
  intro y
  constructor
  · intro hy; rw [h] at hy; exact sound _ y hy
  · intro hy
    induction hy with
    | base y hy => rw [h]; exact (oIter_prefix0 l0 _).subset hy
    | step x e y _ he h0 h1 hxy ih =>
      obtain ⟨j, hj⟩ := List.mem_iff_getElem?.1 ih
      have hjl := (List.getElem?_eq_some_iff.1 hj).1
      have := closed l.length j x hjl (by rw [← h]; exact hj) e he h0 h1 y hxy
      rw [h]; exact this
def UPc (p : Plt) (o : Mach) (x : Plc) : Prop := (0 ≤ x.1 ∧ x.1 < p.m.states) ∧ IsRow x.2 o.states
structure GoodC (p : Plt) (o : Mach) (l : List Plc) : Prop where
  nodup : l.Nodup
  univ : ∀ x ∈ l, UPc p o x
theorem GoodC.len {l : List Plc} (h : GoodC p o l) (h6 : p.m.states ≤ 6) (o6 : o.states ≤ 6) : l.length ≤ 384 := by
  have := nodup_nat_len 384 (l.map fun x => x.1.toNat * 64 + codeR x.2) (by
    rw [List.nodup_iff_pairwise_ne, List.pairwise_map]
    refine (List.nodup_iff_pairwise_ne.1 h.nodup).imp_of_mem fun {x y} hx hy hxy e => hxy ?_
    have hx1 := h.univ x hx
    have hy1 := h.univ y hy
    have c1 := codeR_lt (hx1.2.more o6)
    have c2 := codeR_lt (hy1.2.more o6)
    have e1 : x.1.toNat = y.1.toNat := by omega
    have e2 : codeR x.2 = codeR y.2 := by omega
    exact Prod.ext (by have := hx1.1; have := hy1.1; omega) (codeR_inj (hx1.2.more o6) (hy1.2.more o6) e2)) fun n hn => by
    obtain ⟨x, hx, rfl⟩ := List.mem_map.1 hn
    have hx1 := h.univ x hx
    have := codeR_lt (hx1.2.more o6)
    have := hx1.1
    omega
  simpa using this
theorem GoodC.nil : GoodC p o [] := ⟨List.nodup_nil, fun x hx => absurd hx (by simp)⟩
theorem onP_univ (hm : p.m.May) (om : o.May) {x y : Plc} {e : Int} (h : onP p o x e = some y) : UPc p o y := by
  obtain ⟨h1, _, h3⟩ := onP_some.1 h
  refine ⟨stepL_range hm [x.1] e y.1 (by rw [h1]; simp), ?_⟩
  rw [h3]; exact stepL_row om _ _
theorem GoodC.put (hm : p.m.May) (om : o.May) {l : List Plc} (h : GoodC p o l) (x : Plc) (e : Int) : GoodC p o (putO l (onP p o x e)) := by
  unfold putO
  split
  · rename_i y hy
    split
    · exact h
    · rename_i hn
      refine ⟨?_, fun z hz => ?_⟩
      · rw [List.nodup_append]
        refine ⟨h.nodup, by simp, fun a ha b hb hab => ?_⟩
        rw [List.mem_singleton.1 hb] at hab
        exact hn (hab ▸ ha)
      · rcases List.mem_append.1 hz with hz | hz
        · exact h.univ z hz
        · rw [List.mem_singleton.1 hz]; exact onP_univ hm om hy
  · exact h
theorem GoodC.part (hm : p.m.May) (om : o.May) {l : List Plc} (h : GoodC p o l) (x : Plc) : ∀ i, GoodC p o (oPart p o x l i)
  | 0 => h
  | i + 1 => by
    rw [oPart_succ]
    unfold oAdd
    split
    · exact GoodC.part hm om h x i
    · exact (GoodC.part hm om h x i).put hm om x _
theorem GoodC.iter (hm : p.m.May) (om : o.May) {l0 : List Plc} (h : GoodC p o l0) : ∀ k, GoodC p o (oIter p o l0 k)
  | 0 => h
  | k + 1 => by
    have ih := GoodC.iter hm om h k
    cases hx : (oIter p o l0 k)[k]? with
    | none =>
      have : oIter p o l0 (k + 1) = oIter p o l0 k := oIter_none hx
      rw [this]; exact ih
    | some x => rw [oIter_succ hx]; exact ih.part hm om x _
/-- What an event leads to, as it is gone through. -/
def nUpto (p : Plt) (o : Mach) (l : List Plc) (e : Int) (n : Nat) : List Plc := (l.take n).foldl (fun out x => putO out (onP p o x e)) []
theorem nUpto_succ {l : List Plc} {e : Int} {n : Nat} {x : Plc} (h : l[n]? = some x) : nUpto p o l e (n + 1) = putO (nUpto p o l e n) (onP p o x e) := by
  unfold nUpto
  have hk := (List.getElem?_eq_some_iff.1 h).1
  rw [List.take_succ_eq_append_getElem hk, List.foldl_append]
  rw [List.getElem?_eq_getElem hk] at h
  rw [Option.some.inj h]; rfl
theorem nUpto_good (hm : p.m.May) (om : o.May) (l : List Plc) (e : Int) : ∀ n, GoodC p o (nUpto p o l e n) := fun n => by
  unfold nUpto
  have key : ∀ (t : List Plc) (out : List Plc), GoodC p o out → GoodC p o (t.foldl (fun out x => putO out (onP p o x e)) out) := by
    intro t
    induction t with
    | nil => exact fun _ h => h
    | cons x t ih => exact fun out h => ih _ (h.put hm om x e)
  exact key _ _ GoodC.nil
theorem nUpto_mem {l : List Plc} {e : Int} {y : Plc} : y ∈ nUpto p o l e l.length ↔ y ∈ onsL p o l e := by
  have key : ∀ (t : List Plc) (out : List Plc), y ∈ t.foldl (fun out x => putO out (onP p o x e)) out ↔ y ∈ out ∨ ∃ x ∈ t, onP p o x e = some y := by
    intro t
    induction t with
    | nil => intro out; simp
    | cons x t ih =>
      intro out
      rw [List.foldl_cons, ih, putO_mem, or_assoc]
      refine or_congr Iff.rfl ?_
      simp only [List.mem_cons, exists_eq_or_imp]
  unfold nUpto
  rw [List.take_length, key, onsL_mem]
  simp
end
end Go.Proofs.YtcjedgiglimipaaDoor
