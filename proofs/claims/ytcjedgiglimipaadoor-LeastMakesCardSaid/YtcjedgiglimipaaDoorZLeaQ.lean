/-
  Chapter 8: a determined machine's states by their languages; what the least machine's makers go through; in plain Lean.
-/
import Derived.Test.YtcjedgiglimipaaDoorZLeaP
namespace Go.Proofs.YtcjedgiglimipaaDoor
set_option linter.unusedSimpArgs false
set_option linter.unusedVariables false
set_option linter.unusedSectionVars false
open Go.RowKit

theorem DM.of {m : Mach} {L : List (List Int)} {ar : List Arr} (h : Det m L ar) : DM (detOf m L ar) L.length m.events.toNat := by
  have hmay := h.may
  refine ⟨rfl, h.ev.symm, h.pos, h.l256, h.n8, h.len, fun i hi => ?_, hmay.2.2.2.2.2.2.1⟩
  have h2 : i < (detOf m L ar).arrows.length := by show i < ar.length; rw [h.len]; exact hi
  have := May.arr hmay (getD_mem _ default i h2)
  exact this.2.1
theorem dm_step {m : Mach} {L : List (List Int)} {ar : List Arr} (h : Det m L ar) {s e : Nat} (hs : s < L.length) (he : e < m.events.toNat) :
    stepL (detOf m L ar) [(s : Int)] (e : Int) = [(dl (detOf m L ar) m.events.toNat s e : Int)] := by
  have hd := DM.of h
  have hat := hd.at_ hs he
  obtain ⟨j, hj, hst⟩ := h.step (p := s) (s := L[s]'hs) (List.getElem?_eq_getElem hs) (e := (e : Int)) (by omega) (by have := h.ev; omega)
  obtain ⟨j', s', ha, _, _⟩ := h.at_ (i := s * m.events.toNat + e) (by rw [h.len]; exact hat)
  have he0 : 0 < m.events.toNat := by omega
  have e1 : (s * m.events.toNat + e) / m.events.toNat = s := by rw [Nat.mul_comm, Nat.mul_add_div he0, Nat.div_eq_of_lt he]; omega
  have e2 : (s * m.events.toNat + e) % m.events.toNat = e := by rw [Nat.mul_comm, Nat.mul_add_mod, Nat.mod_eq_of_lt he]
  rw [e1, e2] at ha
  have hmem : (⟨(s : Int), (e : Int), j'⟩ : Arr) ∈ (detOf m L ar).arrows := by
    show _ ∈ ar
    rw [← ha]
    exact getD_mem _ _ _ (by rw [h.len]; exact hat)
  have hin : (j' : Int) ∈ stepL (detOf m L ar) [(s : Int)] (e : Int) := mem_stepL.2 ⟨_, hmem, rfl, by simp, rfl⟩
  rw [hst] at hin ⊢
  have : dl (detOf m L ar) m.events.toNat s e = j' := by
    unfold dl
    show (((ar.getD (s * m.events.toNat + e) default)).to_).toNat = j'
    rw [ha]; simp
  rw [this, List.mem_singleton.1 hin]
/-- The language from a state on. -/
def lgS (d : Mach) (s : Nat) : Lg := langS d [(s : Int)]
theorem dm_dv {m : Mach} {L : List (List Int)} {ar : List Arr} (h : Det m L ar) {s e : Nat} (hs : s < L.length) (he : e < m.events.toNat) : dv (lgS (detOf m L ar) s) (e : Int) = lgS (detOf m L ar) (dl (detOf m L ar) m.events.toNat s e) := by
  unfold lgS
  rw [dv_lang _ _ (by omega) (by show (e : Int) < m.events; have := h.ev; omega), dm_step h hs he]
theorem dm_nil {m : Mach} {L : List (List Int)} {ar : List Arr} (s : Nat) : lgS (detOf m L ar) s [] ↔ dfin (detOf m L ar) s := by
  unfold lgS langS dfin
  constructor
  · rintro ⟨_, x, hx, hxe⟩
    have hx' : x = (s : Int) := List.mem_singleton.1 hx
    rw [← hx']; exact hxe
  · exact fun h => ⟨by simp, _, List.mem_singleton.2 rfl, h⟩
theorem dm_run {m : Mach} {L : List (List Int)} {ar : List Arr} (h : Det m L ar) : ∀ (u : List Nat) {s : Nat}, s < L.length → (∀ e ∈ u, e < m.events.toNat) → (lgS (detOf m L ar) s (u.map fun (e : Nat) => (e : Int)) ↔ dfin (detOf m L ar) (runM (dl (detOf m L ar) m.events.toNat) s u))
  | [], s, _, _ => dm_nil s
  | e :: u, s, hs, hu => by
    have he := hu e (List.mem_cons_self ..)
    have hd := (DM.of h).dl_lt hs he
    have ih := dm_run h u hd fun x hx => hu x (List.mem_cons_of_mem _ hx)
    have e1 : lgS (detOf m L ar) s ((e :: u).map fun (e : Nat) => (e : Int)) = dv (lgS (detOf m L ar) s) (e : Int) (u.map fun (e : Nat) => (e : Int)) := rfl
    rw [e1, dm_dv h hs he, ih]
    rfl
/-- No word tells them apart: the same language. -/
theorem dm_same {m : Mach} {L : List (List Int)} {ar : List Arr} (h : Det m L ar) {s t : Nat} (hs : s < L.length) (ht : t < L.length) :
    eqA m.events.toNat (dl (detOf m L ar) m.events.toNat) (dfin (detOf m L ar)) s t ↔ lgS (detOf m L ar) s = lgS (detOf m L ar) t := by
  constructor
  · intro he
    funext u
    by_cases hu : ∀ x ∈ u, 0 ≤ x ∧ x < m.events
    · have e1 : u = (u.map Int.toNat).map fun (e : Nat) => (e : Int) := by
        rw [List.map_map]
        exact (List.map_id u).symm.trans (List.map_congr_left fun x hx => by have := hu x hx; simp; omega)
      have h2 : ∀ e ∈ u.map Int.toNat, e < m.events.toNat := fun e he => by
        obtain ⟨x, hx, rfl⟩ := List.mem_map.1 he
        have := hu x hx; omega
      rw [e1]
      exact propext (((dm_run h _ hs h2).trans (he _ h2)).trans (dm_run h _ ht h2).symm)
    · exact propext ⟨fun hh => absurd hh.1 hu, fun hh => absurd hh.1 hu⟩
  · intro he u hu
    rw [← dm_run h u hs hu, ← dm_run h u ht hu, he]
theorem dm_first {m : Mach} {L : List (List Int)} {ar : List Arr} (h : Det m L ar) : lgS (detOf m L ar) 0 = langS m m.starts := by
  funext u
  by_cases hu : ∀ x ∈ u, 0 ≤ x ∧ x < m.events
  · obtain ⟨_, _, _, h2⟩ := h.accepts (word := u) fun i hi => hu _ (getD_mem u 0 i hi)
    exact propext ⟨fun hh => ⟨hu, h2.1 hh.2⟩, fun hh => ⟨hu, h2.2 hh.2⟩⟩
  · exact propext ⟨fun hh => absurd hh.1 hu, fun hh => absurd hh.1 hu⟩
/-- Of up to six states there are not too many sets. -/
theorem sets_few {m : Mach} (hm : m.May) (h6 : m.states ≤ 6) (k : Nat) : (bIter (stepL m) (evs m.events.toNat) m.starts k).length ≤ 64 := by
  have hg := bIter_good (step := stepL m) (es := evs m.events.toNat) (U := fun s => IsRow s 6) (fun s _ e _ => (stepL_row hm s e).more h6) ((may_starts hm).more h6) k
  exact hg.len codeR 64 (fun _ h => codeR_lt h) (fun _ _ h h' e => codeR_inj h h' e)
theorem make_ok {m d : Mach} {rows : List (List Int)} {e : Int} (hm : m.May) (h6 : m.states ≤ 6) (h : MakeSpec m d rows e) : e = 0 ∧ ∃ ar, Det m rows ar ∧ d = detOf m rows ar := by
  rcases h with ⟨h1, _⟩ | ⟨_, ⟨ar, h1, rfl⟩, rfl⟩ | ⟨_, h1, _⟩
  · exact absurd hm h1
  · exact ⟨rfl, ar, Det.of hm h1, rfl⟩
  · rcases h1 with ⟨h1, _⟩ | ⟨_, _, _, k, hk⟩
    · cases h1
    · have := sets_few hm h6 k; omega

noncomputable def ndL (m : Mach) (L : List (List Int)) (ar : List Arr) (fs : List Nat) : List Lg := fs.map (lgS (detOf m L ar))
abbrev nilG : Lg → Prop := fun Y => Y []
structure LQ (m : Mach) (L : List (List Int)) (ar : List Arr) (k j : Nat) (fs : List Nat) (ao : List Arr) : Prop where
  eq : ndL m L ar fs = (bPart dv (evs m.events.toNat) (langS m m.starts) k j).map (·.1)
  lt : ∀ s ∈ fs, s < L.length
  arr : Arrows dv (evs m.events.toNat) k j (ndL m L ar fs) ao
section
variable {m : Mach} {L : List (List Int)} {ar : List Arr} {k j : Nat} {fs : List Nat} {ao : List Arr}
theorem ndL_at {i s : Nat} (h : fs[i]? = some s) : (ndL m L ar fs)[i]? = some (lgS (detOf m L ar) s) := by unfold ndL; rw [List.getElem?_map, h]; rfl
theorem LQ.start (h : Det m L ar) : LQ m L ar 0 0 [0] [] := ⟨by
  show [lgS (detOf m L ar) 0] = _
  rw [dm_first h]; rfl, fun s hs => by rw [List.mem_singleton.1 hs]; exact h.pos, ⟨rfl, by simp⟩⟩
theorem LQ.len (h : LQ m L ar k j fs ao) : fs.length ≤ L.length := by
  have hn : (ndL m L ar fs).Nodup := by
    rw [h.eq]
    exact (bPart_good (step := dv) (es := evs m.events.toNat) (U := fun _ => True) (fun _ _ _ _ => trivial) trivial k j).nodup
  refine nodup_nat_len L.length fs ?_ h.lt
  unfold ndL at hn
  rw [List.nodup_iff_pairwise_ne, List.pairwise_map] at hn
  rw [List.nodup_iff_pairwise_ne]
  exact hn.imp fun hh e => hh (by rw [e])
theorem LQ.pair (h : LQ m L ar k j fs ao) {s : Nat} (hk : fs[k]? = some s) : ∃ q, (bPart dv (evs m.events.toNat) (langS m m.starts) k j)[k]? = some q ∧ q.1 = lgS (detOf m L ar) s := by
  have h1 := ndL_at (m := m) (L := L) (ar := ar) hk
  rw [h.eq, List.getElem?_map] at h1
  cases hq : (bPart dv (evs m.events.toNat) (langS m m.starts) k j)[k]? with
  | none => rw [hq] at h1; cases h1
  | some q => rw [hq] at h1; exact ⟨q, rfl, Option.some.inj h1⟩
theorem LQ.old (hD : Det m L ar) (h : LQ m L ar k j fs ao) (hj : j < m.events.toNat) {s : Nat} (hk : fs[k]? = some s) {i u : Nat} (hi : fs[i]? = some u) (he : lgS (detOf m L ar) u = lgS (detOf m L ar) (dl (detOf m L ar) m.events.toNat s j)) :
    LQ m L ar k (j + 1) fs (ao ++ [⟨k, j, i⟩]) := by
  have hs := h.lt s (List.mem_of_getElem? hk)
  obtain ⟨q, hq, hq1⟩ := h.pair hk
  have hej := evs_at _ _ hj
  have hdv := dm_dv hD hs hj
  have hsucc := bPart_succ dv (evs m.events.toNat) (langS m m.starts) k j (by rw [evs_len]; exact hj)
  rw [hej, bAdd_old hq (by rw [hq1, hdv, ← he, ← h.eq]; exact List.mem_of_getElem? (ndL_at hi))] at hsucc
  refine ⟨by rw [hsucc]; exact h.eq, h.lt, ?_⟩
  have := h.arr.add (i := i) (by rw [evs_len]; exact hj) (ndL_at hk) (by rw [hej, hdv, ← he]; exact ndL_at hi)
  rwa [hej] at this
theorem LQ.new (hD : Det m L ar) (h : LQ m L ar k j fs ao) (hj : j < m.events.toNat) {s : Nat} (hk : fs[k]? = some s) (hno : ∀ u ∈ fs, lgS (detOf m L ar) u ≠ lgS (detOf m L ar) (dl (detOf m L ar) m.events.toNat s j)) :
    LQ m L ar k (j + 1) (fs ++ [dl (detOf m L ar) m.events.toNat s j]) (ao ++ [⟨k, j, fs.length⟩]) := by
  have hs := h.lt s (List.mem_of_getElem? hk)
  obtain ⟨q, hq, hq1⟩ := h.pair hk
  have hej := evs_at _ _ hj
  have hdv := dm_dv hD hs hj
  have hsucc := bPart_succ dv (evs m.events.toNat) (langS m m.starts) k j (by rw [evs_len]; exact hj)
  have hnm : dv q.1 (j : Int) ∉ (bPart dv (evs m.events.toNat) (langS m m.starts) k j).map (·.1) := by
    rw [hq1, hdv, ← h.eq]
    intro hm
    obtain ⟨u, hu, e⟩ := List.mem_map.1 hm
    exact hno u hu e
  rw [hej, bAdd_new hq hnm] at hsucc
  have hnd : ndL m L ar (fs ++ [dl (detOf m L ar) m.events.toNat s j]) = ndL m L ar fs ++ [lgS (detOf m L ar) (dl (detOf m L ar) m.events.toNat s j)] := by unfold ndL; rw [List.map_append]; rfl
  refine ⟨by rw [hsucc, hnd, List.map_append, h.eq, List.map_singleton, hq1, hdv], fun u hu => ?_, ?_⟩
  · rcases List.mem_append.1 hu with hu | hu
    · exact h.lt u hu
    · rw [List.mem_singleton.1 hu]; exact (DM.of hD).dl_lt hs hj
  · have hl : (ndL m L ar fs).length = fs.length := List.length_map ..
    have := (h.arr.more (lgS (detOf m L ar) (dl (detOf m L ar) m.events.toNat s j))).add (i := fs.length) (by rw [evs_len]; exact hj) (s := lgS (detOf m L ar) s) (by rw [List.getElem?_append_left (by rw [hl]; exact (List.getElem?_eq_some_iff.1 hk).1)]; exact ndL_at hk)
      (by rw [hej, hdv, ← hl]; simp)
    rw [hej] at this
    rw [hnd]; exact this
theorem LQ.round (h : LQ m L ar k m.events.toNat fs ao) : LQ m L ar (k + 1) 0 fs ao := by
  have h1 := bPart_all (step := dv) (es := evs m.events.toNat) (langS m m.starts) k
  rw [evs_len] at h1
  refine ⟨by rw [h.eq, h1]; rfl, h.lt, ⟨?_, h.arr.2⟩⟩
  have h2 := h.arr.1
  rw [h2, ← prs_all, evs_len]
theorem LQ.done (h : LQ m L ar k 0 fs ao) (hl : L.length ≤ 256) (hk : fs.length = k) : LeastOf m.events (langS m m.starts) ⟨k, m.events, [0], ao, endsG nilG (ndL m L ar fs) k⟩ := by
  have hn : (ndL m L ar fs).length = k := by unfold ndL; rw [List.length_map, hk]
  have hle := h.len
  refine ⟨k, ndL m L ar fs, ao, h.eq, hn, by omega, h.arr, ?_⟩
  unfold detG
  rw [hn]
theorem ends_grow {n : Nat} (hk : n ≤ fs.length) (u : Nat) : endsG nilG (ndL m L ar (fs ++ [u])) n = endsG nilG (ndL m L ar fs) n :=
  endsG_more _ fun i hi => by unfold ndL; rw [List.map_append, List.getElem?_append_left (by rw [List.length_map]; omega)]
theorem ends_next {s : Nat} (hk : fs[k]? = some s) : endsG nilG (ndL m L ar fs) (k + 1) = if (s : Int) ∈ (detOf m L ar).ends then endsG nilG (ndL m L ar fs) k ++ [(k : Int)] else endsG nilG (ndL m L ar fs) k := by
  have h1 := endsG_succ nilG (ndL_at (m := m) (L := L) (ar := ar) hk)
  have h2 := dm_nil (m := m) (L := L) (ar := ar) s
  by_cases c : (s : Int) ∈ (detOf m L ar).ends
  · rw [if_pos c]; exact h1.1 (h2.2 c)
  · rw [if_neg c]; exact h1.2 fun hh => c (h2.1 hh)
end
/-- A map from parts to places. -/
def kvP (p : List Int) (fs : List Nat) : List (Value × Value) := fs.zipIdx.map fun q => (Value.int .i64 (p.getD q.1 0), .int .i64 (q.2 : Int))
theorem kvP_snoc (p : List Int) (fs : List Nat) (s : Nat) : kvP p (fs ++ [s]) = kvP p fs ++ [(.int .i64 (p.getD s 0), .int .i64 (fs.length : Int))] := by
  unfold kvP
  rw [List.zipIdx_append, List.map_append]
  simp
theorem kvP_mem {p : List Int} {fs : List Nat} {x : Int} {v : Value} (h : (Value.int .i64 x, v) ∈ kvP p fs) : ∃ (i u : Nat), fs[i]? = some u ∧ p.getD u 0 = x ∧ v = .int .i64 (i : Int) := by
  obtain ⟨⟨t, i⟩, ht, he⟩ := List.mem_map.1 h
  injection he with e1 e2
  injection e1 with _ e1
  exact ⟨i, t, List.mk_mem_zipIdx_iff_getElem?.1 ht, e1, e2.symm⟩
theorem kvP_has {p : List Int} {fs : List Nat} {i u : Nat} (h : fs[i]? = some u) : (Value.int .i64 (p.getD u 0), Value.int .i64 (i : Int)) ∈ kvP p fs := List.mem_map.2 ⟨(u, i), List.mk_mem_zipIdx_iff_getElem?.2 h, rfl⟩
theorem keyed_i : Maps.Keyed Tryd.prog 3 := Maps.int_keyed Tryd.underlying3
theorem key_i {x : Int} (hx : I64 x) : KeyIs Tryd.prog 3 (.int .i64 x) := ⟨_, Maps.keyOf_int_mk Tryd.underlying3 (i64_wf' hx)⟩
end Go.Proofs.YtcjedgiglimipaaDoor
