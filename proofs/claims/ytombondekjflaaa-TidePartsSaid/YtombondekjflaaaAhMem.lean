/- YtombondekjflaaaAhMem: a part of the proof; see the last text for what is proved. -/
import Derived.Test.YtombondekjflaaaAhSlice
set_option linter.unusedVariables false
set_option linter.unusedSimpArgs false
namespace Go.AE
open Go.RowKit

variable {P : Program} {X : Env P} {γ : Nat → Value} {U V : Nat → Prop} {st : St} {a : Act} {w w' : World}

def upd (γ : Nat → Value) (d : Nat) (v : Value) : Nat → Value := fun e => if e = d then v else γ e
theorem upd_same (γ : Nat → Value) (d : Nat) (v : Value) : upd γ d v d = v := by simp [upd]
theorem upd_ne {γ : Nat → Value} {d e : Nat} {v : Value} (h : e ≠ d) : upd γ d v e = γ e := by simp [upd, h]

theorem SimObj.heap {Y : Value} {M : Nat → Prop} {d : Nat} {o : Obj} (h : SimObj Y γ w M d o) {b : Nat} (hb : blk (γ d) = some b) : ∃ cs T fr, w.heap[b]? = some (.cells cs T fr) := by
  cases o with
  | box T cs =>
    simp only [SimObj] at h
    obtain ⟨b', xs, hg, hh, _⟩ := h
    rw [hg] at hb
    simp only [blk, Option.some.injEq] at hb
    subst hb
    exact ⟨_, _, _, hh⟩
  | row T sz n cs =>
    simp only [SimObj] at h
    obtain ⟨A, c, xs, hg, _, _, _, _, _, hh⟩ := h
    rw [hg] at hb
    cases c with
    | zero => cases A <;> simp [blk] at hb
    | succ c =>
      obtain ⟨g, cur, rfl, hh, _⟩ := hh (by omega)
      simp only [blk, Option.some.injEq] at hb
      subst hb
      exact ⟨_, _, _, hh⟩

theorem SimObj.keep {Y : Value} {M M' : Nat → Prop} {d : Nat} {o : Obj} (h : SimObj Y γ w M d o) (hw : Keep M w w') (hM : Less w M' M)
    (hb : ∀ b, blk (γ d) = some b → w'.heap[b]? = w.heap[b]?) : SimObj Y γ w' M' d o := by
  cases o with
  | box T cs =>
    simp only [SimObj] at h ⊢
    obtain ⟨b', xs, hg, hh, h1, h2⟩ := h
    exact ⟨b', xs, hg, by rw [hb b' (by rw [hg]; rfl)]; exact hh, RAs.keep hw hM cs xs h1, h2⟩
  | row T sz n cs =>
    simp only [SimObj] at h ⊢
    obtain ⟨A, c, xs, hg, hnc, hcm, hlen, h1, h2, hh⟩ := h
    refine ⟨A, c, xs, hg, hnc, hcm, hlen, RPs.keep hw hM cs xs h1, h2, fun hc => ?_⟩
    obtain ⟨g, cur, rfl, hh, hcs, ht⟩ := hh hc
    refine ⟨g, cur, rfl, ?_, hcs, ht⟩
    rw [hb g (by rw [hg]; obtain ⟨c', rfl⟩ : ∃ c', c = c' + 1 := ⟨c - 1, by omega⟩; rfl)]
    exact hh

theorem SimObj.mono {Y : Value} {M M' : Nat → Prop} {d : Nat} {o : Obj} (h : SimObj Y γ w M d o) (hw : Same M w w') (hM : ∀ b, b < w.heap.size → M' b → M b)
    (hb : ∀ b, blk (γ d) = some b → w'.heap[b]? = w.heap[b]?) : SimObj Y γ w' M' d o := by
  cases o with
  | box T cs =>
    simp only [SimObj] at h ⊢
    obtain ⟨b', xs, hg, hh, h1, h2⟩ := h
    exact ⟨b', xs, hg, by rw [hb b' (by rw [hg]; rfl)]; exact hh, RAs.mono hw hM cs xs h1, h2⟩
  | row T sz n cs =>
    simp only [SimObj] at h ⊢
    obtain ⟨A, c, xs, hg, hnc, hcm, hlen, h1, h2, hh⟩ := h
    refine ⟨A, c, xs, hg, hnc, hcm, hlen, RPs.mono hw hM cs xs h1, h2, fun hc => ?_⟩
    obtain ⟨g, cur, rfl, hh, hcs, ht⟩ := hh hc
    refine ⟨g, cur, rfl, ?_, hcs, ht⟩
    rw [hb g (by rw [hg]; obtain ⟨c', rfl⟩ : ∃ c', c = c' + 1 := ⟨c - 1, by omega⟩; rfl)]
    exact hh

theorem SimObj.kill {Y : Value} {M : Nat → Prop} {d e : Nat} {o : Obj} {γ' : Nat → Value} (h : SimObj Y γ w M e o) (hγ : ∀ e, e ≠ d → γ' e = γ e) (he : e ≠ d) : SimObj Y γ' w M e (o.kill d) := by
  cases o with
  | box T cs =>
    simp only [SimObj, Obj.kill] at h ⊢
    obtain ⟨b', xs, hg, hh, h1, h2⟩ := h
    exact ⟨b', xs, by rw [hγ e he]; exact hg, hh, RAs.kill hγ cs xs h1, h2⟩
  | row T sz n cs =>
    simp only [SimObj, Obj.kill] at h ⊢
    rw [hγ e he]
    exact h

theorem getD_put_same {tmps : Array Value} {d : Nat} {v : Value} (h : d < tmps.size) : (tmps.setIfInBounds d v).getD d undef = v := by
  simp [Array.getD_eq_getD_getElem?, h]
theorem getD_put_ne {tmps : Array Value} {d k : Nat} {v : Value} (h : d ≠ k) : (tmps.setIfInBounds d v).getD k undef = tmps.getD k undef := by
  simp [Array.getD_eq_getD_getElem?, Array.getElem?_setIfInBounds_ne h]

theorem RegsOk.mono {Y : Value} {M M' : Nat → Prop} {regs : List (Nat × AV)} {t : Array Value} (h : RegsOk Y γ w M regs t) (hw : Same M w w') (hM : ∀ b, b < w.heap.size → M' b → M b) : RegsOk Y γ w' M' regs t :=
  fun k v hk => RA.mono hw hM v _ (h k v hk)
theorem RegsOk.kill {Y : Value} {M : Nat → Prop} {regs : List (Nat × AV)} {t : Array Value} {γ' : Nat → Value} {d : Nat} (h : RegsOk Y γ w M regs t) (hγ : ∀ e, e ≠ d → γ' e = γ e) : RegsOk Y γ' w M (mapv (AV.kill d) regs) t := by
  intro k v hk
  rw [get_mapv] at hk
  obtain ⟨u, hu, rfl⟩ := Option.map_eq_some_iff.1 hk
  exact RA.kill hγ u _ (h k u hu)
theorem OutsOk.mono {Y : Value} {M M' : Nat → Prop} (hw : Same M w w') (hM : ∀ b, b < w.heap.size → M' b → M b) : ∀ {rs : List (List (Nat × AV))} {ts : List (Array Value)}, OutsOk Y γ w M rs ts → OutsOk Y γ w' M' rs ts
  | [], ts, h => by simpa only [OutsOk] using h
  | r :: rs, ts, h => by
    simp only [OutsOk] at h ⊢
    obtain ⟨t, ts', rfl, h1, h3, h2⟩ := h
    exact ⟨t, ts', rfl, h1.mono hw hM, h3, OutsOk.mono hw hM h2⟩
theorem kill_lit {d n : Nat} {cs : List PV} {v : AV} (h : v.kill d = .lit n cs) : v = .lit n cs := by
  cases v <;> simp only [AV.kill] at h <;> first | exact h | (cases h; done) | (split at h <;> cases h)
theorem NoLits.kill {r : List (Nat × AV)} (h : NoLits r) (d : Nat) : NoLits (mapv (AV.kill d) r) := by
  intro k n cs hk
  rw [get_mapv] at hk
  obtain ⟨u, hu, hk⟩ := Option.map_eq_some_iff.1 hk
  rw [kill_lit hk] at hu
  exact h k n cs hu
theorem OutsOk.kill {Y : Value} {M : Nat → Prop} {γ' : Nat → Value} {d : Nat} (hγ : ∀ e, e ≠ d → γ' e = γ e) : ∀ {rs : List (List (Nat × AV))} {ts : List (Array Value)}, OutsOk Y γ w M rs ts → OutsOk Y γ' w M (rs.map (mapv (AV.kill d))) ts
  | [], ts, h => by simpa only [OutsOk, List.map_nil] using h
  | r :: rs, ts, h => by
    simp only [OutsOk, List.map_cons] at h ⊢
    obtain ⟨t, ts', rfl, h1, h3, h2⟩ := h
    exact ⟨t, ts', rfl, h1.kill hγ, h3.kill d, OutsOk.kill hγ h2⟩

theorem Marks.mono {U' : Nat → Prop} {ds : List Deferred} (h : Marks U w ds) (hU : ∀ b, b < w.heap.size → U b → U' b) (hw : ∀ D : Nat, w.heap[D]? = some (Go.Obj.deferred (some [])) → w'.heap[D]? = some (Go.Obj.deferred (some []))) : Marks U' w' ds := by
  obtain ⟨Ds, rfl, hn, hD⟩ := h
  exact ⟨Ds, rfl, hn, fun D hd => ⟨hU D (Array.getElem?_eq_some_iff.1 (hD D hd).2).1 (hD D hd).1, hw D (hD D hd).2⟩⟩

theorem same_other {M : Nat → Prop} (hw : Same M w w') (hc : ∀ b, M b → ∃ cs T fr, w.heap[b]? = some (.cells cs T fr)) {D : Nat} {o : Go.Obj} (h : w.heap[D]? = some o) (ho : ∀ cs T fr, o ≠ .cells cs T fr) : w'.heap[D]? = some o := by
  rw [hw.blk D (Array.getElem?_eq_some_iff.1 h).1 (fun hm => by
    obtain ⟨cs, T, fr, hh⟩ := hc D hm
    rw [h] at hh
    exact ho cs T fr (Option.some.inj hh))]
  exact h

theorem live_cells (S : Sim X γ U V st a w) : ∀ b, live γ st.objs b → ∃ cs T fr, w.heap[b]? = some (.cells cs T fr) := by
  rintro b ⟨d, o, hd, hb⟩
  exact (S.obj d o hd).heap hb

theorem LitsOk.put {regs : List (Nat × AV)} {tmps : Array Value} {d : Nat} {v : Value} {av : AV} (h : LitsOk U regs tmps) (hnl : av.isLit = false) : LitsOk U (put d av regs) (tmps.setIfInBounds d v) := by
  intro k n cs hk
  by_cases he : d = k
  · subst he
    rw [get_put_same] at hk
    obtain rfl := Option.some.inj hk
    cases hnl
  · rw [get_put_ne he] at hk
    rw [getD_put_ne he]
    exact h k n cs hk

theorem Sim.putReg {d : Nat} {v : Value} {av : AV} (S : Sim X γ U V st a w) (hd : d < X.n) (hw : Same (fun _ => False) w w') (hnl : av.isLit = false)
    (hv : RA X.Y γ w' (Mut V γ st.objs) av v) : Sim X γ U V { st with regs := put d av st.regs } (a.put (some d) v) w' := by
  have hwM : Same (Mut V γ st.objs) w w' := hw.mono (fun _ _ h => h.elim)
  refine ⟨S.env |> fun h => X.stable h (hw.mono (fun _ _ h => h.elim)) (fun b hb => .inl hb), by simpa [Act.put] using S.size, ?_, S.outs.mono hwM (fun _ _ h => h), ?_, S.sep, S.own, S.zone,
    fun b hb => Nat.lt_of_lt_of_le (S.ltU b hb) hw.size, fun b hb => Nat.lt_of_lt_of_le (S.ltV b hb) hw.size, ?_, ?_, ?_⟩
  · intro k u hk
    by_cases h : d = k
    · subst h
      simp only [get_put_same, Option.some.injEq] at hk
      subst hk
      simp only [Act.put]
      rw [getD_put_same (by rw [S.size]; exact hd)]
      exact hv
    · simp only [get_put_ne h] at hk
      simp only [Act.put]
      rw [getD_put_ne h]
      exact RA.mono hwM (fun _ _ h => h) u _ (S.reg k u hk)
  · intro e o he
    have hs := S.obj e o he
    exact hs.mono hwM (fun _ _ h => h) (fun b hb => hw.blk b (by obtain ⟨cs, T, fr, hh⟩ := hs.heap hb; exact (Array.getElem?_eq_some_iff.1 hh).1) (fun h => h.elim))
  · exact S.defs.mono (fun _ _ h => h) (fun D hD => same_other hw (fun b h => h.elim) hD (by intro cs T fr e; cases e))
  · exact S.lits.put hnl
  · exact S.kept

theorem Sim.same (S : Sim X γ U V st a w) (hw : Same (fun _ => False) w w') : Sim X γ U V st a w' := by
  have hwM : Same (Mut V γ st.objs) w w' := hw.mono (fun _ _ h => h.elim)
  refine ⟨S.env |> fun h => X.stable h (hw.mono (fun _ _ h => h.elim)) (fun b hb => .inl hb), S.size, S.reg.mono hwM (fun _ _ h => h), S.outs.mono hwM (fun _ _ h => h), ?_, S.sep, S.own, S.zone,
    fun b hb => Nat.lt_of_lt_of_le (S.ltU b hb) hw.size, fun b hb => Nat.lt_of_lt_of_le (S.ltV b hb) hw.size, ?_, S.lits, S.kept⟩
  · intro e o he
    have hs := S.obj e o he
    exact hs.mono hwM (fun _ _ h => h) (fun b hb => hw.blk b (by obtain ⟨cs, T, fr, hh⟩ := hs.heap hb; exact (Array.getElem?_eq_some_iff.1 hh).1) (fun h => h.elim))
  · exact S.defs.mono (fun _ _ h => h) (fun D hD => same_other hw (fun b h => h.elim) hD (by intro cs T fr e; cases e))

theorem Sim.forget {d : Nat} {v : Value} (S : Sim X γ U V st a w) : Sim X γ U V { st with regs := del d st.regs } (a.put (some d) v) w := by
  refine ⟨S.env, by simpa [Act.put] using S.size, ?_, S.outs, S.obj, S.sep, S.own, S.zone, S.ltU, S.ltV, S.defs, fun k n cs hk => ?_, S.kept⟩
  rotate_left
  · by_cases h : d = k
    · subst h
      simp only [get_del_same] at hk
      cases hk
    · simp only [get_del_ne h] at hk
      simp only [Act.put]
      rw [getD_put_ne h]
      exact S.lits k n cs hk
  intro k u hk
  by_cases h : d = k
  · subst h
    simp only [get_del_same] at hk
    cases hk
  · simp only [get_del_ne h] at hk
    simp only [Act.put]
    rw [getD_put_ne h]
    exact S.reg k u hk

def objRef (d : Nat) : Obj → AV
  | .box _ _ => .ptr d 0
  | .row _ _ _ _ => .own d

def allocSt (d : Nat) (d0 : Option Nat) (o : Obj) (st : St) : St :=
  { regs := put d (objRef d o) (mapv (AV.kill d) st.regs),
    objs := put d o (mapv (Obj.kill d) (match d0 with | some e => del e st.objs | none => st.objs)),
    log := st.log, outer := st.outer.map (mapv (AV.kill d)) }

def used (d0 : Option Nat) (st : St) (γ : Nat → Value) (b : Nat) : Prop := ∃ e o, d0 = some e ∧ get e st.objs = some o ∧ blk (γ e) = some b

theorem Sim.alloc {d : Nat} {d0 : Option Nat} {o : Obj} {v : Value} (S : Sim X γ U V st a w) (hd : d < X.n) (hw : Same (used d0 st γ) w w')
    (hv : ∀ b, blk v = some b → (w.heap.size ≤ b ∨ used d0 st γ b) ∧ b < w'.heap.size)
    (ho : ∀ M', (∀ b, b < w.heap.size → M' b → Mut V γ st.objs b) → SimObj X.Y (upd γ d v) w' M' d o) :
    Sim X (upd γ d v) (fun b => U b ∨ blk v = some b) V (allocSt d d0 o st) (a.put (some d) v) w' := by
  have hul : ∀ b, used d0 st γ b → live γ st.objs b := by rintro b ⟨e, o', _, h1, h2⟩; exact ⟨e, o', h1, h2⟩
  have huM : ∀ b, used d0 st γ b → Mut V γ st.objs b := fun b h => .inr (hul b h)
  have hwM : Same (Mut V γ st.objs) w w' := hw.mono (fun b _ h => huM b h)
  have hγ : ∀ e, e ≠ d → upd γ d v e = γ e := fun e he => upd_ne he
  -- what is there behind the step was there ahead of it, but for site d
  have hget : ∀ e o', e ≠ d → get e (allocSt d d0 o st).objs = some o' → d0 ≠ some e ∧ ∃ o1, get e st.objs = some o1 ∧ o' = o1.kill d := by
    intro e o' he h
    simp only [allocSt, get_put_ne (Ne.symm he), get_mapv] at h
    obtain ⟨o1, h1, rfl⟩ := Option.map_eq_some_iff.1 h
    cases d0 with
    | none => exact ⟨by simp, o1, h1, rfl⟩
    | some e0 =>
      simp only at h1
      by_cases hee : e0 = e
      · subst hee; rw [get_del_same] at h1; cases h1
      · rw [get_del_ne hee] at h1; exact ⟨by simpa using hee, o1, h1, rfl⟩
  have hM : ∀ b, b < w.heap.size → Mut V (upd γ d v) (allocSt d d0 o st).objs b → Mut V γ st.objs b := by
    rintro b hb (hV | ⟨e, o', he, hbl⟩)
    · exact .inl hV
    · by_cases hed : e = d
      · subst hed
        rw [upd_same] at hbl
        rcases (hv b hbl).1 with h | h
        · omega
        · exact huM b h
      · obtain ⟨_, o1, h1, _⟩ := hget e o' hed he
        rw [hγ e hed] at hbl
        exact .inr ⟨e, o1, h1, hbl⟩
  have hob := ho _ hM
  refine ⟨X.stable S.env (hw.mono (fun b _ h => S.own b (hul b h))) ?_, by simpa [Act.put] using S.size, ?_, ?_, ?_, ?_, ?_, ?_, ?_, fun b hb => Nat.lt_of_lt_of_le (S.ltV b hb) hw.size, ?_, ?_, fun e he => by rw [upd_ne (by omega)]; exact S.kept e he⟩
  · rintro b (h | h)
    · exact .inl h
    · rcases (hv b h).1 with h1 | h1
      · exact .inr h1
      · exact .inl (S.own b (hul b h1))
  · intro k u hk
    by_cases h : d = k
    · subst h
      simp only [allocSt, get_put_same, Option.some.injEq] at hk
      subst hk
      simp only [Act.put]
      rw [getD_put_same (by rw [S.size]; exact hd)]
      cases o with
      | box T cs =>
        simp only [SimObj] at hob
        obtain ⟨b, xs, hg, _⟩ := hob
        simp only [objRef, RA]
        rw [hg, ← upd_same γ d v, hg]
        exact ⟨b, rfl, rfl⟩
      | row T sz n cs =>
        simp only [objRef, RA]
        rw [upd_same]
    · simp only [allocSt, get_put_ne h] at hk
      simp only [Act.put]
      rw [getD_put_ne h]
      exact RA.mono hwM hM u _ ((S.reg.kill hγ) k u hk)
  · exact OutsOk.mono hwM hM (OutsOk.kill hγ S.outs)
  · intro e o' he
    by_cases hed : e = d
    · subst hed
      simp only [allocSt, get_put_same, Option.some.injEq] at he
      subst he
      exact hob
    · obtain ⟨hne, o1, h1, rfl⟩ := hget e o' hed he
      have hs := S.obj e o1 h1
      have h2 : SimObj X.Y γ w' (Mut V (upd γ d v) (allocSt d d0 o st).objs) e o1 := hs.mono hwM hM (fun b hb => by
        refine hw.blk b (by obtain ⟨cs, T, fr, hh⟩ := hs.heap hb; exact (Array.getElem?_eq_some_iff.1 hh).1) ?_
        rintro ⟨e', o2, rfl, h3, h4⟩
        exact hne (by rw [S.sep e e' o1 o2 b h1 h3 hb h4]))
      exact h2.kill hγ hed
  · intro e e' o1 o2 b h1 h2 hb1 hb2
    by_cases hed : e = d
    · by_cases hed' : e' = d
      · rw [hed, hed']
      · subst hed
        exfalso
        rw [upd_same] at hb1
        rw [hγ e' hed'] at hb2
        obtain ⟨hne, o3, h3, _⟩ := hget e' o2 hed' h2
        have hlt : b < w.heap.size := S.ltU b (S.own b ⟨e', o3, h3, hb2⟩)
        rcases (hv b hb1).1 with h | ⟨e0, o0, rfl, h4, h5⟩
        · omega
        · exact hne (by rw [S.sep e' e0 o3 o0 b h3 h4 hb2 h5])
    · by_cases hed' : e' = d
      · subst hed'
        exfalso
        rw [upd_same] at hb2
        rw [hγ e hed] at hb1
        obtain ⟨hne, o3, h3, _⟩ := hget e o1 hed h1
        have hlt : b < w.heap.size := S.ltU b (S.own b ⟨e, o3, h3, hb1⟩)
        rcases (hv b hb2).1 with h | ⟨e0, o0, rfl, h4, h5⟩
        · omega
        · exact hne (by rw [S.sep e e0 o3 o0 b h3 h4 hb1 h5])
      · obtain ⟨_, o3, h3, _⟩ := hget e o1 hed h1
        obtain ⟨_, o4, h4, _⟩ := hget e' o2 hed' h2
        rw [hγ e hed] at hb1
        rw [hγ e' hed'] at hb2
        exact S.sep e e' o3 o4 b h3 h4 hb1 hb2
  · rintro b ⟨e, o', he, hb⟩
    by_cases hed : e = d
    · subst hed
      rw [upd_same] at hb
      exact .inr hb
    · obtain ⟨_, o1, h1, _⟩ := hget e o' hed he
      rw [hγ e hed] at hb
      exact .inl (S.own b ⟨e, o1, h1, hb⟩)
  · rintro b hV (hU | hb)
    · exact S.zone b hV hU
    · have := S.ltV b hV
      rcases (hv b hb).1 with h | h
      · omega
      · exact S.zone b hV (S.own b (hul b h))
  · rintro b (hU | hb)
    · exact Nat.lt_of_lt_of_le (S.ltU b hU) hw.size
    · exact (hv b hb).2
  · exact S.defs.mono (fun _ _ h => .inl h) (fun D hD => same_other hw (fun b h => live_cells S b (hul b h)) hD (by intro cs T fr e; cases e))
  · intro k n cs hk b hb
    by_cases h : d = k
    · subst h
      simp only [allocSt, get_put_same, Option.some.injEq] at hk
      cases o <;> simp only [objRef] at hk <;> cases hk
    · simp only [allocSt, get_put_ne h, get_mapv] at hk
      obtain ⟨u, hu, hk⟩ := Option.map_eq_some_iff.1 hk
      rw [kill_lit hk] at hu
      simp only [Act.put] at hb
      rw [getD_put_ne h] at hb
      exact .inl (S.lits k n cs hu b hb)

theorem Sim.write {d : Nat} {o o' : Obj} (S : Sim X γ U V st a w) (hd : get d st.objs = some o) (hw : Same (fun b => blk (γ d) = some b) w w')
    (ho : SimObj X.Y γ w' (Mut V γ st.objs) d o') : Sim X γ U V { st with objs := put d o' st.objs } a w' := by
  have hdl : ∀ b, blk (γ d) = some b → live γ st.objs b := fun b h => ⟨d, o, hd, h⟩
  have hwM : Same (Mut V γ st.objs) w w' := hw.mono (fun b _ h => .inr (hdl b h))
  have hget : ∀ e o1, get e (put d o' st.objs) = some o1 → ∃ o2, get e st.objs = some o2 := by
    intro e o1 h
    by_cases hed : d = e
    · subst hed; exact ⟨o, hd⟩
    · rw [get_put_ne hed] at h; exact ⟨o1, h⟩
  have hM : ∀ b, Mut V γ (put d o' st.objs) b → Mut V γ st.objs b := by
    rintro b (h | ⟨e, o1, h1, h2⟩)
    · exact .inl h
    · obtain ⟨o2, h3⟩ := hget e o1 h1
      exact .inr ⟨e, o2, h3, h2⟩
  have hM' : ∀ b, Mut V γ st.objs b → Mut V γ (put d o' st.objs) b := by
    rintro b (h | ⟨e, o1, h1, h2⟩)
    · exact .inl h
    · by_cases hed : d = e
      · subst hed; exact .inr ⟨d, o', get_put_same _ _ _, h2⟩
      · exact .inr ⟨e, o1, by rw [get_put_ne hed]; exact h1, h2⟩
  refine ⟨X.stable S.env (hw.mono (fun b _ h => S.own b (hdl b h))) (fun b hb => .inl hb), S.size, S.reg.mono hwM (fun b _ h => hM b h), S.outs.mono hwM (fun b _ h => hM b h), ?_, ?_, ?_, S.zone,
    fun b hb => Nat.lt_of_lt_of_le (S.ltU b hb) hw.size, fun b hb => Nat.lt_of_lt_of_le (S.ltV b hb) hw.size, ?_, S.lits, S.kept⟩
  · intro e o1 h
    by_cases hed : d = e
    · subst hed
      rw [get_put_same] at h
      obtain rfl := Option.some.inj h
      exact SimObj.mono ho (Same.refl _ _) (fun b _ h => hM b h) (fun _ _ => rfl)
    · rw [get_put_ne hed] at h
      have hs := S.obj e o1 h
      exact hs.mono hwM (fun b _ h => hM b h) (fun b hb => by
        refine hw.blk b (by obtain ⟨cs, T, fr, hh⟩ := hs.heap hb; exact (Array.getElem?_eq_some_iff.1 hh).1) (fun h5 => ?_)
        exact hed (S.sep d e o o1 b hd h h5 hb))
  · intro e e' o1 o2 b h1 h2 hb1 hb2
    obtain ⟨o3, h3⟩ := hget e o1 h1
    obtain ⟨o4, h4⟩ := hget e' o2 h2
    exact S.sep e e' o3 o4 b h3 h4 hb1 hb2
  · rintro b ⟨e, o1, h1, h2⟩
    obtain ⟨o3, h3⟩ := hget e o1 h1
    exact S.own b ⟨e, o3, h3, h2⟩
  · exact S.defs.mono (fun _ _ h => h) (fun D hD => same_other hw (fun b h => live_cells S b (hdl b h)) hD (by intro cs T fr e; cases e))
end Go.AE
