/- YtombondekjflaaaAhAppend: a part of the proof; see the last text for what is proved. -/
import Derived.Test.YtombondekjflaaaAhStore
set_option linter.unusedVariables false
set_option linter.unusedSimpArgs false
namespace Go.AE
open Go.RowKit

variable {P : Program}
section
variable {Y : Value} {γ : Nat → Value} {w : World} {M : Nat → Prop} {objs : List (Nat × Obj)} {regs : List (Nat × AV)} {a : Act}

theorem src_slice {k tx e' : Nat} (hk : P.underlying tx = some (.slice e')) {A : Option Addr} {m c : Nat} {xs : List Value} (hl : xs.length = m * k) (h1 : One xs)
    (hat : xs ≠ [] → ∃ ad, A = some ad ∧ ∀ j v, xs[j]? = some v → w.cell? (ad.add j) = some v) : Src P k tx (.slice A m c) m xs w := by
  have hc : ∀ w' : World, (∀ ad, A = some ad → ∀ j v, xs[j]? = some v → w'.cell? (ad.add j) = some v) → (Builtin.firstCells k m (.slice A m c)).run P w' = .ok xs.toArray w' := by
    intro w' hw
    cases A with
    | none =>
      have : xs = [] := by
        rcases List.eq_nil_or_concat xs with h | ⟨ys, y, h⟩
        · exact h
        · obtain ⟨ad, he, _⟩ := hat (by rw [h]; simp)
          cases he
      subst this
      exact run_firstCells_none w' k m m c
    | some ad => exact run_firstCells_some w' k m ad m c xs hl (hw ad rfl)
  have hr : ∀ ad, A = some ad → ∀ j v, xs[j]? = some v → w.cell? (ad.add j) = some v := by
    intro ad he j v hj
    obtain ⟨ad', he', h⟩ := hat (by intro e; subst e; simp at hj)
    rw [he] at he'
    cases he'
    exact h j v hj
  exact ⟨.inl ⟨e', hk⟩, fun _ => rfl, hc w hr, hc w.drew (fun ad he j v hj => by simpa using hr ad he j v hj), hl, h1⟩

theorem row_lies {d T sz n : Nat} {cs : List PV} (h : SimObj Y γ w M d (.row T sz n cs)) : ∃ A c xs, γ d = .slice A n c ∧ n ≤ c ∧ c ≤ maxLen ∧ cs.length = n * sz ∧ RPs w M cs xs ∧ One xs ∧
    (xs ≠ [] → ∃ ad, A = some ad ∧ ∀ j v, xs[j]? = some v → w.cell? (ad.add j) = some v) := by
  simp only [SimObj] at h
  obtain ⟨A, c, xs, hg, hnc, hcm, hlen, h1, h2, hh⟩ := h
  refine ⟨A, c, xs, hg, hnc, hcm, hlen, h1, h2, fun hne => ?_⟩
  have hc0 : 0 < c := by
    rcases Nat.eq_zero_or_pos c with h0 | h0
    · exfalso
      apply hne
      have := h1.length
      rw [hlen, show n = 0 by omega] at this
      simpa using this
    · exact h0
  obtain ⟨g, cur, rfl, hh, hcur, htk⟩ := hh hc0
  refine ⟨_, rfl, fun j v hj => ?_⟩
  have := block_cells (w := w) hh 0 j v
  apply this
  rw [← htk, List.getElem?_take] at hj
  split at hj
  · simpa using hj
  · cases hj

theorem srcA_sound (hγ : ∀ d o, get d objs = some o → SimObj Y γ w M d o) {k tx m : Nat} {x : AV} {cs : List PV} {v : Value} (h : srcA P objs k tx x = some (m, cs)) (hx : RA Y γ w M x v) :
    ∃ news, Src P k tx v m news w ∧ RPs w M cs news := by
  unfold srcA at h
  split at h
  · rename_i e' t m' cs' hu
    split at h
    · rename_i hl
      simp only [Option.some.injEq, Prod.mk.injEq] at h
      obtain ⟨rfl, rfl⟩ := h
      simp only [RA, RP] at hx
      obtain ⟨A, c, xs, rfl, _, _, _, h1, h2, hat⟩ := hx
      refine ⟨xs, src_slice hu (by rw [h1.length, hl]) h2 (fun hne => ?_), h1⟩
      obtain ⟨ad, he, _, hc⟩ := hat hne
      exact ⟨ad, he, hc⟩
    · cases h
  · rename_i e' d hu
    split at h
    · rename_i T sz m' cs' ho
      split at h
      · rename_i hl
        simp only [Option.some.injEq, Prod.mk.injEq] at h
        obtain ⟨rfl, rfl⟩ := h
        obtain ⟨A, c, xs, hg, _, _, _, h1, h2, hat⟩ := row_lies (hγ d _ ho)
        simp only [RA] at hx
        rw [hx, hg]
        exact ⟨xs, src_slice hu (by rw [h1.length, hl]) h2 hat, h1⟩
      · cases h
    · cases h
  · rename_i e' d off m' hu
    simp only [RA] at hx
    obtain ⟨A, c, rfl, hnc, hcm, hA, _⟩ := hx
    split at h
    · rename_i T sz n' cs' ho
      split at h
      · rename_i hl
        simp only [Option.some.injEq, Prod.mk.injEq] at h
        obtain ⟨rfl, rfl⟩ := h
        have hs := hγ d _ ho
        simp only [SimObj] at hs
        obtain ⟨A', c', xs, hg, _, _, hlen, h1, h2, hh⟩ := hs
        refine ⟨(xs.drop off).take (m' * k), src_slice hu (by simp [h1.length]; omega) ((h2.drop _).take _) (fun hne => ?_), (h1.drop off).take _⟩
        have hm0 : 0 < m' := by
          rcases Nat.eq_zero_or_pos m' with h0 | h0
          · subst h0; simp at hne
          · exact h0
        obtain ⟨b, hb, rfl⟩ := hA hm0
        rw [hg] at hb
        have hc0 : 0 < c' := by
          cases c' with
          | zero => cases A' <;> simp [blk] at hb
          | succ c => omega
        obtain ⟨g, cur, rfl, hh, hcur, htk⟩ := hh hc0
        have hbb : g = b := by
          obtain ⟨c'', rfl⟩ : ∃ c'', c' = c'' + 1 := ⟨c' - 1, by omega⟩
          simpa [blk] using hb
        subst hbb
        refine ⟨_, rfl, fun j v hj => ?_⟩
        apply block_cells (w := w) hh off j v
        rw [← htk] at hj
        simp only [List.getElem?_take, List.getElem?_drop] at hj ⊢
        split at hj
        · split at hj
          · exact hj
          · cases hj
        · cases hj
      · cases h
    · rename_i T cs' ho
      split at h
      · rename_i hl
        obtain ⟨ps, hps, he⟩ := Option.map_eq_some_iff.1 h
        simp only [Prod.mk.injEq] at he
        obtain ⟨rfl, rfl⟩ := he
        have hs := hγ d _ ho
        simp only [SimObj] at hs
        obtain ⟨b', xs, hg, hh, h1, h2⟩ := hs
        have h3 := toPs_sound _ ps _ hps ((h1.drop off).take (m' * k))
        refine ⟨(xs.drop off).take (m' * k), src_slice hu (by simp [h1.length]; omega) ((h2.drop _).take _) (fun hne => ?_), h3⟩
        have hm0 : 0 < m' := by
          rcases Nat.eq_zero_or_pos m' with h0 | h0
          · subst h0; simp at hne
          · exact h0
        obtain ⟨b, hb, rfl⟩ := hA hm0
        rw [hg] at hb
        simp only [blk, Option.some.injEq] at hb
        subst hb
        refine ⟨_, rfl, fun j v hj => ?_⟩
        apply block_cells (w := w) hh off j v
        rw [List.getElem?_take] at hj
        split at hj
        · simpa using hj
        · cases hj
      · cases h
    · cases h
  · rename_i b hu
    split at h
    · rename_i hk
      subst hk
      simp only [Option.some.injEq, Prod.mk.injEq] at h
      obtain ⟨rfl, rfl⟩ := h
      simp only [RA, RP] at hx
      subst hx
      refine ⟨byteCells b, Src.ofString w hu b, ?_⟩
      unfold byteCells
      generalize b.data.toList = l
      induction l with
      | nil => simp [RPs]
      | cons c l ih => simp only [List.map_cons, RPs, RP]; exact ⟨_, _, rfl, rfl, ih⟩
    · cases h
  · cases h

theorem baseA_sound (hγ : ∀ d o, get d objs = some o → SimObj Y γ w M d o) {e k m n : Nat} {s : AV} {d0 : Option Nat} {cs : List PV} {v : Value} (h : baseA objs k m s = some (d0, n, cs)) (hT : baseT objs e k d0 = true) (hx : RA Y γ w M s v) :
    ∃ A c xs, v = .slice A n c ∧ n ≤ c ∧ c ≤ maxLen ∧ cs.length = n * k ∧ RPs w M cs xs ∧ One xs ∧ (xs ≠ [] → ∃ ad, A = some ad ∧ ∀ j v, xs[j]? = some v → w.cell? (ad.add j) = some v) ∧
      ((d0 = none ∧ c = n ∧ (n = 0 ∨ 0 < m)) ∨ ∃ d, d0 = some d ∧ γ d = v ∧ (0 < c → ∃ (g : Nat) (cur : Array Value), A = some ⟨g, 0, none⟩ ∧ w.heap[g]? = some (.cells cur e (0, 0)) ∧ cur.size = c * k ∧ cur.toList.take (n * k) = xs)) := by
  have ro : ∀ {t : Tag} {n' : Nat} {cs' : List PV}, RA Y γ w M (.p (.sl t n' cs')) v → (t = .full ∨ t = .tight) → cs'.length = n' * k ∧ (n' = 0 ∨ 0 < m) → d0 = none → n' = n → cs' = cs →
      ∃ A c xs, v = .slice A n c ∧ n ≤ c ∧ c ≤ maxLen ∧ cs.length = n * k ∧ RPs w M cs xs ∧ One xs ∧ (xs ≠ [] → ∃ ad, A = some ad ∧ ∀ j v, xs[j]? = some v → w.cell? (ad.add j) = some v) ∧
      ((d0 = none ∧ c = n ∧ (n = 0 ∨ 0 < m)) ∨ ∃ d, d0 = some d ∧ γ d = v ∧ (0 < c → ∃ (g : Nat) (cur : Array Value), A = some ⟨g, 0, none⟩ ∧ w.heap[g]? = some (.cells cur e (0, 0)) ∧ cur.size = c * k ∧ cur.toList.take (n * k) = xs)) := by
    intro t n' cs' hx ht hl h0 hn hc
    subst hn; subst hc
    simp only [RA, RP] at hx
    obtain ⟨A, c, xs, rfl, htag, h1, h2, h3, h4, hat⟩ := hx
    refine ⟨A, c, xs, rfl, h1, h2, hl.1, h3, h4, fun hne => ?_, .inl ⟨h0, ?_, hl.2⟩⟩
    · obtain ⟨ad, he, _, hc⟩ := hat hne
      exact ⟨ad, he, hc⟩
    · rcases ht with rfl | rfl <;> simp only [TagOk] at htag
      · exact htag
      · exact htag.2
  unfold baseA at h
  split at h
  · simp only [Option.some.injEq, Prod.mk.injEq] at h
    obtain ⟨rfl, rfl, rfl⟩ := h
    simp only [RA, RP] at hx
    obtain ⟨A, c, xs, rfl, ⟨rfl, _, rfl⟩, h1, h2, h3, h4, hat⟩ := hx
    simp only [RPs] at h3
    subst h3
    exact ⟨none, 0, [], rfl, Nat.le_refl _, Nat.zero_le _, by simp, by simp [RPs], h4, by simp, .inl ⟨rfl, rfl, .inl rfl⟩⟩
  · split at h
    · rename_i hl
      simp only [Option.some.injEq, Prod.mk.injEq] at h
      exact ro hx (.inl rfl) hl h.1.symm h.2.1 h.2.2
    · cases h
  · split at h
    · rename_i hl
      simp only [Option.some.injEq, Prod.mk.injEq] at h
      exact ro hx (.inr rfl) hl h.1.symm h.2.1 h.2.2
    · cases h
  · rename_i d
    split at h
    · rename_i T sz n' cs' ho
      simp only [Option.some.injEq, Prod.mk.injEq] at h
      obtain ⟨rfl, rfl, rfl⟩ := h
      simp only [baseT, ho, decide_eq_true_eq] at hT
      obtain ⟨rfl, rfl⟩ := hT
      have hs := hγ d _ ho
      obtain ⟨A0, c0, xs0, hg0, _, _, _, h10, h20, hat⟩ := row_lies hs
      simp only [SimObj] at hs
      obtain ⟨A, c, xs, hg, hnc, hcm, hlen, h1, h2, hh⟩ := hs
      simp only [RA] at hx
      refine ⟨A, c, xs, by rw [hx, hg], hnc, hcm, hlen, h1, h2, fun hne => ?_, .inr ⟨d, rfl, hx.symm, hh⟩⟩
      have hc0 : 0 < c := by
        rcases Nat.eq_zero_or_pos c with h0 | h0
        · exfalso
          apply hne
          have := h1.length
          rw [hlen, show n' = 0 by omega] at this
          simpa using this
        · exact h0
      obtain ⟨g, cur, rfl, hh, hcur, htk⟩ := hh hc0
      refine ⟨_, rfl, fun j v hj => ?_⟩
      apply block_cells (w := w) hh 0 j v
      rw [← htk, List.getElem?_take] at hj
      split at hj
      · simpa using hj
      · cases hj
    · cases h
  · cases h

theorem appendO0_sound (hγ : ∀ d o, get d objs = some o → SimObj Y γ w M d o) (S : RegsG Y γ w M regs a.tmps) (hM : ∀ d o b, get d objs = some o → blk (γ d) = some b → M b) {o : Oper} {d0 : Option Nat} {ob : Obj}
    (h : appendO0 P regs objs o.op = some (d0, ob)) (d : Nat) :
    ∃ v w', (execOp a.eval o).run P w = .ok (.value v) w' ∧ Same (fun b => ∃ e o0, d0 = some e ∧ get e objs = some o0 ∧ blk (γ e) = some b) w w' ∧
      (∀ b, blk v = some b → (w.heap.size ≤ b ∨ ∃ e o0, d0 = some e ∧ get e objs = some o0 ∧ blk (γ e) = some b) ∧ b < w'.heap.size) ∧
      ∀ M', (∀ b, b < w.heap.size → M' b → M b) → SimObj Y (upd γ d v) w' M' d ob := by
  obtain ⟨dst, op, type, pos, after, guard⟩ := o
  cases op <;> simp only [appendO0] at h <;> first | (cases h; done) | skip
  case call c =>
    obtain ⟨callee, args, ts⟩ := c
    simp only at h
    split at h
    · rename_i s x t tx hargs hts
      split at h
      · rename_i e hu
        split at h
        · rename_i zs by_ hz hb
          split at h
          · rename_i m ys hsrc
            split at h
            · rename_i d0' n cs hbase
              split at h
              · rename_i hcond
                simp only [Option.some.injEq, Prod.mk.injEq] at h
                obtain ⟨rfl, rfl⟩ := h
                obtain ⟨i, z, hi, hzz, hzc, hone, hlen⟩ := zeroC_sound hz
                have hib : i.bytes = by_ := by unfold bytes? at hb; rw [hi] at hb; simpa using hb
                have hxs := evs_sound hargs S
                simp only [RAs] at hxs
                obtain ⟨sv, _, he1, hs, xv, _, rfl, hx, rfl⟩ := hxs
                obtain ⟨news, hsrc', hnews⟩ := srcA_sound hγ hsrc hx
                obtain ⟨A, c, olds, rfl, hnc, hcm, hcl, hold, holdone, holdat, hkind⟩ := baseA_sound hγ hbase hcond.1 hs
                rw [hlen] at hsrc'
                have hargs' : args.map a.eval = #[.slice A n c, xv] := by
                  have : (args.toList.map a.eval).toArray = #[.slice A n c, xv] := by rw [he1]
                  rw [← this, ← Array.toList_map]
                have hts' : ts = #[t, tx] := by
                  have : ts.toList.toArray = #[t, tx] := by rw [hts]
                  simpa using this
                have hexec : ∀ v w', (Builtin.append_ #[t, tx] type #[.slice A n c, xv]).run P w = .ok v w' →
                    (execOp a.eval { dst := dst, op := .call { callee := .builtin .append, args := args, argTypes := ts }, type := type, pos := pos, after := after, guard := guard }).run P w = .ok (.value v) w' := by
                  intro v w' hr
                  simp only [execOp, resolve, Sem.run_bind, Sem.run_pure, Result.andThen_ok, invoke, builtin, hargs', hts', hr]
                have hnl := hsrc'.newsLen
                have hol : olds.length = n * i.size := by rw [hold.length, hcl, hlen]
                have hcat : RPs w M (cs ++ ys) (olds ++ news) := hold.append hnews
                have hcatone : One (olds ++ news) := holdone.append hsrc'.one
                have hcatlen : (cs ++ ys).length = (n + m) * zs.length := by rw [← hcat.length, List.length_append, hol, hnl, ← Nat.add_mul, hlen]
                by_cases hroom : n + m ≤ c
                · by_cases hc0 : c = 0
                  · -- nothing is there, nothing comes
                    have hn0 : n = 0 := by omega
                    have hm0 : m = 0 := by omega
                    subst hn0; subst hm0; subst hc0
                    have hnews0 : news = [] := by simpa using hnl
                    subst hnews0
                    have holds0 : olds = [] := by simpa using hol
                    subst holds0
                    have hr : (Builtin.append_ #[t, tx] type #[.slice A 0 0, xv]).run P w = .ok (.slice A 0 0) w := by
                      rcases hsrc'.kind with ⟨e', hk⟩ | hk <;> cases A <;> simp [Builtin.append_, run_underlying hu, run_underlying hk, sizeOf, typeInfo, hi, hsrc'.len, hsrc'.cells, storeCells]
                    refine ⟨_, w, hexec _ _ hr, Same.refl _ _, fun b hb => by cases A <;> simp [blk] at hb, fun M' hM' => ?_⟩
                    simp only [SimObj, upd_same]
                    exact ⟨A, 0, [], rfl, Nat.le_refl _, Nat.zero_le _, by simpa using hcatlen, RPs.mono (Same.refl M w) hM' _ _ (by simpa using hcat), by simp [One], fun h => absurd h (by omega)⟩
                  · rcases hkind with ⟨_, hcn, hnm⟩ | ⟨d1, rfl, hg, hblk⟩
                    · omega
                    · obtain ⟨g, cur, rfl, hh, hcur, htk⟩ := hblk (by omega)
                      rw [hlen] at hcur htk
                      have hle : n * i.size + news.length ≤ cur.size := by rw [hnl, hcur, ← Nat.add_mul]; exact Nat.mul_le_mul_right _ hroom
                      have hst := run_storeCells_at P g (n * i.size) e news 0 cur w hh (by simpa using hle) hsrc'.one
                      generalize hN : (List.take (n * i.size + 0) cur.toList ++ news ++ List.drop (n * i.size + 0 + news.length) cur.toList).toArray = N at hst
                      have hr : (Builtin.append_ #[t, tx] type #[.slice (some ⟨g, 0, none⟩) n c, xv]).run P w = .ok (.slice (some ⟨g, 0, none⟩) (n + m) c) (w.setRow g N) := by
                        rcases hsrc'.kind with ⟨e', hk⟩ | hk <;> simp [Builtin.append_, run_underlying hu, run_underlying hk, sizeOf, typeInfo, hi, hsrc'.len, hroom, hsrc'.cells, Addr.add_lit, hst]
                      obtain ⟨c', rfl⟩ : ∃ c', c = c' + 1 := ⟨c - 1, by omega⟩
                      have hdo : ∃ o0, get d1 objs = some o0 := by
                        have := hcond.1
                        simp only [baseT] at this
                        split at this
                        · rename_i e1 s1 n1 cs1 ho; exact ⟨_, ho⟩
                        · cases this
                      obtain ⟨o0, ho0⟩ := hdo
                      have hbg : blk (γ d1) = some g := by rw [hg]; rfl
                      refine ⟨_, _, hexec _ _ hr, same_setRow w g N ⟨d1, o0, rfl, ho0, hbg⟩, fun b hb => ?_, fun M' hM' => ?_⟩
                      · simp only [blk, Option.some.injEq] at hb
                        subst hb
                        exact ⟨.inr ⟨d1, o0, rfl, ho0, hbg⟩, by rw [size_setRow]; exact (Array.getElem?_eq_some_iff.1 hh).1⟩
                      · simp only [SimObj, upd_same]
                        refine ⟨_, c' + 1, olds ++ news, rfl, hroom, hcm, hcatlen, RPs.mono (same_setRow w g N (hM d1 o0 g ho0 hbg)) hM' _ _ hcat, hcatone, fun _ => ⟨g, N, rfl, setRow_heap w g _ N e _ hh, ?_, ?_⟩⟩
                        · rw [← hN, hlen]; simp; omega
                        · rw [← hN, hlen]
                          simp only [Nat.add_zero, htk]
                          have : (n + m) * i.size = (olds ++ news).length := by rw [List.length_append, hol, hnl, Nat.add_mul]
                          rw [this, List.toList_toArray]
                          exact List.take_left
                · -- a new row
                  have hm63 : n + m ≤ maxLen := hcond.2.2
                  have hmx : ((n + m : Nat) : Int) ≤ 9223372036854775807 := by simp only [maxLen] at hm63; omega
                  have hsl := src_slice (P := P) (w := w) (k := i.size) (tx := t) hu (A := A) (m := n) (c := c) hol holdone holdat
                  have hr := run_append_grow_src (P := P) w t tx type e i z hu hi hzz A n c olds hsl.cellsD xv m news hsrc' (by omega) hmx (growslice_fits (by omega) (by rw [hib]; exact hcond.2.1))
                  have hge := grownCap_ge w (n + m) c e
                  have hcm' := grownCap_le_maxLen w (n + m) c e hm63
                  have hpos : 0 < grownCap w (n + m) c e := by omega
                  obtain ⟨q, hq⟩ : ∃ q, grownCap w (n + m) c e = q + 1 := ⟨_, (Nat.sub_add_cancel hpos).symm⟩
                  have hsame : ∀ M : Nat → Prop, Same M w (w.drew.alloc (.cells ((olds ++ news).toArray ++ Builtin.zeroCells z.cells (grownCap w (n + m) c e - (n + m))) e)) := fun M =>
                    (Same.drew M w).trans (Same.alloc M w.drew _) (fun _ _ h => h)
                  refine ⟨_, _, hexec _ _ hr, hsame _, fun b hb => ?_, fun M' hM' => ?_⟩
                  · rw [hq] at hb
                    simp only [blk, Option.some.injEq] at hb
                    subst hb
                    exact ⟨.inl (Nat.le_refl _), by simp⟩
                  · simp only [SimObj, upd_same]
                    refine ⟨_, _, olds ++ news, rfl, hge, hcm', hcatlen, RPs.mono (hsame M) hM' _ _ hcat, hcatone, fun _ => ⟨w.heap.size, _, rfl, heap_new w.drew _, ?_, ?_⟩⟩
                    · simp only [Array.size_append, List.size_toArray, List.length_append, size_zeroCells, hzc, hol, hnl, hlen]
                      rw [← Nat.add_mul, ← Nat.add_mul]
                      congr 1
                      omega
                    · simp only [Array.toList_append, List.toList_toArray]
                      have : (n + m) * zs.length = (olds ++ news).length := by rw [List.length_append, hol, hnl, hlen, Nat.add_mul]
                      rw [this]
                      exact List.take_left
              · cases h
            · cases h
          · cases h
        · cases h
      · cases h
    · cases h

theorem zeroCells_eq (zs : List Value) (n : Nat) : Builtin.zeroCells zs.toArray n = madeCells zs.toArray (n * zs.length) := by
  unfold Builtin.zeroCells madeCells
  simp

theorem run_append_zeros (t tx ty e : TypeId) (i : TypeInfo) (z : Value) (ik kk : IntKind) (ht : P.underlying t = some (.slice e)) (hx : P.underlying tx = some (.int kk)) (hi : P.info? e = some i) (hz : i.zero = some z) (l : Nat) (hl : 0 < l)
    (hs : 0 < i.size) (h63 : (l : Int) ≤ 9223372036854775807) (hfit : Builtin.nextslicecap l 0 * i.bytes ≤ 281474976710656) (hlb : l * i.bytes ≤ 281474976710656) :
    (Builtin.append_ #[t, tx] ty #[.slice none 0 0, .int .i64 (l : Int)]).run P w =
      .ok (.slice (some ⟨w.heap.size, 0, none⟩) l (grownCap w l 0 e)) (w.drew.alloc (.cells (Builtin.zeroCells z.cells l ++ Builtin.zeroCells z.cells (grownCap w l 0 e - l)) e)) := by
  have hw : IntKind.i64.wrap (l : Int) = l := by rw [IntKind.wrap_i64]; omega
  have h0 : ¬ ((l : Int) < 0) := by omega
  have h63' : ¬ (9223372036854775807 < (l : Int)) := by omega
  have h48 : ¬ (281474976710656 < Builtin.nextslicecap l 0 * i.bytes) := by omega
  have h48' : ¬ ((281474976710656 : Int) < (l : Int) * (i.bytes : Int)) := by
    rw [← Int.natCast_mul]; omega
  have hn : ¬ (l ≤ 0) := by omega
  have hne : ¬ (l * i.size = 0) := fun h => by rcases Nat.mul_eq_zero.1 h with h | h <;> omega
  have hne1 : ¬ l = 0 := by omega
  have hne2 : ¬ i.size = 0 := by omega
  simp [Builtin.append_, run_underlying ht, run_underlying hx, sizeOf, typeInfo, zeroValue, hi, hz, asInt, asIntOf, hw, hn, h63', h0, h48, h48', hne1, hne2, Question.forced, newRow, grownCap, Builtin.firstCells]
  exact fun h => absurd h hne

theorem appendZ_sound (S : RegsG Y γ w M regs a.tmps) {o : Oper} {d0 : Option Nat} {ob : Obj} (h : appendZ P regs o.op = some (d0, ob)) (d : Nat) :
    ∃ v w', (execOp a.eval o).run P w = .ok (.value v) w' ∧ Same (fun b => ∃ e o0, d0 = some e ∧ get e objs = some o0 ∧ blk (γ e) = some b) w w' ∧
      (∀ b, blk v = some b → (w.heap.size ≤ b ∨ ∃ e o0, d0 = some e ∧ get e objs = some o0 ∧ blk (γ e) = some b) ∧ b < w'.heap.size) ∧
      ∀ M', (∀ b, b < w.heap.size → M' b → M b) → SimObj Y (upd γ d v) w' M' d ob := by
  obtain ⟨dst, op, type, pos, after, guard⟩ := o
  cases op <;> simp only [appendZ] at h <;> first | (cases h; done) | skip
  case call c =>
    obtain ⟨callee, args, ts⟩ := c
    simp only at h
    split at h
    · rename_i l t tx hargs hts
      split at h
      · rename_i e kk hu hux
        split at h
        · rename_i zs by_ hz hb
          split at h
          · rename_i hcond
            simp only [Option.some.injEq, Prod.mk.injEq] at h
            obtain ⟨rfl, rfl⟩ := h
            obtain ⟨i, z, hi, hzz, hzc, hone, hlen⟩ := zeroC_sound hz
            have hib : i.bytes = by_ := by unfold bytes? at hb; rw [hi] at hb; simpa using hb
            have hxs := evs_sound hargs S
            simp only [RAs, RA, RP, TagOk] at hxs
            obtain ⟨sv, _, he1, ⟨A, c, xs, rfl, ⟨rfl, _, rfl⟩, _⟩, xv, _, rfl, rfl, rfl⟩ := hxs
            obtain ⟨m, rfl⟩ : ∃ m : Nat, l = m := ⟨l.toNat, by omega⟩
            simp only [Int.toNat_natCast] at hcond ⊢
            have hargs' : args.map a.eval = #[.slice none 0 0, .int .i64 (m : Int)] := by
              have : (args.toList.map a.eval).toArray = #[.slice none 0 0, .int .i64 (m : Int)] := by rw [he1]
              rw [← this, ← Array.toList_map]
            have hts' : ts = #[t, tx] := by
              have : ts.toList.toArray = #[t, tx] := by rw [hts]
              simpa using this
            have hexec : ∀ v w', (Builtin.append_ #[t, tx] type #[.slice none 0 0, .int .i64 (m : Int)]).run P w = .ok v w' →
                (execOp a.eval { dst := dst, op := .call { callee := .builtin .append, args := args, argTypes := ts }, type := type, pos := pos, after := after, guard := guard }).run P w = .ok (.value v) w' := by
              intro v w' hr
              simp only [execOp, resolve, Sem.run_bind, Sem.run_pure, Result.andThen_ok, invoke, builtin, hargs', hts', hr]
            have hzl : ∀ n, n * zs.length ≠ 0 → zs ≠ [] := fun n hn e => hn (by subst e; simp)
            by_cases hm0 : m = 0
            · subst hm0
              have hr : (Builtin.append_ #[t, tx] type #[.slice none 0 0, .int .i64 ((0 : Nat) : Int)]).run P w = .ok (.slice none 0 0) w := by
                have hw : IntKind.i64.wrap (0 : Int) = 0 := by decide
                simp [Builtin.append_, run_underlying hu, run_underlying hux, sizeOf, typeInfo, hi, asInt, asIntOf, hw]
              refine ⟨_, w, hexec _ _ hr, Same.refl _ _, fun b hb => by simp [blk] at hb, fun M' hM' => ?_⟩
              simp only [SimObj, upd_same]
              exact ⟨none, 0, [], rfl, Nat.le_refl _, Nat.zero_le _, repZ_length _ _, by rw [repZ_list]; simp [RPs], by simp [One], fun h => absurd h (by omega)⟩
            · have hm63 : m ≤ maxLen := hcond.2.2.2
              have hmx : (m : Int) ≤ 9223372036854775807 := by simp only [maxLen] at hm63; omega
              have hr := run_append_zeros (P := P) (w := w) t tx type e i z .i64 kk hu hux hi hzz m (by omega) (by rw [← hlen]; exact hcond.1) hmx (growslice_fits (by omega) (by rw [hib]; exact hcond.2.2.1)) (by rw [hib]; omega)
              have hge := grownCap_ge w m 0 e
              have hcm' := grownCap_le_maxLen w m 0 e hm63
              obtain ⟨q, hq⟩ : ∃ q, grownCap w m 0 e = q + 1 := ⟨_, (Nat.sub_add_cancel (by omega : 0 < grownCap w m 0 e)).symm⟩
              have hsame : ∀ M : Nat → Prop, Same M w (w.drew.alloc (.cells (Builtin.zeroCells z.cells m ++ Builtin.zeroCells z.cells (grownCap w m 0 e - m)) e)) := fun M =>
                (Same.drew M w).trans (Same.alloc M w.drew _) (fun _ _ h => h)
              refine ⟨_, _, hexec _ _ hr, hsame _, fun b hb => ?_, fun M' hM' => ?_⟩
              · rw [hq] at hb
                simp only [blk, Option.some.injEq] at hb
                subst hb
                exact ⟨.inl (Nat.le_refl _), by simp⟩
              · simp only [SimObj, upd_same]
                refine ⟨_, _, (List.range (m * zs.length)).map fun i => zs.getD (i % zs.length) undef, rfl, hge, hcm', repZ_length _ _, RPs_repZ _ _, One_made hone _ (hzl _), fun _ => ⟨w.heap.size, _, rfl, heap_new w.drew _, ?_, ?_⟩⟩
                · simp only [Array.size_append, size_zeroCells, hzc, List.size_toArray]
                  rw [← Nat.add_mul]
                  congr 1
                  omega
                · rw [Array.toList_append, hzc, zeroCells_eq, madeCells_list _ _ (hzl _)]
                  rw [List.take_append_of_le_length (by simp), List.take_of_length_le (by simp)]
          · cases h
        · cases h
      · cases h
    · cases h

theorem appendO_sound (hγ : ∀ d o, get d objs = some o → SimObj Y γ w M d o) (S : RegsG Y γ w M regs a.tmps) (hM : ∀ d o b, get d objs = some o → blk (γ d) = some b → M b) {o : Oper} {d0 : Option Nat} {ob : Obj}
    (h : appendO P regs objs o.op = some (d0, ob)) (d : Nat) :
    ∃ v w', (execOp a.eval o).run P w = .ok (.value v) w' ∧ Same (fun b => ∃ e o0, d0 = some e ∧ get e objs = some o0 ∧ blk (γ e) = some b) w w' ∧
      (∀ b, blk v = some b → (w.heap.size ≤ b ∨ ∃ e o0, d0 = some e ∧ get e objs = some o0 ∧ blk (γ e) = some b) ∧ b < w'.heap.size) ∧
      ∀ M', (∀ b, b < w.heap.size → M' b → M b) → SimObj Y (upd γ d v) w' M' d ob := by
  unfold appendO at h
  split at h
  · rename_i r hr
    obtain rfl := Option.some.inj h
    exact appendZ_sound S hr d
  · exact appendO0_sound hγ S hM h d
end
end Go.AE
