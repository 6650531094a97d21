/- YtombondekjflaaaAhStep: a part of the proof; see the last text for what is proved. -/
import Derived.Test.YtombondekjflaaaAhLit
set_option linter.unusedVariables false
set_option linter.unusedSimpArgs false
namespace Go.AE
open Go.RowKit

variable {P : Program}

def contentA (objs : List (Nat × Obj)) (k : Nat) (x : AV) : Option (Nat × List PV) :=
  match x with
  | .p (.sl _ m cs) => if cs.length = m * k then some (m, cs) else none
  | .own d =>
    match get d objs with
    | some (.row _ _ m cs) => if cs.length = m * k then some (m, cs) else none
    | _ => none
  | .sub d off m =>
    match get d objs with
    | some (.row _ _ _ cs) => if off + m * k ≤ cs.length then some (m, (cs.drop off).take (m * k)) else none
    | some (.box _ cs) => if off + m * k ≤ cs.length then (AV.toPs ((cs.drop off).take (m * k))).map fun ps => (m, ps) else none
    | none => none
  | _ => none

def copyO (P : Program) (regs : List (Nat × AV)) (objs : List (Nat × Obj)) (op : Go.Op) : Option (Nat × Obj × Nat) :=
  match op with
  | .call c =>
    match c.callee, evs regs c.args.toList, c.argTypes.toList with
    | .builtin .copy, some [.own d, x], [t, tx] =>
      match P.underlying t with
      | some (.slice e) =>
        match size? P e, get d objs with
        | some k, some (.row e' sz n cs) =>
          match contentA objs k x with
          | some (m, xs) => if sz = k then some (d, .row e' sz n (setL 0 (xs.take (min m n * k)) cs), min m n) else none
          | none => none
        | _, _ => none
      | _ => none
    | .builtin .copy, some [.sub d off n, x], [t, tx] =>
      match P.underlying t with
      | some (.slice e) =>
        match size? P e, get d objs with
        | some k, some (.row e' sz N cs) =>
          match contentA objs k x with
          | some (m, xs) => if sz = k ∧ 0 < n ∧ off + n * k ≤ N * k then some (d, .row e' sz N (setL off (xs.take (min m n * k)) cs), min m n) else none
          | none => none
        | _, _ => none
      | _ => none
    | _, _, _ => none
  | _ => none

def noLit : AV → AV
  | .lit n cs => .p (.sl .nn n cs)
  | x => x
theorem noLit_isLit (v : AV) : (noLit v).isLit = false := by cases v <;> rfl
theorem RA_noLit {Y : Value} {γ : Nat → Value} {w : World} {M : Nat → Prop} {v : AV} {u : Value} (h : RA Y γ w M v u) : RA Y γ w M (noLit v) u := by
  cases v <;> exact h

def convO (P : Program) (regs : List (Nat × AV)) (objs : List (Nat × Obj)) (op : Go.Op) : Option (Nat × Nat × List PV) :=
  match op with
  | .convert src dst x =>
    match ev regs x with
    | some (.own p) =>
      if src = dst then
        match P.underlying src, get p objs with
        | some (.slice e), some (.row _ _ n cs) =>
          match P.underlying e with
          | some (.int .u8) => if 0 < n then some (p, n, cs) else none
          | _ => none
        | _, _ => none
      else none
    | _ => none
  | _ => none

def stepO (P : Program) (n : Nat) (o : Oper) (st : St) : Option St :=
  match o.dst with
  | some d =>
    if d < n then
      match o.op with
      | .build T parts => (buildA P st.regs st.objs T parts.toList).map fun v => { st with regs := put d (noLit v) st.regs }
      | .alloc T => (allocO P st.regs st.objs (.alloc T)).map fun ob => allocSt d none (ob.kill d) st
      | .box T x => (allocO P st.regs st.objs (.box T x)).map fun ob => allocSt d none (ob.kill d) st
      | .makeSlice T l c => (allocO P st.regs st.objs (.makeSlice T l c)).map fun ob => allocSt d none (ob.kill d) st
      | .buildSlice T l ps => (allocO P st.regs st.objs (.buildSlice T l ps)).map fun ob => allocSt d none (ob.kill d) st
      | .call c =>
        match c.callee with
        | .builtin .append => (appendO P st.regs st.objs (.call c)).map fun r => allocSt d r.1 r.2 st
        | .builtin .copy => (copyO P st.regs st.objs (.call c)).map fun r => { st with regs := put d (.p (.s (.int .i64 (Int.ofNat r.2.2)))) st.regs, objs := put r.1 r.2.1 st.objs }
        | _ => (pureO P st.regs st.objs (.call c)).map fun v => { st with regs := put d (noLit v) st.regs }
      | op =>
        match convO P st.regs st.objs op with
        | some (p, n, cs) => some { st with regs := put d (.p (.sl .nn n cs)) st.regs, objs := del p st.objs }
        | none => (pureO P st.regs st.objs op).map fun v => { st with regs := put d (noLit v) st.regs }
    else none
  | none =>
    match o.op with
    | .store T x v => (storeO P st.regs st.objs (.store T x v)).map fun r => { st with objs := put r.1 r.2 st.objs }
    | _ => none

section
variable {Y : Value} {γ : Nat → Value} {w : World} {M : Nat → Prop} {objs : List (Nat × Obj)} {regs : List (Nat × AV)} {a : Act}

theorem contentA_sound (hγ : ∀ d o, get d objs = some o → SimObj Y γ w M d o) {k m : Nat} {x : AV} {cs : List PV} {v : Value} (h : contentA objs k x = some (m, cs)) (hx : RA Y γ w M x v) :
    ∃ A c xs, v = .slice A m c ∧ m ≤ c ∧ c ≤ maxLen ∧ cs.length = m * k ∧ RPs w M cs xs ∧ One xs ∧ (xs ≠ [] → ∃ ad, A = some ad ∧ ∀ j v, xs[j]? = some v → w.cell? (ad.add j) = some v) := by
  unfold contentA at h
  split at h
  · split at h
    · rename_i hl
      simp only [Option.some.injEq, Prod.mk.injEq] at h
      obtain ⟨rfl, rfl⟩ := h
      simp only [RA, RP] at hx
      obtain ⟨A, c, xs, rfl, _, hnc, hcm, h1, h2, hat⟩ := hx
      refine ⟨A, c, xs, rfl, hnc, hcm, hl, h1, h2, fun hne => ?_⟩
      obtain ⟨ad, he, _, hc⟩ := hat hne
      exact ⟨ad, he, hc⟩
    · cases h
  · rename_i d
    split at h
    · rename_i T sz m' cs' ho
      split at h
      · rename_i hl
        simp only [Option.some.injEq, Prod.mk.injEq] at h
        obtain ⟨rfl, rfl⟩ := h
        obtain ⟨A, c, xs, hg, hnc, hcm, _, h1, h2, hat⟩ := row_lies (hγ d _ ho)
        simp only [RA] at hx
        exact ⟨A, c, xs, hx.trans hg, hnc, hcm, hl, h1, h2, hat⟩
      · cases h
    · cases h
  · rename_i d off m'
    simp only [RA] at hx
    obtain ⟨A, c, rfl, hnc, hcm, hA, _⟩ := hx
    split at h
    · rename_i T sz n' cs' ho
      split at h
      · rename_i hl
        simp only [Option.some.injEq, Prod.mk.injEq] at h
        obtain ⟨rfl, rfl⟩ := h
        have hs := hγ d _ ho
        simp only [SimObj] at hs
        obtain ⟨A', c', xs, hg, _, _, hlen, h1, h2, hh⟩ := hs
        refine ⟨A, c, (xs.drop off).take (m' * k), rfl, hnc, hcm, by simp; omega, (h1.drop off).take _, (h2.drop _).take _, fun hne => ?_⟩
        have hm0 : 0 < m' := by
          rcases Nat.eq_zero_or_pos m' with h0 | h0
          · subst h0; simp at hne
          · exact h0
        obtain ⟨b, hb, rfl⟩ := hA hm0
        rw [hg] at hb
        have hc0 : 0 < c' := by
          cases c' with
          | zero => cases A' <;> simp [blk] at hb
          | succ c => omega
        obtain ⟨g, cur, rfl, hh, hcur, htk⟩ := hh hc0
        have hbb : g = b := by
          obtain ⟨c'', rfl⟩ : ∃ c'', c' = c'' + 1 := ⟨c' - 1, by omega⟩
          simpa [blk] using hb
        subst hbb
        refine ⟨_, rfl, fun j v hj => ?_⟩
        apply block_cells (w := w) hh off j v
        rw [← htk] at hj
        simp only [List.getElem?_take, List.getElem?_drop] at hj ⊢
        split at hj
        · split at hj
          · exact hj
          · cases hj
        · cases hj
      · cases h
    · rename_i T cs' ho
      split at h
      · rename_i hl
        obtain ⟨ps, hps, he⟩ := Option.map_eq_some_iff.1 h
        simp only [Prod.mk.injEq] at he
        obtain ⟨rfl, rfl⟩ := he
        have hs := hγ d _ ho
        simp only [SimObj] at hs
        obtain ⟨b', xs, hg, hh, h1, h2⟩ := hs
        have h3 := toPs_sound _ ps _ hps ((h1.drop off).take (m' * k))
        refine ⟨A, c, (xs.drop off).take (m' * k), rfl, hnc, hcm, by rw [← h3.length]; simp [h1.length]; omega, h3, (h2.drop _).take _, fun hne => ?_⟩
        have hm0 : 0 < m' := by
          rcases Nat.eq_zero_or_pos m' with h0 | h0
          · subst h0; simp at hne
          · exact h0
        obtain ⟨b, hb, rfl⟩ := hA hm0
        rw [hg] at hb
        simp only [blk, Option.some.injEq] at hb
        subst hb
        refine ⟨_, rfl, fun j v hj => ?_⟩
        apply block_cells (w := w) hh off j v
        rw [List.getElem?_take] at hj
        split at hj
        · simpa using hj
        · cases hj
      · cases h
    · cases h
  · cases h

theorem row_setL {n k c : Nat} {cur : Array Value} {xs us : List Value} (hcur : cur.size = c * k) (hnc : n ≤ c) (htk : cur.toList.take (n * k) = xs) (hu : us.length ≤ n * k) :
    ((cur.toList.take 0 ++ us ++ cur.toList.drop (0 + us.length)).toArray).toList.take (n * k) = setL 0 us xs := by
  have hnk : n * k ≤ c * k := Nat.mul_le_mul_right _ hnc
  have hcl : cur.toList.length = c * k := by simpa using hcur
  have hxl : xs.length = n * k := by rw [← htk]; simp; omega
  rw [setL_eq _ _ _ (by rw [hxl]; omega), ← htk]
  apply List.ext_getElem?
  intro j
  simp only [List.append_assoc, List.getElem?_take, List.getElem?_append, List.length_take, List.getElem?_drop, List.toList_toArray]
  by_cases hj : j < n * k
  · simp only [hj, if_true, Nat.zero_min, Nat.not_lt_zero, if_false, Nat.sub_zero, Nat.zero_add]
    split
    · rfl
    · rw [if_pos (by omega)]
  · simp only [hj, if_false, Nat.zero_min, Nat.not_lt_zero, Nat.sub_zero, Nat.zero_add]
    rw [if_neg (by omega), if_neg (by omega)]

theorem row_setLo {n k c off : Nat} {cur : Array Value} {xs us : List Value} (hcur : cur.size = c * k) (hnc : n ≤ c) (htk : cur.toList.take (n * k) = xs) (hu : off + us.length ≤ n * k) :
    ((cur.toList.take off ++ us ++ cur.toList.drop (off + us.length)).toArray).toList.take (n * k) = setL off us xs := by
  have hnk : n * k ≤ c * k := Nat.mul_le_mul_right _ hnc
  have hcl : cur.toList.length = c * k := by simpa using hcur
  have hxl : xs.length = n * k := by rw [← htk]; simp; omega
  rw [setL_eq _ _ _ (by rw [hxl]; omega), ← htk]
  apply List.ext_getElem?
  intro j
  simp only [List.append_assoc, List.getElem?_take, List.getElem?_append, List.length_take, List.getElem?_drop, List.toList_toArray]
  have e1 : min off cur.toList.length = off := by omega
  have e2 : min off (min (n * k) cur.toList.length) = off := by omega
  rw [e1, e2]
  by_cases hj : j < n * k
  · rw [if_pos hj]
    by_cases h1 : j < off
    · simp only [h1, hj, if_true]
    · rw [if_neg h1, if_neg h1]
      by_cases h2 : j - off < us.length
      · rw [if_pos h2, if_pos h2]
      · rw [if_neg h2, if_neg h2, if_pos (by omega)]
  · rw [if_neg hj, if_neg (by omega), if_neg (by omega), if_neg (by omega)]

theorem copyO_sound (hγ : ∀ d o, get d objs = some o → SimObj Y γ w M d o) (S : RegsG Y γ w M regs a.tmps) (hM : ∀ d o b, get d objs = some o → blk (γ d) = some b → M b) {o : Oper} {d cnt : Nat} {ob : Obj}
    (h : copyO P regs objs o.op = some (d, ob, cnt)) :
    ∃ w' ob0, get d objs = some ob0 ∧ (execOp a.eval o).run P w = .ok (.value (.int .i64 (Int.ofNat cnt))) w' ∧ Same (fun b => blk (γ d) = some b) w w' ∧ SimObj Y γ w' M d ob := by
  obtain ⟨dst, op, type, pos, after, guard⟩ := o
  cases op <;> simp only [copyO] at h <;> first | (cases h; done) | skip
  case call c =>
    obtain ⟨callee, args, ts⟩ := c
    simp only at h
    split at h
    · rename_i d' x t tx hargs hts
      split at h
      · rename_i e hu
        split at h
        · rename_i k e' sz n cs hk ho
          split at h
          · rename_i m xs hcont
            split at h
            · rename_i hsz
              subst hsz
              simp only [Option.some.injEq, Prod.mk.injEq] at h
              obtain ⟨rfl, rfl, rfl⟩ := h
              have hxs := evs_sound hargs S
              simp only [RAs] at hxs
              obtain ⟨sv, _, he1, hs, xv, _, rfl, hx, rfl⟩ := hxs
              obtain ⟨A2, c2, us, rfl, hmc, _, hlen2, h12, h22, hat2⟩ := contentA_sound hγ hcont hx
              have hso := hγ _ _ ho
              have hso0 := hso
              simp only [SimObj] at hso
              obtain ⟨A, c, ys, hg, hnc, hcm, hlen, h1, h2, hh⟩ := hso
              simp only [RA] at hs
              rw [hs, hg] at he1
              have hargs' : args.map a.eval = #[.slice A n c, .slice A2 m c2] := by
                have : (args.toList.map a.eval).toArray = #[.slice A n c, .slice A2 m c2] := by rw [he1]
                rw [← this, ← Array.toList_map]
              have hts' : ts = #[t, tx] := by
                have : ts.toList.toArray = #[t, tx] := by rw [hts]
                simpa using this
              have hexec : ∀ v w', (Builtin.copy_ #[t, tx] type #[.slice A n c, .slice A2 m c2]).run P w = .ok v w' →
                  (execOp a.eval { dst := dst, op := .call { callee := .builtin .copy, args := args, argTypes := ts }, type := type, pos := pos, after := after, guard := guard }).run P w = .ok (.value v) w' := by
                intro v w' hr
                simp only [execOp, resolve, Sem.run_bind, Sem.run_pure, Result.andThen_ok, invoke, builtin, hargs', hts', hr]
              have hul : us.length = m * sz := by rw [h12.length, hlen2]
              have hmn : min m n * sz ≤ m * sz := Nat.mul_le_mul_right _ (Nat.min_le_left _ _)
              have hmn2 : min m n * sz ≤ n * sz := Nat.mul_le_mul_right _ (Nat.min_le_right _ _)
              have htl : (us.take (min m n * sz)).length = min m n * sz := by rw [List.length_take]; omega
              have hfirst : (Builtin.firstCells sz (min m n) (.slice A2 m c2)).run P w = .ok (us.take (min m n * sz)).toArray w := by
                have := src_slice (P := P) (w := w) (k := sz) (tx := t) hu (A := A2) (m := min m n) (c := c2) htl (h22.take _) (fun hne => by
                  obtain ⟨ad, he, hc⟩ := hat2 (by intro e; subst e; simp at hne)
                  refine ⟨ad, he, fun j v hj => ?_⟩
                  rw [List.getElem?_take] at hj
                  split at hj
                  · exact hc j v hj
                  · cases hj)
                have hc := this.cells
                cases A2 <;> simpa [Builtin.firstCells] using hc
              by_cases hc0 : c = 0
              · have hn0 : n = 0 := by omega
                subst hn0; subst hc0
                have hr : (Builtin.copy_ #[t, tx] type #[.slice A 0 0, .slice A2 m c2]).run P w = .ok (goInt (Int.ofNat (min m 0))) w := by
                  have hf0 : (Builtin.firstCells sz 0 (.slice A2 m c2)).run P w = .ok #[] w := by simpa using hfirst
                  cases A <;> simp [Builtin.copy_, run_underlying hu, Builtin.lenOf, run_sizeOf' hk, hf0, storeCells]
                refine ⟨w, _, ho, hexec _ _ hr, Same.refl _ _, ?_⟩
                have : setL 0 (List.take (min m 0 * sz) xs) cs = cs := by simp [setL]
                rw [this]
                exact hso0
              · obtain ⟨g, cur, rfl, hh, hcur, htk⟩ := hh (by omega)
                have hnk : n * sz ≤ c * sz := Nat.mul_le_mul_right _ hnc
                have hst := run_storeCells_at P g 0 e' (us.take (min m n * sz)) 0 cur w hh (by rw [htl, hcur]; omega) (h22.take _)
                generalize hN : (List.take (0 + 0) cur.toList ++ us.take (min m n * sz) ++ List.drop (0 + 0 + (us.take (min m n * sz)).length) cur.toList).toArray = N at hst
                have hr : (Builtin.copy_ #[t, tx] type #[.slice (some ⟨g, 0, none⟩) n c, .slice A2 m c2]).run P w = .ok (goInt (Int.ofNat (min m n))) (w.setRow g N) := by
                  have hmin : Nat.min m n = min m n := rfl
                  simp [Builtin.copy_, run_underlying hu, Builtin.lenOf, run_sizeOf' hk, hmin, hfirst, hst]
                have hbg : blk (γ d') = some g := by
                  rw [hg]
                  obtain ⟨c', rfl⟩ : ∃ c', c = c' + 1 := ⟨c - 1, by omega⟩
                  rfl
                have hsame := same_setRow w g N (hM _ _ g ho hbg)
                refine ⟨_, _, ho, hexec _ _ hr, same_setRow w g N hbg, ?_⟩
                simp only [SimObj]
                refine ⟨_, c, setL 0 (us.take (min m n * sz)) ys, hg, hnc, hcm, by rw [setL_length]; exact hlen, ?_, (h22.take _).setL h2 0, fun _ => ⟨g, N, rfl, setRow_heap w g _ N e' _ hh, ?_, ?_⟩⟩
                · exact RPs.setL 0 ((RPs.mono hsame (fun _ _ h => h) _ _ h12).take _) (RPs.mono hsame (fun _ _ h => h) _ _ h1)
                · rw [← hN]; simp; omega
                · rw [← hN]
                  exact row_setL hcur hnc htk (by rw [htl]; omega)
            · cases h
          · cases h
        · cases h
      · cases h
    · rename_i d' off n x t tx hargs hts
      split at h
      · rename_i e hu
        split at h
        · rename_i k e' sz N cs hk ho
          split at h
          · rename_i m xs hcont
            split at h
            · rename_i hcnd
              obtain ⟨hsz, hn0, hoff⟩ := hcnd
              subst hsz
              simp only [Option.some.injEq, Prod.mk.injEq] at h
              obtain ⟨rfl, rfl, rfl⟩ := h
              have hxs := evs_sound hargs S
              simp only [RAs] at hxs
              obtain ⟨sv, _, he1, hs, xv, _, rfl, hx, rfl⟩ := hxs
              obtain ⟨A2, c2, us, rfl, hmc, _, hlen2, h12, h22, hat2⟩ := contentA_sound hγ hcont hx
              have hso := hγ _ _ ho
              simp only [SimObj] at hso
              obtain ⟨A0, c, ys, hg, hnc, hcm, hlen, h1, h2, hh⟩ := hso
              simp only [RA] at hs
              obtain ⟨A, cA, rfl, hncA, _, hA⟩ := hs
              obtain ⟨g, hbg, rfl⟩ := hA.1 hn0
              have hargs' : args.map a.eval = #[.slice (some ⟨g, off, none⟩) n cA, .slice A2 m c2] := by
                have : (args.toList.map a.eval).toArray = #[.slice (some ⟨g, off, none⟩) n cA, .slice A2 m c2] := by rw [he1]
                rw [← this, ← Array.toList_map]
              have hts' : ts = #[t, tx] := by
                have : ts.toList.toArray = #[t, tx] := by rw [hts]
                simpa using this
              have hexec : ∀ v w', (Builtin.copy_ #[t, tx] type #[.slice (some ⟨g, off, none⟩) n cA, .slice A2 m c2]).run P w = .ok v w' →
                  (execOp a.eval { dst := dst, op := .call { callee := .builtin .copy, args := args, argTypes := ts }, type := type, pos := pos, after := after, guard := guard }).run P w = .ok (.value v) w' := by
                intro v w' hr
                simp only [execOp, resolve, Sem.run_bind, Sem.run_pure, Result.andThen_ok, invoke, builtin, hargs', hts', hr]
              have hul : us.length = m * sz := by rw [h12.length, hlen2]
              have hmn : min m n * sz ≤ m * sz := Nat.mul_le_mul_right _ (Nat.min_le_left _ _)
              have hmn2 : min m n * sz ≤ n * sz := Nat.mul_le_mul_right _ (Nat.min_le_right _ _)
              have htl : (us.take (min m n * sz)).length = min m n * sz := by rw [List.length_take]; omega
              have hfirst : (Builtin.firstCells sz (min m n) (.slice A2 m c2)).run P w = .ok (us.take (min m n * sz)).toArray w := by
                have := src_slice (P := P) (w := w) (k := sz) (tx := t) hu (A := A2) (m := min m n) (c := c2) htl (h22.take _) (fun hne => by
                  obtain ⟨ad, he, hc⟩ := hat2 (by intro e; subst e; simp at hne)
                  refine ⟨ad, he, fun j v hj => ?_⟩
                  rw [List.getElem?_take] at hj
                  split at hj
                  · exact hc j v hj
                  · cases hj)
                have hc := this.cells
                cases A2 <;> simpa [Builtin.firstCells] using hc
              have hc0 : 0 < c := by
                rcases Nat.eq_zero_or_pos c with h0 | h0
                · exfalso
                  rw [hg, h0] at hbg
                  cases A0 <;> simp [blk] at hbg
                · exact h0
              obtain ⟨g', cur, rfl, hh, hcur, htk⟩ := hh (by omega)
              have hgg : g' = g := by
                rw [hg] at hbg
                obtain ⟨c', rfl⟩ : ∃ c', c = c' + 1 := ⟨c - 1, by omega⟩
                simpa [blk] using hbg
              subst hgg
              have hnk : N * sz ≤ c * sz := Nat.mul_le_mul_right _ hnc
              have hst := run_storeCells_at P g' off e' (us.take (min m n * sz)) 0 cur w hh (by rw [htl, hcur]; omega) (h22.take _)
              generalize hN : (List.take (off + 0) cur.toList ++ us.take (min m n * sz) ++ List.drop (off + 0 + (us.take (min m n * sz)).length) cur.toList).toArray = M' at hst
              have hr : (Builtin.copy_ #[t, tx] type #[.slice (some ⟨g', off, none⟩) n cA, .slice A2 m c2]).run P w = .ok (goInt (Int.ofNat (min m n))) (w.setRow g' M') := by
                have hmin : Nat.min m n = min m n := rfl
                simp [Builtin.copy_, run_underlying hu, Builtin.lenOf, run_sizeOf' hk, hmin, hfirst, hst]
              have hsame := same_setRow w g' M' (hM _ _ g' ho hbg)
              refine ⟨_, _, ho, hexec _ _ hr, same_setRow w g' M' hbg, ?_⟩
              simp only [SimObj]
              refine ⟨_, c, setL off (us.take (min m n * sz)) ys, hg, hnc, hcm, by rw [setL_length]; exact hlen, ?_, (h22.take _).setL h2 off, fun _ => ⟨g', M', rfl, setRow_heap w g' _ M' e' _ hh, ?_, ?_⟩⟩
              · exact RPs.setL off ((RPs.mono hsame (fun _ _ h => h) _ _ h12).take _) (RPs.mono hsame (fun _ _ h => h) _ _ h1)
              · rw [← hN]; simp; omega
              · rw [← hN]
                simp only [Nat.add_zero]
                exact row_setLo hcur hnc htk (by rw [htl]; omega)
            · cases h
          · cases h
        · cases h
      · cases h
    · cases h
end

section
variable {X : Env P} {γ : Nat → Value} {U V : Nat → Prop} {st st' : St} {a : Act} {w : World}

theorem mut_live (S : Sim X γ U V st a w) : ∀ d o b, get d st.objs = some o → blk (γ d) = some b → Mut V γ st.objs b := fun d o b h1 h2 => .inr ⟨d, o, h1, h2⟩

theorem convO_sound (S : Sim X γ U V st a w) {o : Oper} {d p n : Nat} {cs : List PV} (hd : o.dst = some d) (hlt : d < X.n) (h : convO P st.regs st.objs o.op = some (p, n, cs)) :
    ∃ r w' v, (execOp a.eval o).run P w = .ok r w' ∧ ((r = .value v) ∨ (r = .skip ∧ v = undef)) ∧ Inv X { st with regs := put d (.p (.sl .nn n cs)) st.regs, objs := del p st.objs } (a.put o.dst v) w' := by
  unfold convO at h
  split at h
  · rename_i src dst x hop
    split at h
    · rename_i p' hx
      split at h
      · rename_i hsd
        subst hsd
        split at h
        · rename_i e T sz n' cs' hT hp
          split at h
          · rename_i he
            split at h
            · rename_i hn
              simp only [Option.some.injEq, Prod.mk.injEq] at h
              obtain ⟨rfl, rfl, rfl⟩ := h
              have hxv := ev_sound hx S.regG
              simp only [RA] at hxv
              have hs := S.obj _ _ hp
              have hs2 := hs
              simp only [SimObj] at hs2
              obtain ⟨A, c, xs, hg, hnc, hcm, hlen, h1, h2, hh⟩ := hs2
              obtain ⟨g, cur, rfl, hheap, hcur, htk⟩ := hh (by omega)
              have hblk : blk (γ p') = some g := by
                rw [hg]
                obtain ⟨c', rfl⟩ : ∃ c', c = c' + 1 := ⟨c - 1, by omega⟩
                rfl
              obtain ⟨w', hrun, hm⟩ := run_mark (P := P) hT he (ad := ⟨g, 0, none⟩) (n := n') (c := c) hheap
              -- the object is let go
              have hget : ∀ q o', get q (del p' st.objs) = some o' → q ≠ p' ∧ get q st.objs = some o' := by
                intro q o' hq
                by_cases hqp : p' = q
                · subst hqp; rw [get_del_same] at hq; cases hq
                · rw [get_del_ne hqp] at hq; exact ⟨Ne.symm hqp, hq⟩
              have S1 : Sim X γ U V { st with objs := del p' st.objs } a w := by
                have hlive : ∀ b, live γ (del p' st.objs) b → live γ st.objs b := by rintro b ⟨q, o', hq, hb⟩; exact ⟨q, o', (hget q o' hq).2, hb⟩
                have hless : Less w (Mut V γ (del p' st.objs)) (Mut V γ st.objs) := fun b _ _ _ _ hb => hb.imp id (hlive b)
                refine ⟨S.env, S.size, fun k v hk => RA.keep (fun _ _ _ _ _ _ => rfl) hless v _ (S.reg k v hk), S.outs.mono (Same.refl _ _) (fun b _ hb => hb.imp id (hlive b)), ?_, ?_, fun b hb => S.own b (hlive b hb), S.zone, S.ltU, S.ltV, S.defs, S.lits, S.kept⟩
                · exact fun q o' hq => (S.obj q o' (hget q o' hq).2).keep (fun _ _ _ _ _ _ => rfl) hless (fun _ _ => rfl)
                · exact fun q q' o1 o2 b k1 k2 k3 k4 => S.sep q q' o1 o2 b (hget q o1 k1).2 (hget q' o2 k2).2 k3 k4
              have hUg : U g := S.own g ⟨p', _, hp, hblk⟩
              have hfree : ∀ q o', get q (del p' st.objs) = some o' → blk (γ q) ≠ some g := fun q o' hq hb => (hget q o' hq).1 (S.sep q p' o' _ g (hget q o' hq).2 hp hb hblk)
              have S2 := S1.marked hUg hfree hm
              refine ⟨.value (.slice (some ⟨g, 0, none⟩) n' c), w', .slice (some ⟨g, 0, none⟩) n' c, ?_, .inl rfl, γ, U, V, ?_⟩
              · simp only [execOp, hop, hxv, hg, Sem.run_bind, hrun, Result.andThen_ok, Sem.run_pure]
              · rw [hd]
                refine S2.putReg hlt (Same.refl _ _) rfl ?_
                simp only [RA, RP]
                refine ⟨some ⟨g, 0, none⟩, c, xs, rfl, by simp [TagOk], hnc, hcm, ?_, h2, fun hne => ⟨_, rfl, ?_, fun j v hj => ?_⟩⟩
                · refine RPs.cells (fun ad v hv => hm.cell hv) _ _ ?_
                  exact RPs.keep (fun _ _ _ _ _ _ => rfl) (fun b _ _ _ _ hb => hb.imp id (by rintro ⟨q, o', hq, hb⟩; exact ⟨q, o', (hget q o' hq).2, hb⟩)) _ _ h1
                · rintro (hV | ⟨q, o', hq, hb⟩)
                  · exact S.zone g hV hUg
                  · exact hfree q o' hq hb
                · refine hm.cell ?_
                  have := block_cells (w := w) hheap 0 j v
                  apply this
                  rw [← htk] at hj
                  simp only [List.getElem?_take] at hj
                  split at hj
                  · simpa using hj
                  · cases hj
            · cases h
          · cases h
        · cases h
      · cases h
    · cases h
  · cases h

theorem stepO_sound (S : Sim X γ U V st a w) {o : Oper} (h : stepO P X.n o st = some st') :
    ∃ r w' v, (execOp a.eval o).run P w = .ok r w' ∧ ((r = .value v) ∨ (r = .skip ∧ v = undef)) ∧ Inv X st' (a.put o.dst v) w' := by
  have pureCase : ∀ {d : Nat} {st'' : St}, o.dst = some d → d < X.n → ((pureO P st.regs st.objs o.op).map fun v => { st with regs := put d (noLit v) st.regs }) = some st'' →
      ∃ r w' v, (execOp a.eval o).run P w = .ok r w' ∧ ((r = .value v) ∨ (r = .skip ∧ v = undef)) ∧ Inv X st'' (a.put o.dst v) w' := by
    intro d st'' hd hlt h
    obtain ⟨av, hav, rfl⟩ := Option.map_eq_some_iff.1 h
    obtain ⟨u, hu, hr⟩ := pureO_sound (a := a) hav S.regG S.obj
    exact ⟨_, w, u, hu, .inl rfl, γ, U, V, by rw [hd]; exact S.putReg hlt (Same.refl _ _) (noLit_isLit _) (RA_noLit hr)⟩
  have allocCase : ∀ {d : Nat} {st'' : St}, o.dst = some d → d < X.n → ((allocO P st.regs st.objs o.op).map fun ob => allocSt d none (ob.kill d) st) = some st'' →
      ∃ r w' v, (execOp a.eval o).run P w = .ok r w' ∧ ((r = .value v) ∨ (r = .skip ∧ v = undef)) ∧ Inv X st'' (a.put o.dst v) w' := by
    intro d st'' hd hlt h
    obtain ⟨ob, hob, rfl⟩ := Option.map_eq_some_iff.1 h
    obtain ⟨v, ob', hu, hblk, hsim⟩ := allocO_sound S.obj S.regG hob d
    refine ⟨_, _, v, hu, .inl rfl, upd γ d v, fun b => U b ∨ blk v = some b, V, ?_⟩
    rw [hd]
    refine S.alloc (d0 := none) hlt (Same.alloc _ _ _) (fun b hb => ?_) hsim
    have := hblk b hb
    exact ⟨.inl (by omega), by simp; omega⟩
  unfold stepO at h
  split at h
  · rename_i d hd
    split at h
    · rename_i hlt
      split at h
      · rename_i T parts hop
        obtain ⟨av, hav, rfl⟩ := Option.map_eq_some_iff.1 h
        obtain ⟨u, hu, hr⟩ := buildA_sound (a := a) S.obj S.regG hav
        refine ⟨_, w, u, ?_, .inl rfl, γ, U, V, by rw [hd]; exact S.putReg hlt (Same.refl _ _) (noLit_isLit _) (RA_noLit hr)⟩
        simp only [execOp, hop, Sem.run_bind, hu, Result.andThen_ok, Sem.run_pure]
      · rename_i T hop; exact allocCase hd hlt (by rw [hop]; exact h)
      · rename_i T x hop; exact allocCase hd hlt (by rw [hop]; exact h)
      · rename_i T l c hop; exact allocCase hd hlt (by rw [hop]; exact h)
      · rename_i T l ps hop; exact allocCase hd hlt (by rw [hop]; exact h)
      · rename_i c hop
        split at h
        · obtain ⟨⟨d0, ob⟩, hob, rfl⟩ := Option.map_eq_some_iff.1 h
          obtain ⟨v, w', hu, hsame, hblk, hsim⟩ := appendO_sound (a := a) (o := o) S.obj S.regG (mut_live S) (by rw [hop]; exact hob) d
          refine ⟨_, w', v, hu, .inl rfl, upd γ d v, fun b => U b ∨ blk v = some b, V, ?_⟩
          rw [hd]
          refine S.alloc (d0 := d0) hlt (hsame.mono ?_) (fun b hb => ?_) hsim
          · rintro b _ ⟨e, o0, h1, h2, h3⟩; exact ⟨e, o0, h1, h2, h3⟩
          · obtain ⟨h1 | ⟨e, o0, h1, h2, h3⟩, h4⟩ := hblk b hb
            · exact ⟨.inl h1, h4⟩
            · exact ⟨.inr ⟨e, o0, h1, h2, h3⟩, h4⟩
        · obtain ⟨⟨d1, ob, cnt⟩, hob, rfl⟩ := Option.map_eq_some_iff.1 h
          obtain ⟨w', ob0, ho0, hu, hsame, hsim⟩ := copyO_sound (a := a) (o := o) S.obj S.regG (mut_live S) (by rw [hop]; exact hob)
          refine ⟨_, w', _, hu, .inl rfl, γ, U, V, ?_⟩
          rw [hd]
          have S2 := S.write ho0 hsame hsim
          exact S2.putReg (av := .p (.s (.int .i64 (Int.ofNat cnt)))) hlt (Same.refl _ _) rfl (by simp only [RA, RP])
        · exact pureCase hd hlt (by rw [hop]; exact h)
      · split at h
        · rename_i p n cs hcv
          obtain rfl := Option.some.inj h
          exact convO_sound S hd hlt hcv
        · exact pureCase hd hlt h
    · cases h
  · rename_i hd
    split at h
    · rename_i T x v hop
      obtain ⟨⟨d1, ob⟩, hob, rfl⟩ := Option.map_eq_some_iff.1 h
      obtain ⟨w', ob0, ho0, hu, hsame, hsim⟩ := storeO_sound (a := a) (o := o) S.obj S.regG (mut_live S) (by rw [hop]; exact hob)
      refine ⟨_, w', undef, hu, .inr ⟨rfl, rfl⟩, γ, U, V, ?_⟩
      rw [hd]
      exact S.write ho0 hsame hsim
    · cases h
end
end Go.AE
