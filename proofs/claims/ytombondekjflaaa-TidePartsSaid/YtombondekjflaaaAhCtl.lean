/- YtombondekjflaaaAhCtl: a part of the proof; see the last text for what is proved. -/
import Derived.Test.YtombondekjflaaaAhStep
import Derived.TacticsIn
import Derived.OrdersIn
set_option linter.unusedVariables false
set_option linter.unusedSimpArgs false
namespace Go.AE
open Go.RowKit

variable {P : Program} {X : Env P}

def guardA (ops : List Oper) (regs : List (Nat × AV)) : Option (Nat × Bool) → Option Bool
  | none => some true
  | some (j, want) =>
    match (ops[j]?).bind (·.dst) with
    | some d => match get d regs with
      | some (.p (.s (.bool b))) => some (b == want)
      | some (.p (.tup [])) => some false
      | _ => none
    | none => none

theorem guardA_sound {ops : List Oper} {st : St} {a : Act} {w : World} {o : Oper} {g : Bool} (h : guardA ops st.regs o.guard = some g) (hi : Inv X st a w) :
    Region.wanted o (yielded ops.toArray a.tmps) = g := by
  obtain ⟨γ, U, V, S⟩ := hi
  unfold guardA at h
  unfold Region.wanted
  split at h
  · rename_i hg
    rw [hg]
    simpa using h
  · rename_i j want hg
    rw [hg]
    split at h
    · rename_i d hd
      split at h
      · rename_i b hb
        obtain rfl := Option.some.inj h
        have := S.reg d _ hb
        simp only [RA, RP] at this
        have hlt : d < a.tmps.size := by
          rcases Nat.lt_or_ge d a.tmps.size with h1 | h1
          · exact h1
          · simp [Array.getD_eq_getD_getElem?, Array.getElem?_eq_none h1, undef] at this
        have h2 : a.tmps[d]? = some (.bool b) := by
          simp [Array.getD_eq_getD_getElem?, hlt] at this
          simp [hlt, this]
        simp [yielded, hd, h2]
      · rename_i hb
        obtain rfl := Option.some.inj h
        have := S.reg d _ hb
        simp only [RA, RP, RPs] at this
        obtain ⟨xs, h1, rfl⟩ := this
        have h2 : ∀ b, a.tmps[d]? ≠ some (.bool b) := by
          intro b h2
          simp [Array.getD_eq_getD_getElem?, h2] at h1
        have hd' : (ops.toArray[j]?).bind (·.dst) = some d := by simpa using hd
        have hy : yielded ops.toArray a.tmps j = none := by
          unfold yielded
          rw [hd', Option.bind_some]
          split
          · rename_i b h3; exact absurd h3 (h2 b)
          · rfl
        simp [hy]
      · cases h
    · cases h

def putO (d : Option Nat) (v : AV) (st : St) : St :=
  match d with
  | some d => { st with regs := put d v st.regs }
  | none => st
def skipO (o : Oper) (st : St) : St :=
  match o.dst with
  | some d => { st with regs := put d (.p (.tup [])) st.regs }
  | none => st

theorem Sim.putUndef {γ : Nat → Value} {U V : Nat → Prop} {st : St} {a : Act} {w : World} {d : Nat} (S : Sim X γ U V st a w) : Sim X γ U V { st with regs := put d (.p (.tup [])) st.regs } (a.put (some d) undef) w := by
  refine ⟨S.env, by simpa [Act.put] using S.size, ?_, S.outs, S.obj, S.sep, S.own, S.zone, S.ltU, S.ltV, S.defs, S.lits.put rfl, S.kept⟩
  intro k u hk
  by_cases h : d = k
  · subst h
    simp only [get_put_same, Option.some.injEq] at hk
    subst hk
    simp only [Act.put, RA, RP, RPs]
    refine ⟨[], ?_, rfl⟩
    rcases Nat.lt_or_ge d a.tmps.size with h1 | h1
    · rw [getD_put_same h1]; rfl
    · simp [Array.getD_eq_getD_getElem?, Array.getElem?_eq_none h1, undef]
  · simp only [get_put_ne h] at hk
    simp only [Act.put]
    rw [getD_put_ne h]
    exact S.reg k u hk

theorem skipO_sound {o : Oper} {st : St} {a : Act} {w : World} (h : Inv X st a w) : Inv X (skipO o st) (a.put o.dst undef) w := by
  obtain ⟨γ, U, V, S⟩ := h
  unfold skipO
  split
  · rename_i d hd
    rw [hd]
    exact ⟨γ, U, V, S.putUndef⟩
  · rename_i hd
    rw [hd]
    exact ⟨γ, U, V, S⟩

def OpSem (X : Env P) (o : Oper) (st : St) (K : St → Prop) : Prop :=
  ∀ a w, Inv X st a w → ∀ (next : Act → World → Prop) (Q : Exit → Act → World → Prop), (∀ a' w' st', K st' → Inv X st' a' w' → next a' w') → o.wpIn (fence X) 0 P a w next Q

def isCall : Go.Op → Bool
  | .call c => match c.callee with
    | .value _ => true
    | _ => false
  | _ => false

def OpW (X : Env P) (o : Oper) (st : St) (K : St → Prop) : Prop :=
  if isCall o.op = true then OpSem X o st K else
  match stepO P X.n o st with
  | some st' => K st'
  | none => False

def OpsW (X : Env P) (ops : List Oper) : List Oper → St → (St → Prop) → Prop
  | [], st, K => K st
  | o :: rest, st, K =>
    match guardA ops st.regs o.guard with
    | some g => if g = true then OpW X o st (fun st' => OpsW X ops rest st' K) else OpsW X ops rest (skipO o st) K
    | none => False

theorem fence_fn (f : FuncId) : (fence X).fn f := trivial
theorem fence_depth : (fence X).depth = none := rfl
theorem fence_round : (fence X).round = X.ro := rfl

theorem calls_fence {f : FuncId} {args : Array Value} {w : World} {R : Ending → World → Prop} {n : Nat} : CallsIn (fence X) n P f args w R ↔ Calls P f args w R := by
  rw [← callsIn_wide (n := n)]
  exact Iff.rfl

theorem wpIn_of_run {o : Oper} {a : Act} {w w' : World} {r : Next} {v : Value} {next : Act → World → Prop} {Q : Exit → Act → World → Prop} (hd : ∀ c, o.op ≠ .defer c) (h : (execOp a.eval o).run P w = .ok r w')
    (hr : (r = .value v) ∨ (r = .skip ∧ v = undef)) (hn : next (a.put o.dst v) w') : o.wpIn (fence X) 0 P a w next Q := by
  refine ⟨fun f _ => fence_fn f, ?_⟩
  rw [Oper.semAt_eq _ _ _ hd, h]
  rcases hr with rfl | ⟨rfl, rfl⟩
  · exact hn
  · exact hn

theorem stepO_defer {n : Nat} {o : Oper} {st st' : St} (h : stepO P n o st = some st') : ∀ c, o.op ≠ .defer c := by
  intro c hc
  unfold stepO at h
  rw [hc] at h
  split at h
  · split at h
    · simp [pureO, convO] at h
    · cases h
  · simp at h

theorem OpW.sem {o : Oper} {st : St} {K : St → Prop} (h : OpW X o st K) : OpSem X o st K := by
  unfold OpW at h
  split at h
  · exact h
  · split at h
    · rename_i st' hs
      rintro a w ⟨γ, U, V, S⟩ next Q hn
      obtain ⟨r, w', v, hr, hv, hi⟩ := stepO_sound S hs
      exact wpIn_of_run (stepO_defer hs) hr hv (hn _ _ st' h hi)
    · exact h.elim

theorem OpsW.sound {ops : List Oper} {Q : Exit → Act → World → Prop} {K : St → Prop} : ∀ (l : List Oper) (st : St), OpsW X ops l st K → ∀ a w, Inv X st a w → (∀ a' w' st', K st' → Inv X st' a' w' → Q .normal a' w') →
    wpListIn (fence X) 0 P ops.toArray Q l a w
  | [], st, h, a, w, hi, hq => hq a w st h hi
  | o :: rest, st, h, a, w, hi, hq => by
    simp only [OpsW] at h
    split at h
    · rename_i g hg
      have hw := guardA_sound hg hi
      simp only [wpListIn, hw]
      split at h
      · rename_i ht
        subst ht
        simp only [if_true]
        exact h.sem a w hi _ _ (fun a' w' st' hk hi' => OpsW.sound rest st' hk a' w' hi' hq)
      · rename_i ht
        have : g = false := by cases g <;> simp_all
        subst this
        simp only [Bool.false_eq_true, if_false]
        exact ⟨fun f _ => fence_fn f, OpsW.sound rest _ h _ _ (skipO_sound hi) hq⟩
    · exact h.elim

theorem AW.region {id : Nat} {ops : Array Oper} {st : St} {Q : Exit → St → Prop} (h : OpsW X ops.toList ops.toList st (fun st' => Q .normal st')) : AW X (.region id ops false) st Q := by
  intro a w hi
  refine wpIn_region_list ?_
  have := OpsW.sound (Q := Good X Q) _ _ h a w hi (fun a' w' st' hk hi' => ⟨st', hk, hi'⟩)
  simpa using this

theorem AW.cond {c : Operand} {x y : Code} {st : St} {Q : Exit → St → Prop} {t : Bool} (hc : ev st.regs c = some (.p (.s (.bool t)))) (h : AW X (if t = true then x else y) st Q) : AW X (.cond c x y) st Q := by
  intro a w hi
  have hi2 := hi
  obtain ⟨γ, U, V, S⟩ := hi2
  have := ev_sound hc S.regG
  simp only [RA, RP] at this
  refine wpIn_cond this ?_
  have := h a w hi
  cases t <;> simpa using this

/-! ### What goes out of an activation -/
def frzC (objs : List (Nat × Obj)) : AV → Option PV
  | .p x => some x
  | .own d => match get d objs with
    | some (.row _ _ n cs) => some (.sl .any n cs)
    | _ => none
  | .sub d off n => match get d objs with
    | some (.row _ sz _ cs) => if off + n * sz ≤ cs.length then some (.sl .any n ((cs.drop off).take (n * sz))) else none
    | _ => none
  | x => x.toP
def frzCs (objs : List (Nat × Obj)) : List AV → Option (List PV)
  | [] => some []
  | x :: l => match frzC objs x, frzCs objs l with
    | some y, some ys => some (y :: ys)
    | _, _ => none
def frzA (objs : List (Nat × Obj)) : AV → Option PV
  | .agg cs => (frzCs objs cs).map .agg
  | .tup vs => (frzTs objs vs).map .tup
  | .fn f cap => (frzFs objs cap).map (.fn f)
  | .ptr d off => frzP objs d off
  | x => frzC objs x
where
  frzP (objs : List (Nat × Obj)) (d off : Nat) : Option PV :=
    match get d objs with
    | some (.box _ cs) => (frzCs objs (cs.drop off)).map .rop
    | some (.row _ _ _ cs) => some (.rop (cs.drop off))
    | none => none
  frzT1 (objs : List (Nat × Obj)) : AV → Option PV
    | .agg cs => (frzCs objs cs).map .agg
    | x => frzC objs x
  frzTs (objs : List (Nat × Obj)) : List AV → Option (List PV)
    | [] => some []
    | x :: l => match frzT1 objs x, frzTs objs l with
      | some y, some ys => some (y :: ys)
      | _, _ => none
  frzF1 (objs : List (Nat × Obj)) : AV → Option PV
    | .ptr d off => frzP objs d off
    | x => frzC objs x
  frzFs (objs : List (Nat × Obj)) : List AV → Option (List PV)
    | [] => some []
    | x :: l => match frzF1 objs x, frzFs objs l with
      | some y, some ys => some (y :: ys)
      | _, _ => none

section
variable {Y : Value} {γ : Nat → Value} {w : World} {M M0 : Nat → Prop} {objs : List (Nat × Obj)}

theorem frzC_sound (hγ : ∀ d o, get d objs = some o → SimObj Y γ w M d o) (hM0 : ∀ b, M0 b → M b) (hlive : ∀ d o b, get d objs = some o → blk (γ d) = some b → ¬ M0 b) {x : AV} {p : PV} {v : Value} (h : frzC objs x = some p) (hx : RA Y γ w M x v) : RP w M0 p v := by
  have mono : ∀ q u, RP w M q u → RP w M0 q u := fun q u hq => RP.mono (Same.refl M w) (fun b _ h => hM0 b h) q u hq
  have monos : ∀ q u, RPs w M q u → RPs w M0 q u := fun q u hq => RPs.mono (Same.refl M w) (fun b _ h => hM0 b h) q u hq
  unfold frzC at h
  split at h
  · obtain rfl := Option.some.inj h
    simp only [RA] at hx
    exact mono _ _ hx
  · rename_i d
    split at h
    · rename_i T sz n cs ho
      obtain rfl := Option.some.inj h
      have hs := hγ d _ ho
      have hs2 := hs
      obtain ⟨A, c, xs, hg, hnc, hcm, hlen, h1, h2, hat⟩ := row_lies hs
      simp only [RA] at hx
      simp only [RP]
      refine ⟨A, c, xs, hx.trans hg, trivial, hnc, hcm, monos _ _ h1, h2, fun hne => ?_⟩
      obtain ⟨ad, rfl, hc⟩ := hat hne
      refine ⟨ad, rfl, hlive d _ ad.block ho ?_, hc⟩
      rw [hg]
      have hc0 : 0 < c := by
        rcases Nat.eq_zero_or_pos c with h0 | h0
        · exfalso
          apply hne
          have := h1.length
          rw [hlen, show n = 0 by omega] at this
          simpa using this
        · exact h0
      obtain ⟨c', rfl⟩ : ∃ c', c = c' + 1 := ⟨c - 1, by omega⟩
      rfl
    · cases h
  · rename_i d off n
    split at h
    · rename_i T sz n' cs ho
      split at h
      · rename_i hl
        obtain rfl := Option.some.inj h
        simp only [RA] at hx
        obtain ⟨A, c, rfl, hnc, hcm, hA, _⟩ := hx
        have hs := hγ d _ ho
        simp only [SimObj] at hs
        obtain ⟨A', c', xs, hg, _, _, hlen, h1, h2, hh⟩ := hs
        simp only [RP]
        refine ⟨A, c, (xs.drop off).take (n * sz), rfl, trivial, hnc, hcm, monos _ _ ((h1.drop off).take _), (h2.drop _).take _, fun hne => ?_⟩
        have hm0 : 0 < n := by
          rcases Nat.eq_zero_or_pos n with h0 | h0
          · subst h0; simp at hne
          · exact h0
        obtain ⟨b, hb, rfl⟩ := hA hm0
        have hb2 := hb
        rw [hg] at hb
        have hc0 : 0 < c' := by
          cases c' with
          | zero => cases A' <;> simp [blk] at hb
          | succ c => omega
        obtain ⟨g, cur, rfl, hh, hcur, htk⟩ := hh hc0
        have hbb : g = b := by
          obtain ⟨c'', rfl⟩ : ∃ c'', c' = c'' + 1 := ⟨c' - 1, by omega⟩
          simpa [blk] using hb
        subst hbb
        refine ⟨_, rfl, hlive d _ g ho hb2, fun j v hj => ?_⟩
        apply block_cells (w := w) hh off j v
        rw [← htk] at hj
        simp only [List.getElem?_take, List.getElem?_drop] at hj ⊢
        split at hj
        · split at hj
          · exact hj
          · cases hj
        · cases hj
      · cases h
    · cases h
  · exact mono _ _ (toP_sound _ p v h hx)

theorem frzCs_sound (hγ : ∀ d o, get d objs = some o → SimObj Y γ w M d o) (hM0 : ∀ b, M0 b → M b) (hlive : ∀ d o b, get d objs = some o → blk (γ d) = some b → ¬ M0 b) :
    ∀ {xs : List AV} {ps : List PV} {vs : List Value}, frzCs objs xs = some ps → RAs Y γ w M xs vs → RPs w M0 ps vs
  | [], ps, vs, h, hx => by simp only [frzCs, Option.some.injEq] at h; subst h; simpa only [RAs, RPs] using hx
  | x :: l, ps, vs, h, hx => by
    simp only [frzCs] at h
    split at h
    · rename_i y ys hy hys
      obtain rfl := Option.some.inj h
      simp only [RAs] at hx
      obtain ⟨v, vs', rfl, h1, h2⟩ := hx
      simp only [RPs]
      exact ⟨v, vs', rfl, frzC_sound hγ hM0 hlive hy h1, frzCs_sound hγ hM0 hlive hys h2⟩
    · cases h

theorem frzP_sound (hγ : ∀ d o, get d objs = some o → SimObj Y γ w M d o) (hM0 : ∀ b, M0 b → M b) (hlive : ∀ d o b, get d objs = some o → blk (γ d) = some b → ¬ M0 b) {d off : Nat} {p : PV} {v : Value} (h : frzA.frzP objs d off = some p) (hx : RA Y γ w M (.ptr d off) v) : RP w M0 p v := by
  unfold frzA.frzP at h
  simp only [RA] at hx
  obtain ⟨b, hb, rfl⟩ := hx
  have hs0 := hlive d
  split at h
  · rename_i T cs ho
    obtain ⟨ps, hps, rfl⟩ := Option.map_eq_some_iff.1 h
    have hs := hγ d _ ho
    simp only [SimObj] at hs
    obtain ⟨b', xs, hg, hh, h1, h2⟩ := hs
    have hbb : b' = b := by rw [hg] at hb; simpa [blk] using hb
    subst hbb
    simp only [RP]
    refine ⟨_, xs.drop off, rfl, frzCs_sound hγ hM0 hlive hps (h1.drop off), h2.drop off, fun hne => ⟨_, rfl, hlive d _ b' ho hb, ?_⟩⟩
    simpa using block_cells (w := w) hh off
  · rename_i T sz n cs ho
    obtain rfl := Option.some.inj h
    have hs := hγ d _ ho
    simp only [SimObj] at hs
    obtain ⟨A', c', xs, hg, _, _, hlen, h1, h2, hh⟩ := hs
    have hb2 := hb
    rw [hg] at hb
    have hc0 : 0 < c' := by
      cases c' with
      | zero => cases A' <;> simp [blk] at hb
      | succ c => omega
    obtain ⟨g, cur, rfl, hh, hcur, htk⟩ := hh hc0
    have hbb : g = b := by
      obtain ⟨c'', rfl⟩ : ∃ c'', c' = c'' + 1 := ⟨c' - 1, by omega⟩
      simpa [blk] using hb
    subst hbb
    simp only [RP]
    refine ⟨_, xs.drop off, rfl, RPs.mono (Same.refl M w) (fun b _ h => hM0 b h) _ _ (h1.drop off), h2.drop off, fun hne => ⟨_, rfl, hlive d _ g ho hb2, fun j v hj => ?_⟩⟩
    apply block_cells (w := w) hh off j v
    rw [← htk] at hj
    simp only [List.getElem?_take, List.getElem?_drop] at hj ⊢
    split at hj
    · exact hj
    · cases hj
  · cases h

theorem frzA_sound (hγ : ∀ d o, get d objs = some o → SimObj Y γ w M d o) (hM0 : ∀ b, M0 b → M b) (hlive : ∀ d o b, get d objs = some o → blk (γ d) = some b → ¬ M0 b) {x : AV} {p : PV} {v : Value} (h : frzA objs x = some p) (hx : RA Y γ w M x v) : RP w M0 p v := by
  unfold frzA at h
  split at h
  · obtain ⟨ps, hps, rfl⟩ := Option.map_eq_some_iff.1 h
    simp only [RA] at hx
    obtain ⟨xs, rfl, h1, h2⟩ := hx
    simp only [RP]
    exact ⟨xs, rfl, frzCs_sound hγ hM0 hlive hps h1, h2⟩
  · rename_i vs
    obtain ⟨ps, hps, rfl⟩ := Option.map_eq_some_iff.1 h
    simp only [RA] at hx
    obtain ⟨xs, rfl, h1⟩ := hx
    simp only [RP]
    refine ⟨xs, rfl, ?_⟩
    have : ∀ (vs : List AV) (ps : List PV) (xs : List Value), frzA.frzTs objs vs = some ps → RAs Y γ w M vs xs → RPs w M0 ps xs := by
      intro vs
      induction vs with
      | nil => intro ps xs h hx; simp only [frzA.frzTs, Option.some.injEq] at h; subst h; simpa only [RAs, RPs] using hx
      | cons x l ih =>
        intro ps xs h hx
        simp only [frzA.frzTs] at h
        split at h
        · rename_i y ys hy hys
          obtain rfl := Option.some.inj h
          simp only [RAs] at hx
          obtain ⟨v, vs', rfl, h1, h2⟩ := hx
          simp only [RPs]
          refine ⟨v, vs', rfl, ?_, ih ys vs' hys h2⟩
          unfold frzA.frzT1 at hy
          split at hy
          · obtain ⟨qs, hqs, rfl⟩ := Option.map_eq_some_iff.1 hy
            simp only [RA] at h1
            obtain ⟨us, rfl, h3, h4⟩ := h1
            simp only [RP]
            exact ⟨us, rfl, frzCs_sound hγ hM0 hlive hqs h3, h4⟩
          · exact frzC_sound hγ hM0 hlive hy h1
        · cases h
    exact this vs ps xs hps h1
  · rename_i f cap
    obtain ⟨ps, hps, rfl⟩ := Option.map_eq_some_iff.1 h
    simp only [RA] at hx
    obtain ⟨xs, rfl, h1⟩ := hx
    simp only [RP]
    refine ⟨xs, rfl, ?_⟩
    have : ∀ (vs : List AV) (ps : List PV) (xs : List Value), frzA.frzFs objs vs = some ps → RAs Y γ w M vs xs → RPs w M0 ps xs := by
      intro vs
      induction vs with
      | nil => intro ps xs h hx; simp only [frzA.frzFs, Option.some.injEq] at h; subst h; simpa only [RAs, RPs] using hx
      | cons x l ih =>
        intro ps xs h hx
        simp only [frzA.frzFs] at h
        split at h
        · rename_i y ys hy hys
          obtain rfl := Option.some.inj h
          simp only [RAs] at hx
          obtain ⟨v, vs', rfl, h1, h2⟩ := hx
          simp only [RPs]
          refine ⟨v, vs', rfl, ?_, ih ys vs' hys h2⟩
          unfold frzA.frzF1 at hy
          split at hy
          · exact frzP_sound hγ hM0 hlive hy h1
          · exact frzC_sound hγ hM0 hlive hy h1
        · cases h
    exact this cap ps xs hps h1
  · exact frzP_sound hγ hM0 hlive h hx
  · exact frzC_sound hγ hM0 hlive h hx
end
end Go.AE
