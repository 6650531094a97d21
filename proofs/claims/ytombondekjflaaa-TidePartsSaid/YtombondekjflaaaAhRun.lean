/- YtombondekjflaaaAhRun: a part of the proof; see the last text for what is proved. -/
import Derived.Test.YtombondekjflaaaAhTag
set_option linter.unusedVariables false
set_option linter.unusedSimpArgs false
namespace Go.AE
open Go.RowKit

variable {P : Program} {X : Env P}

inductive Hint where
  | val (v : AV)
  | ob (ob : Obj)
  | app (d0 : Option Nat) (ob : Obj)
  | sto (d : Nat) (ob : Obj)
  | cpy (d : Nat) (ob : Obj) (cnt : Nat)
  | res (r : PV)
  | resP (r : PV)
  | co (ns ks0 ksF : List Nat) (o1 : List (Nat × Obj)) (r : AV)
  | fz (ds : List Nat) (h : Hint)

def pureB : Go.Op → Bool
  | .move _ | .assign _ | .pick _ _ _ | .load _ _ | .nilCheck _ | .binOp _ _ _ _ _ | .unOp _ _ _ | .convert _ _ _ | .slice _ _ _ _ _ | .fieldAddr _ _ _ | .field _ _ _ | .indexAddr _ _ _ | .index _ _ _ => true
  | .call c => match c.callee with
    | .builtin .append => false
    | .builtin .copy => false
    | .builtin _ => true
    | _ => false
  | _ => false
theorem stepO_pure {n : Nat} {o : Oper} {st : St} {d : Nat} {v : AV} (hp : pureB o.op = true) (hd : o.dst = some d) (hn : d < n) (h : pureO P st.regs st.objs o.op = some v) : stepO P n o st = some { st with regs := put d (noLit v) st.regs } := by
  unfold stepO
  rw [hd]
  simp only [hn, if_true]
  cases hop : o.op <;> rw [hop] at hp h <;> simp only [pureB] at hp <;> first | (cases hp; done) | skip
  case call c =>
    cases hc : c.callee with
    | builtin b => rw [hc] at hp; cases b <;> simp only [] at hp <;> first | (cases hp; done) | simp [hc, h]
    | value f => rw [hc] at hp; cases hp
    | _ => rw [hc] at hp; cases hp
  case convert src dst x =>
    have hc : convO P st.regs st.objs (.convert src dst x) = none := by
      unfold convO
      simp only [pureO] at h
      split at h <;> first | (cases h; done) | skip
      all_goals rename_i hx; simp only [hx]
    simp only [hc, h, Option.map_some]
  all_goals simp only [convO, h, Option.map_some]

theorem pureB_call {op : Go.Op} (hp : pureB op = true) : isCall op = false := by
  cases op <;> simp only [pureB] at hp <;> first | (cases hp; done) | (rename_i cc; cases hcc : cc.callee <;> rw [hcc] at hp <;> simp [isCall, hcc] at hp ⊢) | rfl
theorem valueO_pure {regs : List (Nat × AV)} {objs : List (Nat × Obj)} {op : Go.Op} {v : AV} (hp : pureB op = true) (h : pureO P regs objs op = some v) : valueO P regs objs op = some (noLit v) := by
  cases op <;> simp only [pureB] at hp <;> first | (cases hp; done) | skip
  case convert src dst x =>
    cases x with
    | tmp t =>
      have h' := h
      simp only [pureO, ev] at h'
      cases hg : get t regs with
      | none => rw [hg] at h'; cases h'
      | some u => cases u <;> rw [hg] at h' <;> first | (cases h'; done) | (simp only [valueO, hg, h, Option.map_some])
    | _ => simp only [valueO, h, Option.map_some]
  all_goals simp only [valueO, h, Option.map_some]

def allocB : Go.Op → Bool
  | .alloc _ | .box _ _ | .makeSlice _ _ _ | .buildSlice _ _ _ => true
  | _ => false
theorem stepO_alloc {n : Nat} {o : Oper} {st : St} {d : Nat} {ob : Obj} (hp : allocB o.op = true) (hd : o.dst = some d) (hn : d < n) (h : allocO P st.regs st.objs o.op = some ob) : stepO P n o st = some (allocSt d none (ob.kill d) st) := by
  unfold stepO
  rw [hd]
  simp only [hn, if_true]
  cases hop : o.op <;> rw [hop] at hp h <;> simp only [allocB] at hp <;> first | (cases hp; done) | (simp only [h, Option.map_some])
theorem stepO_copy {n : Nat} {o : Oper} {st : St} {d e cnt : Nat} {ob : Obj} (hp : isB .copy o.op = true) (hd : o.dst = some d) (hn : d < n) (h : copyO P st.regs st.objs o.op = some (e, ob, cnt)) :
    stepO P n o st = some { st with regs := put d (.p (.s (.int .i64 (Int.ofNat cnt)))) st.regs, objs := put e ob st.objs } := by
  unfold stepO
  rw [hd]
  simp only [hn, if_true]
  cases hop : o.op <;> rw [hop] at hp h <;> simp only [isB] at hp <;> first | (cases hp; done) | skip
  case call c =>
    cases hc : c.callee with
    | builtin b => rw [hc] at hp; cases b <;> simp only [] at hp <;> first | (cases hp; done) | (simp only [hc, h, Option.map_some])
    | _ => rw [hc] at hp; simp at hp
def isStore : Go.Op → Bool
  | .store _ _ _ => true
  | _ => false
theorem stepO_store {n : Nat} {o : Oper} {st : St} {d : Nat} {ob : Obj} (hp : isStore o.op = true) (hd : o.dst = none) (h : storeO P st.regs st.objs o.op = some (d, ob)) : stepO P n o st = some { st with objs := put d ob st.objs } := by
  unfold stepO
  rw [hd]
  cases hop : o.op <;> rw [hop] at hp h <;> simp only [isStore] at hp <;> first | (cases hp; done) | (simp only [h, Option.map_some])

def callOf : Go.Op → Option Call
  | .call c => some c
  | _ => none
theorem callOf_some {op : Go.Op} {c : Call} (h : callOf op = some c) : op = .call c := by
  cases op <;> simp only [callOf] at h <;> first | (cases h; done) | (obtain rfl := Option.some.inj h; rfl)
def dstB (n : Nat) (d : Option Nat) : Bool :=
  match d with
  | some d => decide (d < n)
  | none => true

def stepH0 (P : Program) (n : Nat) (h : Option Hint) (o : Oper) (st : St) : Option (St × Option Prop) :=
  match h with
  | none => if isCall o.op = true then none else (stepO P n o st).map fun s => (s, none)
  | some (.val v) =>
    match o.dst with
    | some d => if pureB o.op && decide (d < n) then some ({ st with regs := put d (noLit v) st.regs }, some (pureO P st.regs st.objs o.op = some v)) else none
    | none => none
  | some (.ob ob) =>
    match o.dst with
    | some d => if allocB o.op && decide (d < n) then some (allocSt d none (ob.kill d) st, some (allocO P st.regs st.objs o.op = some ob)) else none
    | none => none
  | some (.app d0 ob) =>
    match o.dst with
    | some d => if isB .append o.op && decide (d < n) then some (allocSt d d0 ob st, some (appendO P st.regs st.objs o.op = some (d0, ob))) else none
    | none => none
  | some (.cpy e ob cnt) =>
    match o.dst with
    | some d => if isB .copy o.op && decide (d < n) then some ({ st with regs := put d (.p (.s (.int .i64 (Int.ofNat cnt)))) st.regs, objs := put e ob st.objs }, some (copyO P st.regs st.objs o.op = some (e, ob, cnt))) else none
    | none => none
  | some (.sto d ob) =>
    match o.dst with
    | none => if isStore o.op then some ({ st with objs := put d ob st.objs }, some (storeO P st.regs st.objs o.op = some (d, ob))) else none
    | some _ => none
  | some (.res r) =>
    match callOf o.op with
    | some c => match callA st.regs st.objs c with
      | some (g, ps) => if isCall o.op && dstB n o.dst then some (putO o.dst (.p r) st, some (Ans P g (PV.anyTs ps) r ∧ r.flat = true)) else none
      | none => none
    | none => none
  | some (.resP r) =>
    match callOf o.op with
    | some c => match callA st.regs [] c with
      | some (g, ps) => if isCall o.op && dstB n o.dst then some (putO o.dst (.p r) st, some (Ans P g (PV.anyTs ps) r)) else none
      | none => none
    | none => none
  | some (.co ns ks0 ksF o1 r) =>
    match callOf o.op, keepL st.objs ks0, keepL st.objs ksF with
    | some c, some o0, some F => match callO st.regs o0 F c with
      | some (g, args) => if isCall o.op && dstB n o.dst && calledB n o0 F o1 r st then some (calledSt o.dst r o0 o1 st, some (AnsO P g o0 (AV.tagsBut ns 0 args) o1 r ∧ (if ksF.isEmpty = true then True else r.flat = true ∧ FlatO o1))) else none
      | none => none
    | _, _, _ => none
  | some (.fz _ _) => none

def andO : Option Prop → Prop → Prop
  | none, C => C
  | some c, C => c ∧ C

theorem andO_spl : ∀ {c : Option Prop} {C1 : Prop}, andO c C1 → (∀ p, c = some p → p) ∧ C1
  | none, C1, h => ⟨fun p hp => (by cases hp), h⟩
  | some c, C1, h => ⟨fun p hp => (by obtain rfl := Option.some.inj hp; exact h.1), h.2⟩

theorem dstB_ok {o : Oper} (h : dstB X.n o.dst = true) : dstOk X o = true := by
  unfold dstB at h; unfold dstOk
  cases hd : o.dst <;> rw [hd] at h <;> simp_all

theorem stepH0_sound {h : Option Hint} {o : Oper} {st st' : St} {c : Option Prop} (he : stepH0 P X.n h o st = some (st', c)) (hc : ∀ p, c = some p → p) {K : St → Prop} (hk : K st') : OpW X o st K := by
  have notCall : ∀ {op : Go.Op}, pureB op = true → isCall op = false := by
    intro op hp
    cases op <;> simp only [pureB] at hp <;> first | (cases hp; done) | (rename_i cc; cases hcc : cc.callee <;> rw [hcc] at hp <;> simp [isCall, hcc] at hp ⊢) | rfl
  unfold OpW
  unfold stepH0 at he
  split at he
  · split at he
    · cases he
    · rename_i hcall
      rw [if_neg hcall]
      obtain ⟨s, hs, he⟩ := Option.map_eq_some_iff.1 he
      simp only [Prod.mk.injEq] at he
      obtain ⟨rfl, rfl⟩ := he
      rw [hs]; exact hk
  · split at he
    · rename_i d hd
      split at he
      · rename_i hb
        simp only [Bool.and_eq_true, decide_eq_true_eq] at hb
        simp only [Option.some.injEq, Prod.mk.injEq] at he
        obtain ⟨rfl, rfl⟩ := he
        rw [if_neg (by rw [notCall hb.1]; simp), stepO_pure hb.1 hd hb.2 (hc _ rfl)]
        exact hk
      · cases he
    · cases he
  · split at he
    · rename_i d hd
      split at he
      · rename_i hb
        simp only [Bool.and_eq_true, decide_eq_true_eq] at hb
        simp only [Option.some.injEq, Prod.mk.injEq] at he
        obtain ⟨rfl, rfl⟩ := he
        have hnc : isCall o.op = false := by cases hop : o.op <;> rw [hop] at hb <;> simp only [allocB] at hb <;> first | (cases hb.1; done) | rfl
        rw [if_neg (by rw [hnc]; simp), stepO_alloc hb.1 hd hb.2 (hc _ rfl)]
        exact hk
      · cases he
    · cases he
  · split at he
    · rename_i d hd
      split at he
      · rename_i hb
        simp only [Bool.and_eq_true, decide_eq_true_eq] at hb
        simp only [Option.some.injEq, Prod.mk.injEq] at he
        obtain ⟨rfl, rfl⟩ := he
        have hnc : isCall o.op = false := by
          cases hop : o.op <;> rw [hop] at hb <;> simp only [isB] at hb <;> first | (cases hb.1; done) | skip
          rename_i cc; simp only [isCall]; cases hcc : cc.callee <;> rw [hcc] at hb <;> simp at hb ⊢
        rw [if_neg (by rw [hnc]; simp), stepO_append hb.1 hd hb.2 (hc _ rfl)]
        exact hk
      · cases he
    · cases he
  · split at he
    · rename_i d hd
      split at he
      · rename_i hb
        simp only [Bool.and_eq_true, decide_eq_true_eq] at hb
        simp only [Option.some.injEq, Prod.mk.injEq] at he
        obtain ⟨rfl, rfl⟩ := he
        have hnc : isCall o.op = false := by
          cases hop : o.op <;> rw [hop] at hb <;> simp only [isB] at hb <;> first | (cases hb.1; done) | skip
          rename_i cc; simp only [isCall]; cases hcc : cc.callee <;> rw [hcc] at hb <;> simp at hb ⊢
        rw [if_neg (by rw [hnc]; simp), stepO_copy hb.1 hd hb.2 (hc _ rfl)]
        exact hk
      · cases he
    · cases he
  · split at he
    · rename_i hd
      split at he
      · rename_i hb
        simp only [Option.some.injEq, Prod.mk.injEq] at he
        obtain ⟨rfl, rfl⟩ := he
        have hnc : isCall o.op = false := by cases hop : o.op <;> rw [hop] at hb <;> simp only [isStore] at hb <;> first | (cases hb; done) | rfl
        rw [if_neg (by rw [hnc]; simp), stepO_store hb hd (hc _ rfl)]
        exact hk
      · cases he
    · cases he
  · split at he
    · rename_i cc hcc
      split at he
      · rename_i g ps hca
        split at he
        · rename_i hb
          simp only [Bool.and_eq_true] at hb
          simp only [Option.some.injEq, Prod.mk.injEq] at he
          obtain ⟨rfl, rfl⟩ := he
          have h1 := hc _ rfl
          rw [if_pos hb.1]
          exact OpSem.call (callOf_some hcc) hca h1.1.ofAny h1.2 (dstB_ok hb.2) hk
        · cases he
      · cases he
    · cases he
  · split at he
    · rename_i cc hcc
      split at he
      · rename_i g ps hca
        split at he
        · rename_i hb
          simp only [Bool.and_eq_true] at hb
          simp only [Option.some.injEq, Prod.mk.injEq] at he
          obtain ⟨rfl, rfl⟩ := he
          rw [if_pos hb.1]
          exact OpSem.callP (callOf_some hcc) hca (hc _ rfl).ofAny (dstB_ok hb.2) hk
        · cases he
      · cases he
    · cases he
  · rename_i ks0 ksF o1 r
    split at he
    · rename_i cc o0 F hcc h0 hF
      split at he
      · rename_i g args hca
        split at he
        · rename_i hb
          simp only [Bool.and_eq_true] at hb
          simp only [Option.some.injEq, Prod.mk.injEq] at he
          obtain ⟨rfl, rfl⟩ := he
          have h1 := hc _ rfl
          rw [if_pos hb.1.1]
          refine OpSem.callO (callOf_some hcc) hca h1.1.ofTags (keepL_sub h0) (keepL_sub hF) hb.2 ?_ (dstB_ok hb.1.2) hk
          cases ksF with
          | nil => left; simp only [keepL, Option.some.injEq] at hF; exact hF.symm
          | cons k ks => right; simpa using h1.2
        · cases he
      · cases he
    · cases he
  · cases he

def frzAll : List Nat → St → Option St
  | [], st => some st
  | d :: l, st => match frzSt d st with
    | some s => frzAll l s
    | none => none
theorem frzAll_inv : ∀ {ds : List Nat} {st st' : St}, frzAll ds st = some st' → ∀ a w, Inv X st a w → Inv X st' a w
  | [], st, st', h, a, w, hi => by
    simp only [frzAll, Option.some.injEq] at h
    subst h; exact hi
  | d :: l, st, st', h, a, w, hi => by
    simp only [frzAll] at h
    split at h
    · rename_i s hs
      exact frzAll_inv h a w (frzSt_inv hs hi)
    · cases h
def stepH (P : Program) (n : Nat) (h : Option Hint) (o : Oper) (st : St) : Option (St × Option Prop) :=
  match h with
  | some (.fz ds h') =>
    if isCall o.op = true then
      match frzAll ds st with
      | some s => stepH0 P n (some h') o s
      | none => none
    else none
  | h => stepH0 P n h o st
theorem stepH_sound {h : Option Hint} {o : Oper} {st st' : St} {c : Option Prop} (he : stepH P X.n h o st = some (st', c)) (hc : ∀ p, c = some p → p) {K : St → Prop} (hk : K st') : OpW X o st K := by
  unfold stepH at he
  split at he
  · split at he
    · rename_i hcall
      split at he
      · rename_i s hs
        have := stepH0_sound (X := X) he hc hk
        unfold OpW at this ⊢
        rw [if_pos hcall] at this ⊢
        exact fun a w hi => this a w (frzAll_inv hs a w hi)
      · cases he
    · cases he
  · exact stepH0_sound (X := X) he hc hk


def evH (P : Program) (n : Nat) (ops : List Oper) (hs : List (Nat × Hint)) : Nat → List Oper → St → Option (St × Prop)
  | _, [], st => some (st, True)
  | i, o :: rest, st =>
    match guardA ops st.regs o.guard with
    | some true => match stepH P n (get i hs) o st with
      | some (st1, c) => match evH P n ops hs (i + 1) rest st1 with
        | some (s, C) => some (s, andO c C)
        | none => none
      | none => none
    | some false => evH P n ops hs (i + 1) rest (skipO o st)
    | none => none

theorem OpW.mono' {o : Oper} {st : St} {K K' : St → Prop} (h : OpW X o st K) (hk : ∀ st', K st' → K' st') : OpW X o st K' := h.mono hk
theorem evH_sound {ops : List Oper} {hs : List (Nat × Hint)} {K : St → Prop} : ∀ (l : List Oper) (i : Nat) (st st' : St) (C : Prop), evH P X.n ops hs i l st = some (st', C) → C → K st' → OpsW X ops l st K
  | [], i, st, st', C, h, _, hk => by
    simp only [evH, Option.some.injEq, Prod.mk.injEq] at h
    obtain ⟨rfl, _⟩ := h
    exact hk
  | o :: rest, i, st, st', C, h, hC, hk => by
    simp only [evH] at h
    simp only [OpsW]
    split at h
    · rename_i hg
      rw [hg]
      simp only [if_true]
      split at h
      · rename_i st1 c h1
        split at h
        · rename_i s C1 h2
          simp only [Option.some.injEq, Prod.mk.injEq] at h
          obtain ⟨rfl, rfl⟩ := h
          have hc := andO_spl hC
          exact stepH_sound h1 hc.1 (evH_sound rest (i + 1) st1 s C1 h2 hc.2 hk)
        · cases h
      · cases h
    · rename_i hg
      rw [hg]
      simp only [Bool.false_eq_true, if_false]
      exact evH_sound rest (i + 1) _ st' C h hC hk
    · cases h

/-! ### Regions that draw -/
def sameV : List En → List (Nat × AV) → Prop
  | [], _ => True
  | (_, o, r) :: l, regs => (match o.dst with | some t => get t regs = r | none => True) ∧ sameV l regs
theorem sameV_ok : ∀ {es : List En} {regs : List (Nat × AV)}, sameV es regs → sameVals es regs
  | [], regs, _ => by simp only [sameVals]
  | (j, o, r) :: l, regs, h => by
    simp only [sameV] at h
    simp only [sameVals]
    refine ⟨fun t ht => ?_, sameV_ok h.2⟩
    have := h.1
    rw [ht] at this
    exact this
def evD (P : Program) (n : Nat) (ops : List Oper) (bs : List (Nat × List Nat)) (hs : List (Nat × Hint)) : List Nat → List (Nat × Obj) → Nat → List Oper → St → Option (St × Prop)
  | _, pend, _, [], st => some (flush pend st, True)
  | ds, pend, i, o :: rest, st =>
    match guardA ops st.regs o.guard with
    | some true =>
      match barF bs i with
      | some [] => match stepH P n (get i hs) o (flush pend st) with
        | some (st1, c) => match evD P n ops bs hs [] [] (i + 1) rest st1 with
          | some (s, C) => some (s, andO c C)
          | none => none
        | none => none
      | some (j :: fl) =>
        match o.dst with
        | some dd =>
          match get i hs with
          | some (.app none (.row T s m cs)) =>
            if ds.contains dd && decide (dd < n) && isB .append o.op then
              match flEnts P ops (j :: fl) (behindD (some dd) ops (j :: fl) (flush pend st) dd (.row T s m cs)) with
              | some es => match evD P n ops bs hs [] [] (i + 1) rest (lex (behindD (some dd) ops (j :: fl) (flush pend st) dd (.row T s m cs)) es) with
                | some (s', C) => some (s', appendO P st.regs (pend ++ st.objs) o.op = some (none, .row T s m cs) ∧ sameV es st.regs ∧ C)
                | none => none
              | none => none
            else none
          | _ => none
        | none =>
          match (match get i hs with | some (.sto d ob) => some ((d, ob), some (storeO P st.regs (pend ++ st.objs) o.op = some (d, ob))) | none => (storeO P st.regs (pend ++ st.objs) o.op).map (fun x => (x, none)) | _ => none) with
          | some ((d, ob), c) => match flEnts P ops (j :: fl) (behindD none ops (j :: fl) (flush pend st) d ob) with
            | some es => match evD P n ops bs hs [] [] (i + 1) rest (lex (behindD none ops (j :: fl) (flush pend st) d ob) es) with
              | some (s, C) => some (s, andO c (sameV es st.regs ∧ C))
              | none => none
            | none => none
          | none => none
      | none =>
        match allocD P o with
        | some (d, ob) => if ds.contains d && dstB n o.dst then evD P n ops bs hs ds (pend ++ [(d, ob)]) (i + 1) rest (putO o.dst (.ptr d 0) st) else none
        | none =>
          match (match get i hs with
            | none => if isCall o.op = true then none else (valueO P st.regs st.objs o.op).map (fun v => (v, none))
            | some (.val v) => if pureB o.op then some (noLit v, some (pureO P st.regs st.objs o.op = some v)) else none
            | some (.res r) => match callOf o.op with
              | some c => match callA st.regs st.objs c with
                | some (g, ps) => if isCall o.op then some (.p r, some (Ans P g (PV.anyTs ps) r ∧ r.flat = true)) else none
                | none => none
              | none => none
            | some (.resP r) => match callOf o.op with
              | some c => match callA st.regs [] c with
                | some (g, ps) => if isCall o.op then some (.p r, some (Ans P g (PV.anyTs ps) r)) else none
                | none => none
              | none => none
            | _ => none : Option (AV × Option Prop)) with
          | some (v, c) => if dstB n o.dst && v.free ds then
              match evD P n ops bs hs ds pend (i + 1) rest (putO o.dst v st) with
              | some (s, C) => some (s, andO c C)
              | none => none
            else none
          | none => none
    | some false => evD P n ops bs hs ds pend (i + 1) rest (skipO o st)
    | none => none

theorem evD_sound {ops : List Oper} {bs : List (Nat × List Nat)} {hs : List (Nat × Hint)} {K : St → Prop} : ∀ (l : List Oper) (ds : List Nat) (pend : List (Nat × Obj)) (i : Nat) (st st' : St) (C : Prop), evD P X.n ops bs hs ds pend i l st = some (st', C) → C → K st' → DrW X ops bs ds pend i l st K
  | [], ds, pend, i, st, st', C, h, _, hk => by
    simp only [evD, Option.some.injEq, Prod.mk.injEq] at h
    obtain ⟨rfl, _⟩ := h
    simp only [DrW]; exact hk
  | o :: rest, ds, pend, i, st, st', C, h, hC, hk => by
    have spl : ∀ {c : Option Prop} {C1 : Prop}, andO c C1 → (∀ p, c = some p → p) ∧ C1 := andO_spl
    simp only [evD] at h
    simp only [DrW]
    split at h
    · rename_i hg
      rw [hg]
      simp only [if_true]
      split at h
      · rename_i hb
        rw [hb]
        simp only
        split at h
        · rename_i st1 c h1
          split at h
          · rename_i s C1 h2
            simp only [Option.some.injEq, Prod.mk.injEq] at h
            obtain ⟨rfl, rfl⟩ := h
            exact stepH_sound h1 (spl hC).1 (evD_sound rest [] [] (i + 1) st1 s C1 h2 (spl hC).2 hk)
          · cases h
        · cases h
      · rename_i j fl hb
        rw [hb]
        simp only
        split at h
        · rename_i dd hdst
          split at h
          · rename_i T sz m cs hh
            split at h
            · rename_i hcond
              simp only [Bool.and_eq_true, decide_eq_true_eq] at hcond
              split at h
              · rename_i es hes
                split at h
                · rename_i s' C1 h2
                  simp only [Option.some.injEq, Prod.mk.injEq] at h
                  obtain ⟨rfl, rfl⟩ := h
                  exact ⟨some dd, dd, _, es, .inr ⟨rfl, hdst, hcond.1.1, hcond.1.2, hcond.2, ⟨_, _, _, _, rfl⟩, hC.1⟩, hes, sameV_ok hC.2.1, evD_sound rest [] [] (i + 1) _ s' C1 h2 hC.2.2 hk⟩
                · cases h
              · cases h
            · cases h
          · cases h
        · rename_i hdst
          split at h
          · rename_i d ob c hst
            split at h
            · rename_i es hes
              split at h
              · rename_i s C1 h2
                simp only [Option.some.injEq, Prod.mk.injEq] at h
                obtain ⟨rfl, rfl⟩ := h
                have hc := spl hC
                refine ⟨none, d, ob, es, .inl ⟨rfl, hdst, ?_⟩, hes, sameV_ok hc.2.1, evD_sound rest [] [] (i + 1) _ s C1 h2 hc.2.2 hk⟩
                split at hst
                · simp only [Option.some.injEq, Prod.mk.injEq] at hst
                  obtain ⟨⟨rfl, rfl⟩, rfl⟩ := hst
                  exact hc.1 _ rfl
                · obtain ⟨x, hx, hxe⟩ := Option.map_eq_some_iff.1 hst
                  simp only [Prod.mk.injEq] at hxe
                  rw [hx, hxe.1]
                · cases hst
              · cases h
            · cases h
          · cases h
      · rename_i hb
        rw [hb]
        simp only
        split at h
        · rename_i d ob hal
          rw [hal]
          simp only
          split at h
          · rename_i hb2
            simp only [Bool.and_eq_true] at hb2
            exact ⟨by simpa using hb2.1, dstB_ok hb2.2, evD_sound rest ds _ (i + 1) _ st' C h hC hk⟩
          · cases h
        · rename_i hal
          rw [hal]
          simp only
          split at h
          · rename_i v c hv
            split at h
            · rename_i hb2
              simp only [Bool.and_eq_true] at hb2
              split at h
              · rename_i s C1 h2
                simp only [Option.some.injEq, Prod.mk.injEq] at h
                obtain ⟨rfl, rfl⟩ := h
                have hc := spl hC
                refine ⟨v, ?_, dstB_ok hb2.1, hb2.2, evD_sound rest ds pend (i + 1) _ s C1 h2 hc.2 hk⟩
                split at hv
                · split at hv
                  · cases hv
                  · rename_i hcall
                    obtain ⟨x, hx, hxe⟩ := Option.map_eq_some_iff.1 hv
                    simp only [Prod.mk.injEq] at hxe
                    exact .inl ⟨by simpa using hcall, by rw [hx, hxe.1]⟩
                · split at hv
                  · rename_i hpb
                    simp only [Option.some.injEq, Prod.mk.injEq] at hv
                    obtain ⟨rfl, rfl⟩ := hv
                    exact .inl ⟨pureB_call hpb, valueO_pure hpb (hc.1 _ rfl)⟩
                  · cases hv
                · split at hv
                  · rename_i cc hcc
                    split at hv
                    · rename_i g ps hca
                      split at hv
                      · simp only [Option.some.injEq, Prod.mk.injEq] at hv
                        obtain ⟨rfl, rfl⟩ := hv
                        have h1 := hc.1 _ rfl
                        exact .inr (.inl ⟨cc, g, ps, _, callOf_some hcc, hca, h1.1.ofAny, h1.2, rfl⟩)
                      · cases hv
                    · cases hv
                  · cases hv
                · split at hv
                  · rename_i cc hcc
                    split at hv
                    · rename_i g ps hca
                      split at hv
                      · simp only [Option.some.injEq, Prod.mk.injEq] at hv
                        obtain ⟨rfl, rfl⟩ := hv
                        exact .inr (.inr ⟨cc, g, ps, _, callOf_some hcc, hca, (hc.1 _ rfl).ofAny, rfl⟩)
                      · cases hv
                    · cases hv
                  · cases hv
                · cases hv
              · cases h
            · cases h
          · cases h
    · rename_i hg
      rw [hg]
      simp only [Bool.false_eq_true, if_false]
      exact evD_sound rest ds pend (i + 1) _ st' C h hC hk
    · cases h
end Go.AE
