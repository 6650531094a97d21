/- YtombondekjflaaaAhWalk: a part of the proof; see the last text for what is proved. -/
import Derived.Test.YtombondekjflaaaAhCall
set_option linter.unusedVariables false
set_option linter.unusedSimpArgs false
namespace Go.AE
open Go.RowKit

variable {P : Program} {X : Env P}

inductive Fr where
  | code (c : Code)
  | blk (id : Nat)

def WX (X : Env P) (Q : Exit → St → Prop) : List Fr → Exit → St → Prop
  | [], e, st => Q e st
  | .code c :: k, .normal, st => AW X c st (fun e st' => WX X Q k e st')
  | .code _ :: k, e, st => WX X Q k e st
  | .blk _ :: k, .normal, st => WX X Q k .normal st
  | .blk id :: k, .exit j, st => if j = id then WX X Q k .normal st else WX X Q k (.exit j) st
  | .blk _ :: k, e, st => WX X Q k e st

section
variable {Q : Exit → St → Prop} {k : List Fr} {st : St}

theorem WX.start {c : Code} (h : WX X Q [.code c] .normal st) : AW X c st Q := h
theorem WX.nil {e : Exit} (h : Q e st) : WX X Q [] e st := by cases e <;> exact h
theorem WX.seq {a b : Code} (h : WX X Q (.code a :: .code b :: k) .normal st) : WX X Q (.code (.seq a b) :: k) .normal st := by
  refine AW.seq (AW.mono h ?_)
  intro e st' h'
  cases e <;> exact h'
theorem WX.block {id : Nat} {c : Code} (h : WX X Q (.code c :: .blk id :: k) .normal st) : WX X Q (.code (.block id c) :: k) .normal st := by
  refine AW.block (AW.mono h ?_)
  intro e st' h'
  cases e <;> exact h'
theorem WX.skip (h : WX X Q k .normal st) : WX X Q (.code .skip :: k) .normal st := AW.skip h
theorem WX.label {l : Nat} (h : WX X Q k .normal st) : WX X Q (.code (.label l) :: k) .normal st := AW.label h
theorem WX.ret (h : WX X Q k .ret st) : WX X Q (.code .ret :: k) .normal st := AW.ret h
theorem WX.exit {id : Nat} (h : WX X Q k (.exit id) st) : WX X Q (.code (.exit id) :: k) .normal st := AW.exit h
theorem WX.goto {l : Nat} (h : WX X Q k (.goto l) st) : WX X Q (.code (.goto l) :: k) .normal st := AW.goto h
theorem WX.cond {c : Operand} {x y : Code} {t : Bool} (hc : ev st.regs c = some (.p (.s (.bool t)))) (ht : t = true → WX X Q (.code x :: k) .normal st) (hf : t = false → WX X Q (.code y :: k) .normal st) : WX X Q (.code (.cond c x y) :: k) .normal st := by
  refine AW.cond hc ?_
  cases t
  · exact hf rfl
  · exact ht rfl
theorem WX.cond_true {c : Operand} {x y : Code} (hc : ev st.regs c = some (.p (.s (.bool true)))) (h : WX X Q (.code x :: k) .normal st) : WX X Q (.code (.cond c x y) :: k) .normal st := AW.cond hc h
theorem WX.cond_false {c : Operand} {x y : Code} (hc : ev st.regs c = some (.p (.s (.bool false)))) (h : WX X Q (.code y :: k) .normal st) : WX X Q (.code (.cond c x y) :: k) .normal st := AW.cond hc h
-- coming out
theorem WX.popBlk {id : Nat} (h : WX X Q k .normal st) : WX X Q (.blk id :: k) .normal st := h
theorem WX.popBlkRet {id : Nat} (h : WX X Q k .ret st) : WX X Q (.blk id :: k) .ret st := h
theorem WX.popBlkGoto {id l : Nat} (h : WX X Q k (.goto l) st) : WX X Q (.blk id :: k) (.goto l) st := h
theorem WX.popBlkHit {id : Nat} (h : WX X Q k .normal st) : WX X Q (.blk id :: k) (.exit id) st := by simp only [WX, if_true]; exact h
theorem WX.popBlkPass {id j : Nat} (hne : j ≠ id) (h : WX X Q k (.exit j) st) : WX X Q (.blk id :: k) (.exit j) st := by simp only [WX, if_neg hne]; exact h
theorem WX.popCodeRet {c : Code} (h : WX X Q k .ret st) : WX X Q (.code c :: k) .ret st := h
theorem WX.popCodeExit {c : Code} {j : Nat} (h : WX X Q k (.exit j) st) : WX X Q (.code c :: k) (.exit j) st := h
theorem WX.popCodeGoto {c : Code} {j : Nat} (h : WX X Q k (.goto j) st) : WX X Q (.code c :: k) (.goto j) st := h
theorem WX.weaken {st' : St} (hw : ∀ a w, Inv X st a w → Inv X st' a w) {c : Code} (h : WX X Q (.code c :: k) .normal st') : WX X Q (.code c :: k) .normal st := AW.weaken hw h
end

/-! ### A region, operation by operation -/
def stepK (X : Env P) (ops rest : List Oper) (K : St → Prop) : Option St → Prop
  | some st' => OpsW X ops rest st' K
  | none => False
def guardK (X : Env P) (ops : List Oper) (o : Oper) (rest : List Oper) (st : St) (K : St → Prop) : Option Bool → Prop
  | some g => if g = true then stepK X ops rest K (stepO P X.n o st) else OpsW X ops rest (skipO o st) K
  | none => False
def CallThen (X : Env P) (ops : List Oper) (o : Oper) (rest : List Oper) (st : St) (K : St → Prop) : Prop := OpSem X o st (fun st' => OpsW X ops rest st' K)
def guardC (X : Env P) (ops : List Oper) (o : Oper) (rest : List Oper) (st : St) (K : St → Prop) : Option Bool → Prop
  | some g => if g = true then CallThen X ops o rest st K else OpsW X ops rest (skipO o st) K
  | none => False

section
variable {ops rest : List Oper} {o : Oper} {st : St} {K : St → Prop}
theorem OpsW_nil : OpsW X ops [] st K = K st := rfl
theorem OpsW_cons : OpsW X ops (o :: rest) st K = if isCall o.op = true then guardC X ops o rest st K (guardA ops st.regs o.guard) else guardK X ops o rest st K (guardA ops st.regs o.guard) := by
  simp only [OpsW]
  by_cases hc : isCall o.op = true
  · rw [if_pos hc]
    cases guardA ops st.regs o.guard with
    | none => rfl
    | some g => simp only [guardC, CallThen, OpW, hc, if_true]
  · rw [if_neg hc]
    cases guardA ops st.regs o.guard with
    | none => rfl
    | some g =>
      simp only [guardK, OpW, hc]
      cases stepO P X.n o st <;> rfl
theorem stepK_some {st' : St} : stepK X ops rest K (some st') = OpsW X ops rest st' K := rfl
theorem stepK_none : stepK X ops rest K none = False := rfl
theorem stepK_ite {c : Prop} [Decidable c] {x y : Option St} : stepK X ops rest K (if c then x else y) = if c then stepK X ops rest K x else stepK X ops rest K y := by split <;> rfl
theorem guardK_true : guardK X ops o rest st K (some true) = stepK X ops rest K (stepO P X.n o st) := by simp [guardK]
theorem guardK_false : guardK X ops o rest st K (some false) = OpsW X ops rest (skipO o st) K := by simp [guardK]
theorem guardK_some {b : Bool} : guardK X ops o rest st K (some b) = if b = true then stepK X ops rest K (stepO P X.n o st) else OpsW X ops rest (skipO o st) K := rfl
theorem guardC_true : guardC X ops o rest st K (some true) = CallThen X ops o rest st K := by simp [guardC]
theorem guardC_false : guardC X ops o rest st K (some false) = OpsW X ops rest (skipO o st) K := by simp [guardC]
theorem guardC_some {b : Bool} : guardC X ops o rest st K (some b) = if b = true then CallThen X ops o rest st K else OpsW X ops rest (skipO o st) K := rfl

theorem WX.region {Q : Exit → St → Prop} {k : List Fr} {id : Nat} {ops : Array Oper} (h : ∀ K : St → Prop, (∀ st', WX X Q k .normal st' → K st') → OpsW X ops.toList ops.toList st K) : WX X Q (.code (.region id ops false) :: k) .normal st :=
  AW.region (h _ (fun _ h => h))

theorem CallThen.call {c : Call} {g : FuncId} {ps : List PV} {r : PV} (hs : Ans P g ps r) (ho : o.op = .call c) (hc : callA st.regs st.objs c = some (g, ps)) (hr : r.flat = true) (hd : dstOk X o = true)
    (hk : OpsW X ops rest (putO o.dst (.p r) st) K) : CallThen X ops o rest st K := OpSem.call ho hc hs hr hd hk
theorem CallThen.callP {c : Call} {g : FuncId} {ps : List PV} {r : PV} (hs : Ans P g ps r) (ho : o.op = .call c) (hc : callA st.regs [] c = some (g, ps)) (hd : dstOk X o = true)
    (hk : OpsW X ops rest (putO o.dst (.p r) st) K) : CallThen X ops o rest st K := OpSem.callP ho hc hs hd hk
end

theorem W_enter {f : FuncId} {fn : Func} {c : Code} {args : List PV} {r : PV} (hf : P.funcs[f]? = some fn) (hb : fn.body = some c) (hn : (fn.name == "runtime.NumGoroutine") = false) (hargs : args.length ≤ fn.ntmps)
    (h : ∀ X : Env P, X.ro = none → X.n = fn.ntmps → WX X (RetOk P fn r) [.code c] .normal (initSt args)) : Ans P f args r := Ans.intro hf hb hn hargs h
end Go.AE
