/- YtombondekjflaaaAhShort: a part of the proof; see the last text for what is proved. -/
import Derived.Test.YtombondekjflaaaAhSub
import Derived.KernelRfl
namespace Go.AE

variable {P : Program} {X : Env P}
theorem WC.rg {Q : Exit → St → Prop} {k : List Fr} {id n : Nat} {ops : Array Oper} {b : Code} {st : St} (hn : X.n = n) (hs : List (Nat × Hint)) (ks os : List Nat) (st' : St) {C : Prop}
    (hc : C) (h : WC X Q (.code b :: k) .normal st') (he : thenKeep ks os (evH P n ops.toList hs 0 ops.toList st) = some (st', C) := by kernel_rfl) : WC X Q (.code (.seq (.region id ops false) b) :: k) .normal st :=
  WX.seq (WC.reg hn hs ks os st' hc he h)
theorem WC.r1 {Q : Exit → St → Prop} {k : List Fr} {id n : Nat} {ops : Array Oper} {st : St} (hn : X.n = n) (hs : List (Nat × Hint)) (ks os : List Nat) (st' : St) {C : Prop}
    (hc : C) (h : WC X Q k .normal st') (he : thenKeep ks os (evH P n ops.toList hs 0 ops.toList st) = some (st', C) := by kernel_rfl) : WC X Q (.code (.region id ops false) :: k) .normal st :=
  WC.reg hn hs ks os st' hc he h
def keys {α : Type} : List (Nat × α) → List Nat
  | [] => []
  | (k, _) :: l => k :: keys l
theorem WC.rk {Q : Exit → St → Prop} {k : List Fr} {id n : Nat} {ops : Array Oper} {b : Code} {st : St} (hn : X.n = n) (hs : List (Nat × Hint)) (st' : St) {C : Prop}
    (hc : C) (h : WC X Q (.code b :: k) .normal st') (he : thenKeep (keys st'.regs) (keys st'.objs) (evH P n ops.toList hs 0 ops.toList st) = some (st', C) := by kernel_rfl) : WC X Q (.code (.seq (.region id ops false) b) :: k) .normal st :=
  WX.seq (WC.reg hn hs _ _ st' hc he h)
theorem WC.r2 {Q : Exit → St → Prop} {k : List Fr} {id n : Nat} {ops : Array Oper} {st : St} (hn : X.n = n) (hs : List (Nat × Hint)) (st' : St) {C : Prop}
    (hc : C) (h : WC X Q k .normal st') (he : thenKeep (keys st'.regs) (keys st'.objs) (evH P n ops.toList hs 0 ops.toList st) = some (st', C) := by kernel_rfl) : WC X Q (.code (.region id ops false) :: k) .normal st :=
  WC.reg hn hs _ _ st' hc he h
theorem WC.kp {Q : Exit → St → Prop} {k : List Fr} {e : Exit} {st : St} (st' : St) (hk : WC X Q k e st') (h : keepSt (keys st'.regs) (keys st'.objs) st = some st' := by kernel_rfl) : WC X Q k e st := WC.keep _ _ h hk
theorem WC.ct {Q : Exit → St → Prop} {k : List Fr} {st : St} {c : Operand} {x y : Code} {t : Bool} (ht : t = true) (h : WC X Q (.code x :: k) .normal st) (hc : ev st.regs c = some (.p (.s (.bool t))) := by kernel_rfl) : WC X Q (.code (.cond c x y) :: k) .normal st := WC.condT ht hc h
theorem WC.cf {Q : Exit → St → Prop} {k : List Fr} {st : St} {c : Operand} {x y : Code} {t : Bool} (ht : t = false) (h : WC X Q (.code y :: k) .normal st) (hc : ev st.regs c = some (.p (.s (.bool t))) := by kernel_rfl) : WC X Q (.code (.cond c x y) :: k) .normal st := WC.condF ht hc h
abbrev nl : AV := .p (.sl .nil 0 [])
abbrev pI (x : Int) : AV := .p (.s (.int .i64 x))
abbrev pB (x : Bool) : AV := .p (.s (.bool x))
abbrev pW (l : List Int) : AV := .p (slV (eI .u64) l)
abbrev pt (n : Nat) : Nat × AV := (n, .ptr n 0)
end Go.AE
