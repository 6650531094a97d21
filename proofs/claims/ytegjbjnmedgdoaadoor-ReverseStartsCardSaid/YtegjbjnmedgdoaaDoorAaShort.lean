/- YtegjbjnmedgdoaaDoorAaShort: a part of the proof; see the last text for what is proved. -/
import Derived.Test.YtegjbjnmedgdoaaDoorAaSub
import Derived.KernelRfl
namespace Go.AE

variable {P : Program} {X : Env P}
theorem WC.rg {Q : Exit → St → Prop} {k : List Fr} {id n : Nat} {ops : Array Oper} {b : Code} {st : St} (hn : X.n = n) (hs : List (Nat × Hint)) (ks os : List Nat) (st' : St) {C : Prop}
    (hc : C) (h : WC X Q (.code b :: k) .normal st') (he : thenKeep ks os (evH P n ops.toList hs 0 ops.toList st) = some (st', C) := by kernel_rfl) : WC X Q (.code (.seq (.region id ops false) b) :: k) .normal st :=
  WX.seq (WC.reg hn hs ks os st' hc he h)
theorem WC.r1 {Q : Exit → St → Prop} {k : List Fr} {id n : Nat} {ops : Array Oper} {st : St} (hn : X.n = n) (hs : List (Nat × Hint)) (ks os : List Nat) (st' : St) {C : Prop}
    (hc : C) (h : WC X Q k .normal st') (he : thenKeep ks os (evH P n ops.toList hs 0 ops.toList st) = some (st', C) := by kernel_rfl) : WC X Q (.code (.region id ops false) :: k) .normal st :=
  WC.reg hn hs ks os st' hc he h
end Go.AE
