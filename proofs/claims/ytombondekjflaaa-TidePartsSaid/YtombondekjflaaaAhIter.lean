/- YtombondekjflaaaAhIter: a part of the proof; see the last text for what is proved. -/
import Derived.Test.YtombondekjflaaaAhEnc
import Derived.Test.YtombondekjflaaaAhRound
set_option linter.unusedVariables false
set_option linter.unusedSimpArgs false
namespace Go.AE
open Go.RowKit

variable {P : Program} {X : Env P}

/-! ### Calls of yield -/
theorem OpsW.append {ops : List Oper} {K : St → Prop} : ∀ (a b : List Oper) (st : St), OpsW X ops a st (fun s => OpsW X ops b s K) → OpsW X ops (a ++ b) st K
  | [], b, st, h => h
  | o :: a, b, st, h => by
    simp only [List.cons_append, OpsW] at h ⊢
    split
    · rename_i g hg
      rw [hg] at h
      split
      · rename_i ht
        simp only [if_pos ht] at h
        exact OpW.mono h fun s hs => OpsW.append a b s hs
      · rename_i ht
        simp only [if_neg ht] at h
        exact OpsW.append a b _ h
    · rename_i hg
      rw [hg] at h
      exact h
def yldRun (P : Program) (n : Nat) (ops : List Oper) (hs : List (Nat × Hint)) (ks os : List Nat) (m : Nat) (st : St) : Option (St × St × List (List PV) × List PV × Prop) :=
  match evH P n ops hs 0 (ops.take m) st, ops.drop m with
  | some (s1, C1), o :: rest =>
    match callOf o.op with
    | some c => match yieldA s1.regs c with
      | some xs => if decide (guardA ops s1.regs o.guard = some true) && dstB n o.dst && !s1.log.stopped && noLitsB s1.regs then
          match thenKeep ks os (evH P n ops hs (m + 1) rest (putO o.dst (.p (.s (.bool true))) { s1 with log := ⟨s1.log.items ++ [xs], false⟩ })), thenKeep ks os (evH P n ops hs (m + 1) rest (putO o.dst (.p (.s (.bool false))) { s1 with log := ⟨s1.log.items ++ [xs], true⟩ })) with
          | some (sT, CT), some (sF, CF) => some (sT, sF, s1.log.items, xs, C1 ∧ CT ∧ CF)
          | _, _ => none
        else none
      | none => none
    | none => none
  | _, _ => none
theorem WC.yld {Q : Exit → St → Prop} {k : List Fr} {id n : Nat} {ops : Array Oper} {st : St} {L : List (List PV)} (hn : X.n = n) (hY : YOk X L) (m : Nat) (hs : List (Nat × Hint)) (ks os : List Nat) (stT stF : St) (items : List (List PV)) (xs : List PV) {C : Prop}
    (hc : C) (he : yldRun P n ops.toList hs ks os m st = some (stT, stF, items, xs, C)) (hL : (items ++ [xs]) <+: L)
    (kT : WC X Q k .normal stT) (kF : WC X Q k .normal stF) : WC X Q (.code (.region id ops false) :: k) .normal st := by
  subst hn
  unfold yldRun at he
  split at he
  · rename_i s1 C1 o rest h1 ho
    split at he
    · rename_i c hcc
      split at he
      · rename_i xs' hy
        split at he
        · rename_i hb
          simp only [Bool.and_eq_true, decide_eq_true_eq, Bool.not_eq_true'] at hb
          split at he
          · rename_i sT CT sF CF hT hF
            simp only [Option.some.injEq, Prod.mk.injEq] at he
            obtain ⟨rfl, rfl, rfl, rfl, rfl⟩ := he
            obtain ⟨sT', hT, lT⟩ := thenKeep_some (X := X) hT
            obtain ⟨sF', hF, lF⟩ := thenKeep_some (X := X) hF
            refine WX.region fun K hK => ?_
            have e : ops.toList = ops.toList.take m ++ (o :: rest) := by rw [← ho]; exact (List.take_append_drop m _).symm
            have hall : OpsW X ops.toList (ops.toList.take m ++ (o :: rest)) st K := by
              refine OpsW.append _ _ _ (evH_sound _ 0 st s1 C1 h1 hc.1 ?_)
              have hop := callOf_some hcc
              simp only [OpsW, hb.1.1.1, if_true]
              unfold OpW
              rw [if_pos (by rw [hop]; unfold yieldA at hy; cases hcc2 : c.callee <;> rw [hcc2] at hy <;> simp [isCall, hcc2] at hy ⊢)]
              exact OpSem.yield hY hop hy hb.1.2 hL hb.2 (dstB_ok hb.1.1.2) (evH_sound _ (m + 1) _ sT' CT hT hc.2.1 (hK sT' (WC.lg lT kT))) (evH_sound _ (m + 1) _ sF' CF hF hc.2.2 (hK sF' (WC.lg lF kF)))
            exact (congrArg (fun l => OpsW X ops.toList l st K) e).mpr hall
          · cases he
        · cases he
      · cases he
    · cases he
  · cases he

/-! ### An iterator's contract out of its body -/
theorem W_it {g : FuncId} {fn : Func} {c : Code} {cap : List PV} {L : List (List PV)} (hf : P.funcs[g]? = some fn) (hb : fn.body = some c) (hn : (fn.name == "runtime.NumGoroutine") = false) (hargs : cap.length + 1 ≤ fn.ntmps)
    (h : ∀ X : Env P, X.ro = none → X.n = fn.ntmps → YOk X L → WC X (IterOk P fn L) [.code c] .normal (initStY cap)) : Iter P g cap L := by
  refine Iter.intro hf hb hn hargs fun X hro hX hY => ?_
  exact AW.of_cl (WX.start (h X hro hX hY))
theorem mapO_some {α β : Type} {f : α → β} {x : Option α} {b : β} (h : x.map f = some b) : ∃ a, x = some a ∧ f a = b := Option.map_eq_some_iff.1 h
theorem pre_ok {α : Type} {val : α → List PV} {its : List (List PV)} {x : α} {l : List α} {L : List (List PV)} (h : its ++ (x :: l).map val = L) : (its ++ [val x]) <+: L := ⟨l.map val, by rw [← h]; simp⟩

/-! ### A range over a function -/
theorem WC.rangeL {Q : Exit → St → Prop} {k : List Fr} {α V R : Type} {g : Operand} {ps : Array Tmp} {assign body : Code} {st : St} {n : Nat} {gf : Nat} {cap : List PV} {Lo : Option (List (List PV))} (hY : YOkO X Lo) (hn : X.n = n)
    (F : List α → V → Option R) (r : R) (head : V → St) (mid : α → V → St) (val : α → List PV) (l : List α) (v₀ : V) (hL : F l v₀ = some r) (ks os : List Nat) (h₀ : keepSt ks os st = some (head v₀))
    (fv : V → AV) (hg : ∀ v, ev (head v).regs g = some (fv v)) (hf : frzA [] (fv v₀) = some (.fn gf cap)) (hI : Iter P gf cap (l.map val)) (hps : ps.toList.all (fun p => decide (p < n)) = true) (hnl : ∀ v, noLitsB (head v).regs = true)
    (hval : ∀ x, (val x).length = ps.toList.length)
    (done : ∀ v, F [] v = some r → WC X Q k .normal (head v))
    (asg : ∀ X' : Env P, YOkO X' Lo → X'.n = n → ∀ x v, WC X' (fun e s => e = .normal ∧ s = mid x v) [.code assign] .normal (rst ps.toList (val x) (head v)))
    (round : ∀ X' : Env P, YOkO X' Lo → X'.n = n → ∀ x xs v, F (x :: xs) v = some r → ∀ K : Exit → St → Prop, (∀ v' s, F xs v' = some r → back s = head v' → K .normal s) → (∀ e s, e ≠ .normal → WC X Q k e (back s) → K e s) → WC X' K [.code body] .normal (mid x v)) :
    WC X Q (.code (.rangeFunc g ps assign body) :: k) .normal st := by
  refine WC.lg (keepSt_lg h₀) ?_
  subst hn
  refine WX.range (Lo := Lo) hY (hg v₀) hf hI hps (hnl v₀) ?_
  have key : ∀ (l : List α) (v : V), F l v = some r → RW P Lo X.n ps.toList assign body (fun e st' => WX X (cl X Q) k e st') (l.map val) (head v) := by
    intro l
    induction l with
    | nil => intro v hv; exact done v hv
    | cons x xs ih =>
      intro v hv
      refine ⟨hval x, fun X' hY' hX' => ?_⟩
      refine AW.of_cl (AW.mono (WX.start (asg X' hY' hX' x v)) ?_)
      rintro e s ⟨s1, hl1, rfl, rfl⟩
      refine ⟨mid x v, hl1, ?_⟩
      intro X'' hY'' hX''
      refine AW.of_cl (WX.start (round X'' hY'' hX'' x xs v hv _ (fun v' s hv' hb => ?_) (fun e s hne hw => ?_)))
      · show RW P Lo X.n ps.toList assign body _ (xs.map val) (back s)
        rw [hb]; exact ih v' hv'
      · cases e <;> first | exact absurd rfl hne | exact hw
  exact key l v₀ hL
theorem WC.range {Q : Exit → St → Prop} {k : List Fr} {α V R : Type} {g : Operand} {ps : Array Tmp} {assign body : Code} {st : St} {n : Nat} {gf : Nat} {cap : List PV} (hn : X.n = n)
    (F : List α → V → Option R) (r : R) (head : V → St) (mid : α → V → St) (val : α → List PV) (l : List α) (v₀ : V) (hL : F l v₀ = some r) (ks os : List Nat) (h₀ : keepSt ks os st = some (head v₀))
    (fv : V → AV) (hg : ∀ v, ev (head v).regs g = some (fv v)) (hf : frzA [] (fv v₀) = some (.fn gf cap)) (hI : Iter P gf cap (l.map val)) (hps : ps.toList.all (fun p => decide (p < n)) = true) (hnl : ∀ v, noLitsB (head v).regs = true)
    (hval : ∀ x, (val x).length = ps.toList.length)
    (done : ∀ v, F [] v = some r → WC X Q k .normal (head v))
    (asg : ∀ X' : Env P, X'.n = n → ∀ x v, WC X' (fun e s => e = .normal ∧ s = mid x v) [.code assign] .normal (rst ps.toList (val x) (head v)))
    (round : ∀ X' : Env P, X'.n = n → ∀ x xs v, F (x :: xs) v = some r → ∀ K : Exit → St → Prop, (∀ v' s, F xs v' = some r → back s = head v' → K .normal s) → (∀ e s, e ≠ .normal → WC X Q k e (back s) → K e s) → WC X' K [.code body] .normal (mid x v)) :
    WC X Q (.code (.rangeFunc g ps assign body) :: k) .normal st :=
  WC.rangeL (Lo := none) trivial hn F r head mid val l v₀ hL ks os h₀ fv hg hf hI hps hnl hval done (fun X' _ => asg X') (fun X' _ => round X')
theorem WC.rangeY {Q : Exit → St → Prop} {k : List Fr} {α V R : Type} {g : Operand} {ps : Array Tmp} {assign body : Code} {st : St} {n : Nat} {gf : Nat} {cap : List PV} {LL : List (List PV)} (hY : YOk X LL) (hn : X.n = n)
    (F : List α → V → Option R) (r : R) (head : V → St) (mid : α → V → St) (val : α → List PV) (l : List α) (v₀ : V) (hL : F l v₀ = some r) (ks os : List Nat) (h₀ : keepSt ks os st = some (head v₀))
    (fv : V → AV) (hg : ∀ v, ev (head v).regs g = some (fv v)) (hf : frzA [] (fv v₀) = some (.fn gf cap)) (hI : Iter P gf cap (l.map val)) (hps : ps.toList.all (fun p => decide (p < n)) = true) (hnl : ∀ v, noLitsB (head v).regs = true)
    (hval : ∀ x, (val x).length = ps.toList.length)
    (done : ∀ v, F [] v = some r → WC X Q k .normal (head v))
    (asg : ∀ X' : Env P, YOk X' LL → X'.n = n → ∀ x v, WC X' (fun e s => e = .normal ∧ s = mid x v) [.code assign] .normal (rst ps.toList (val x) (head v)))
    (round : ∀ X' : Env P, YOk X' LL → X'.n = n → ∀ x xs v, F (x :: xs) v = some r → ∀ K : Exit → St → Prop, (∀ v' s, F xs v' = some r → back s = head v' → K .normal s) → (∀ e s, e ≠ .normal → WC X Q k e (back s) → K e s) → WC X' K [.code body] .normal (mid x v)) :
    WC X Q (.code (.rangeFunc g ps assign body) :: k) .normal st :=
  WC.rangeL (Lo := some LL) hY hn F r head mid val l v₀ hL ks os h₀ fv hg hf hI hps hnl hval done asg round
theorem WC.nextR {K : Exit → St → Prop} {st : St} (ks os : List Nat) {s h : St} (e : keepSt ks os st = some s) (hb : back s = h) (hk : ∀ s, back s = h → K .normal s) : WC X K [] .normal st := WC.lg (keepSt_lg e) (WC.exit_nil (hk s hb))

/-! ### A slice held against nil -/
theorem WC.nilCase {Q : Exit → St → Prop} {k : List Fr} {c : Code} {st : St} {α : Type} {E : Enc α} {l : List α} (d : Nat) (hd : get d st.regs = some (.p (slV E l)))
    (h1 : l = [] → WC X Q (.code c :: k) .normal { st with regs := put d (.p (.sl .isnil l.length (encL E l))) st.regs })
    (h2 : WC X Q (.code c :: k) .normal { st with regs := put d (.p (.sl .nn l.length (encL E l))) st.regs }) : WC X Q (.code c :: k) .normal st := by
  rintro a w ⟨γ, U, V, S⟩
  have hv := S.reg d _ hd
  have go : ∀ t : Tag, RA X.Y γ w (Mut V γ st.objs) (.p (.sl t l.length (encL E l))) (a.tmps.getD d undef) → Inv X { st with regs := put d (.p (.sl t l.length (encL E l))) st.regs } a w := by
    intro t ht
    refine ⟨γ, U, V, S.env, S.size, fun k u hk => ?_, S.outs, S.obj, S.sep, S.own, S.zone, S.ltU, S.ltV, S.defs, fun k n cs hk b hb => ?_, S.kept⟩
    rotate_left 1
    · by_cases h : d = k
      · subst h; simp only [get_put_same, Option.some.injEq] at hk; cases hk
      · simp only [get_put_ne h] at hk; exact S.lits k n cs hk b hb
    by_cases h : d = k
    · subst h
      simp only [get_put_same, Option.some.injEq] at hk
      subst hk
      exact ht
    · simp only [get_put_ne h] at hk
      exact S.reg k u hk
  simp only [slV, RA, RP] at hv
  obtain ⟨A, c', xs, he, _, h3, h4, h5, h6, h7⟩ := hv
  cases A with
  | none =>
    have hxs : xs = [] := by
      cases xs with
      | nil => rfl
      | cons x xs => obtain ⟨ad, h8, _⟩ := h7 (by simp); cases h8
    subst hxs
    have hl : l = [] := by
      cases l with
      | nil => rfl
      | cons x l =>
        have := h5.length
        have hp := E.pos
        have hx := E.len x
        simp only [encL, List.length_append, List.length_nil] at this
        omega
    exact h1 hl a w (go .isnil (by simp only [RA, RP]; exact ⟨none, c', [], he, rfl, h3, h4, h5, h6, h7⟩))
  | some ad => exact h2 a w (go .nn (by simp only [RA, RP]; exact ⟨some ad, c', xs, he, by simp [TagOk], h3, h4, h5, h6, h7⟩))
end Go.AE
