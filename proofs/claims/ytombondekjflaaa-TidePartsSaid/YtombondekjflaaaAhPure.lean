/- YtombondekjflaaaAhPure: a part of the proof; see the last text for what is proved. -/
import Derived.Test.YtombondekjflaaaAhOp
set_option linter.unusedVariables false
set_option linter.unusedSimpArgs false
namespace Go.AE
open Go.RowKit

variable {P : Program}

mutual
def AV.toP : AV → Option PV
  | .p x => some x
  | .agg cs => (AV.toPs cs).map .agg
  | .fn f cap => (AV.toPs cap).map (.fn f)
  | .tup vs => (AV.toPs vs).map .tup
  | .lit n cs => some (.sl .nn n cs)
  | _ => none
def AV.toPs : List AV → Option (List PV)
  | [] => some []
  | x :: l => match AV.toP x, AV.toPs l with
    | some y, some ys => some (y :: ys)
    | _, _ => none
end

section
variable {Y : Value} {γ : Nat → Value} {w : World} {M : Nat → Prop}
mutual
theorem toP_sound : ∀ (x : AV) (p : PV) (v : Value), x.toP = some p → RA Y γ w M x v → RP w M p v
  | .p q, p, v, h, hr => by simp only [AV.toP, Option.some.injEq] at h; subst h; simpa only [RA] using hr
  | .agg cs, p, v, h, hr => by
    simp only [AV.toP] at h
    obtain ⟨ps, hp, rfl⟩ := Option.map_eq_some_iff.1 h
    simp only [RA] at hr
    obtain ⟨xs, rfl, h1, h2⟩ := hr
    simp only [RP]
    exact ⟨xs, rfl, toPs_sound cs ps xs hp h1, h2⟩
  | .own d, p, v, h, hr => by simp [AV.toP] at h
  | .sub d o n, p, v, h, hr => by simp [AV.toP] at h
  | .ptr d o, p, v, h, hr => by simp [AV.toP] at h
  | .fn f cap, p, v, h, hr => by
    simp only [AV.toP] at h
    obtain ⟨ps, hp, rfl⟩ := Option.map_eq_some_iff.1 h
    simp only [RA] at hr
    obtain ⟨xs, rfl, h1⟩ := hr
    simp only [RP]
    exact ⟨xs, rfl, toPs_sound cap ps xs hp h1⟩
  | .tup vs, p, v, h, hr => by
    simp only [AV.toP] at h
    obtain ⟨ps, hp, rfl⟩ := Option.map_eq_some_iff.1 h
    simp only [RA] at hr
    obtain ⟨xs, rfl, h1⟩ := hr
    simp only [RP]
    exact ⟨xs, rfl, toPs_sound vs ps xs hp h1⟩
  | .yield, p, v, h, hr => by simp [AV.toP] at h
  | .any, p, v, h, hr => by simp [AV.toP] at h
  | .lit n cs, p, v, h, hr => by
    simp only [AV.toP, Option.some.injEq] at h
    subst h
    rw [RA] at hr
    exact hr
theorem toPs_sound : ∀ (xs : List AV) (ps : List PV) (vs : List Value), AV.toPs xs = some ps → RAs Y γ w M xs vs → RPs w M ps vs
  | [], ps, vs, h, hr => by simp only [AV.toPs, Option.some.injEq] at h; subst h; simpa only [RAs, RPs] using hr
  | x :: l, ps, vs, h, hr => by
    simp only [AV.toPs] at h
    split at h
    · rename_i p qs hp hq
      obtain rfl := Option.some.inj h
      simp only [RAs] at hr
      obtain ⟨v, vs', rfl, h1, h2⟩ := hr
      simp only [RPs]
      exact ⟨v, vs', rfl, toP_sound x p v hp h1, toPs_sound l qs vs' hq h2⟩
    · cases h
end
end

def valOf : PV → Option Value
  | .s v => some v
  | _ => none
def valsOf : List PV → Option (List Value)
  | [] => some []
  | x :: l => match valOf x, valsOf l with
    | some v, some vs => some (v :: vs)
    | _, _ => none
theorem valsOf_sound {w : World} {M : Nat → Prop} : ∀ (ps : List PV) (vs xs : List Value), valsOf ps = some vs → RPs w M ps xs → xs = vs
  | [], vs, xs, h, hr => by simp only [valsOf, Option.some.injEq] at h; subst h; simpa only [RPs] using hr
  | x :: l, vs, xs, h, hr => by
    simp only [valsOf] at h
    split at h
    · rename_i v us hv hu
      obtain rfl := Option.some.inj h
      simp only [RPs] at hr
      obtain ⟨y, ys, rfl, h1, h2⟩ := hr
      cases x <;> simp only [valOf] at hv <;> first | (cases hv; done) | skip
      obtain rfl := Option.some.inj hv
      simp only [RP] at h1
      subst h1
      rw [valsOf_sound l us ys hu h2]
    · cases h

def aggVals (x : AV) : Option (List Value) :=
  match x.toP with
  | some (.agg cs) => valsOf cs
  | _ => none
theorem aggVals_sound {Y : Value} {γ : Nat → Value} {w : World} {M : Nat → Prop} {x : AV} {vs : List Value} {v : Value} (h : aggVals x = some vs) (hr : RA Y γ w M x v) : v = .agg vs.toArray := by
  unfold aggVals at h
  split at h
  · rename_i cs hc
    have := toP_sound x _ v hc hr
    simp only [RP] at this
    obtain ⟨xs, rfl, h1, _⟩ := this
    rw [valsOf_sound cs vs xs h h1]
  · cases h

def isNilA (objs : List (Nat × Obj)) : AV → Option Bool
  | .p (.sl .nil _ _) => some true
  | .p (.sl .tight _ _) => some false
  | .p (.sl .nn _ _) => some false
  | .p (.sl .isnil _ _) => some true
  | .p (.sl _ (_ + 1) (_ :: _)) => some false
  | .own d => match get d objs with
    | some (.row _ _ n _) => if 0 < n then some false else none
    | _ => none
  | _ => none

def binA (P : Program) (objs : List (Nat × Obj)) (op : BinOp) (T : TypeId) (x y : AV) : Option AV :=
  match x, y with
  | .p (.s u), .p (.s v) => (binS P op T u v).map fun r => .p (.s r)
  | .p (.fn _ _), .p (.s .nilFunc) | .fn _ _, .p (.s .nilFunc) =>
    match P.underlying T, op with
    | some (.func _ _ _), .eql => some (.p (.s (.bool false)))
    | some (.func _ _ _), .neq => some (.p (.s (.bool true)))
    | _, _ => none
  | _, .p (.sl .nil 0 []) =>
    match P.underlying T, op, isNilA objs x with
    | some (.slice _), .eql, some b => some (.p (.s (.bool b)))
    | some (.slice _), .neq, some b => some (.p (.s (.bool (!b))))
    | _, _, _ => none
  | _, _ =>
    match aggVals x, aggVals y with
    | some us, some vs =>
      if P.eqGuardType P.depth T = false then
        match P.underlying T, eqL P 12 T us vs, op with
        | some d, some r, .eql => if d.isRow then some (.p (.s (.bool r))) else none
        | some d, some r, .neq => if d.isRow then some (.p (.s (.bool (!r)))) else none
        | _, _, _ => none
      else none
    | _, _ => none

section
variable {Y : Value} {γ : Nat → Value} {w : World} {M : Nat → Prop} {objs : List (Nat × Obj)}

theorem isNilA_sound (hobj : ∀ d o, get d objs = some o → SimObj Y γ w M d o) {x : AV} {b : Bool} {v : Value} (h : isNilA objs x = some b) (hr : RA Y γ w M x v) :
    ∃ A n c, v = .slice A n c ∧ A.isNone = b := by
  unfold isNilA at h
  split at h
  · obtain rfl := Option.some.inj h
    simp only [RA, RP] at hr
    obtain ⟨A, c, xs, rfl, ⟨rfl, _⟩, _⟩ := hr
    exact ⟨_, _, _, rfl, rfl⟩
  · obtain rfl := Option.some.inj h
    simp only [RA, RP] at hr
    obtain ⟨A, c, xs, rfl, ⟨hA, _⟩, _⟩ := hr
    exact ⟨_, _, _, rfl, by cases A <;> simp_all⟩
  · obtain rfl := Option.some.inj h
    simp only [RA, RP] at hr
    obtain ⟨A, c, xs, rfl, hA, _⟩ := hr
    exact ⟨_, _, _, rfl, by simp only [TagOk] at hA; cases A <;> simp_all⟩
  · obtain rfl := Option.some.inj h
    simp only [RA, RP] at hr
    obtain ⟨A, c, xs, rfl, hA, _⟩ := hr
    exact ⟨_, _, _, rfl, by simp only [TagOk] at hA; rw [hA]; rfl⟩
  · obtain rfl := Option.some.inj h
    simp only [RA, RP] at hr
    obtain ⟨A, c, xs, rfl, _, _, _, hx, _, hat⟩ := hr
    have : xs ≠ [] := by
      intro e; subst e
      have := hx.length
      simp at this
    obtain ⟨ad, rfl, _⟩ := hat this
    exact ⟨_, _, _, rfl, rfl⟩
  · rename_i d
    split at h
    · rename_i T sz n cs ho
      split at h
      · rename_i hn
        obtain rfl := Option.some.inj h
        simp only [RA] at hr
        have := hobj d _ ho
        simp only [SimObj] at this
        obtain ⟨A, c, xs, hg, hc, _, _, _, _, hb⟩ := this
        obtain ⟨g, cur, rfl, _⟩ := hb (by omega)
        exact ⟨_, _, _, hr.trans hg, rfl⟩
      · cases h
    · cases h
  · cases h

theorem equalIn_slice_nil {T : TypeId} {e : TypeId} (hu : P.underlying T = some (.slice e)) (d : Nat) (A : Option Addr) (n c : Nat) (w : World) :
    (Op.equalIn (d + 1) T (.slice A n c) (.slice none 0 0)).run P w = .ok A.isNone w := by
  simp only [Op.equalIn, Sem.run_bind, run_underlying hu, Result.andThen_ok]
  cases A <;> simp
theorem equalIn_func_nil {T : TypeId} {ps rs : Array TypeId} {b : Bool} (hu : P.underlying T = some (.func ps rs b)) (d : Nat) (f : Fn) (xs ys : Array Value) (w : World) :
    (Op.equalIn (d + 1) T (.func f xs ys) .nilFunc).run P w = .ok false w := by
  simp only [Op.equalIn, Sem.run_bind, run_underlying hu, Result.andThen_ok]
  simp
theorem run_eql_slice {T : TypeId} {e : TypeId} (hu : P.underlying T = some (.slice e)) (A : Option Addr) (n c : Nat) (xo yo : Operand) (w : World) :
    (do eqGuard .eql T xo yo (.slice A n c) (.slice none 0 0); binOp .eql T (.slice A n c) (.slice none 0 0) : Sem Value).run P w = .ok (.bool A.isNone) w := by
  simp only [eqGuard, binOp]
  simp [Op.equal, Op.maxDepth, equalIn_slice_nil hu 9999 A n c w]
theorem run_neq_slice {T : TypeId} {e : TypeId} (hu : P.underlying T = some (.slice e)) (A : Option Addr) (n c : Nat) (xo yo : Operand) (w : World) :
    (do eqGuard .neq T xo yo (.slice A n c) (.slice none 0 0); binOp .neq T (.slice A n c) (.slice none 0 0) : Sem Value).run P w = .ok (.bool (!A.isNone)) w := by
  simp only [eqGuard, binOp]
  simp [Op.equal, Op.maxDepth, equalIn_slice_nil hu 9999 A n c w]
theorem run_eql_func {T : TypeId} {ps rs : Array TypeId} {b : Bool} (hu : P.underlying T = some (.func ps rs b)) (f : Fn) (xs ys : Array Value) (xo yo : Operand) (w : World) :
    (do eqGuard .eql T xo yo (.func f xs ys) .nilFunc; binOp .eql T (.func f xs ys) .nilFunc : Sem Value).run P w = .ok (.bool false) w := by
  simp only [eqGuard, binOp]
  simp [Op.equal, Op.maxDepth, equalIn_func_nil hu 9999 f xs ys w]
theorem run_neq_func {T : TypeId} {ps rs : Array TypeId} {b : Bool} (hu : P.underlying T = some (.func ps rs b)) (f : Fn) (xs ys : Array Value) (xo yo : Operand) (w : World) :
    (do eqGuard .neq T xo yo (.func f xs ys) .nilFunc; binOp .neq T (.func f xs ys) .nilFunc : Sem Value).run P w = .ok (.bool true) w := by
  simp only [eqGuard, binOp]
  simp [Op.equal, Op.maxDepth, equalIn_func_nil hu 9999 f xs ys w]

theorem binA_sound (hobj : ∀ d o, get d objs = some o → SimObj Y γ w M d o) {op : BinOp} {T : TypeId} {x y r : AV} {xv yv : Value} {xo yo : Operand}
    (h : binA P objs op T x y = some r) (hx : RA Y γ w M x xv) (hy : RA Y γ w M y yv) :
    ∃ v, (do eqGuard op T xo yo xv yv; binOp op T xv yv : Sem Value).run P w = .ok v w ∧ RA Y γ w M r v := by
  unfold binA at h
  split at h
  · rename_i u v
    obtain ⟨r', hr', rfl⟩ := Option.map_eq_some_iff.1 h
    simp only [RA, RP] at hx hy
    subst hx; subst hy
    exact ⟨r', binS_sound hr' w, by simp only [RA, RP]⟩
  · simp only [RA, RP] at hx hy
    obtain ⟨xs, rfl, _⟩ := hx
    subst hy
    split at h
    · rename_i hu
      obtain rfl := Option.some.inj h
      exact ⟨.bool false, run_eql_func hu _ _ _ _ _ w, by simp only [RA, RP]⟩
    · rename_i hu
      obtain rfl := Option.some.inj h
      exact ⟨.bool true, run_neq_func hu _ _ _ _ _ w, by simp only [RA, RP]⟩
    · cases h
  · simp only [RA, RP] at hx hy
    obtain ⟨xs, rfl, _⟩ := hx
    subst hy
    split at h
    · rename_i hu
      obtain rfl := Option.some.inj h
      exact ⟨.bool false, run_eql_func hu _ _ _ _ _ w, by simp only [RA, RP]⟩
    · rename_i hu
      obtain rfl := Option.some.inj h
      exact ⟨.bool true, run_neq_func hu _ _ _ _ _ w, by simp only [RA, RP]⟩
    · cases h
  · simp only [RA, RP] at hy
    obtain ⟨A, c, xs, rfl, ⟨rfl, _, rfl⟩, _⟩ := hy
    split at h
    · rename_i b hu hn
      obtain ⟨A, n, c, rfl, rfl⟩ := isNilA_sound hobj hn hx
      obtain rfl := Option.some.inj h
      exact ⟨_, run_eql_slice hu A n c xo yo w, by simp only [RA, RP]⟩
    · rename_i b hu hn
      obtain ⟨A, n, c, rfl, rfl⟩ := isNilA_sound hobj hn hx
      obtain rfl := Option.some.inj h
      exact ⟨_, run_neq_slice hu A n c xo yo w, by simp only [RA, RP]⟩
    · cases h
  · split at h
    · rename_i us vs hu hv
      obtain rfl := aggVals_sound hu hx
      obtain rfl := aggVals_sound hv hy
      split at h
      · rename_i hg
        split at h
        · rename_i d r' hd hr'
          split at h
          · rename_i hrow
            obtain rfl := Option.some.inj h
            refine ⟨.bool r', ?_, by simp only [RA, RP]⟩
            rw [Sem.run_bind, run_eqGuard_agg w .eql T xo yo _ _ hg, Result.andThen_ok, run_eql_struct]
            have := eqL_sound 12 10000 (by omega) T d us vs r' hr' hd w
            simp only [mkV, hrow, if_true] at this
            rw [this]; rfl
          · cases h
        · rename_i d r' hd hr'
          split at h
          · rename_i hrow
            obtain rfl := Option.some.inj h
            refine ⟨.bool (!r'), ?_, by simp only [RA, RP]⟩
            rw [Sem.run_bind, run_eqGuard_agg w .neq T xo yo _ _ hg, Result.andThen_ok, run_neq_struct]
            have := eqL_sound 12 10000 (by omega) T d us vs r' hr' hd w
            simp only [mkV, hrow, if_true] at this
            rw [this]; rfl
          · cases h
        · cases h
      · cases h
    · cases h
end
end Go.AE
