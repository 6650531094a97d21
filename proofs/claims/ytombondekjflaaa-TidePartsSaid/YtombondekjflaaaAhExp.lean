/- YtombondekjflaaaAhExp: a part of the proof; see the last text for what is proved. -/
import Derived.Test.YtombondekjflaaaAhIter
set_option linter.unusedVariables false
set_option linter.unusedSimpArgs false
namespace Go.AE

variable {P : Program} {X : Env P}
/-! ### States, their slots in order -/
def insK {α : Type} (k : Nat) (v : α) : List (Nat × α) → List (Nat × α)
  | [] => [(k, v)]
  | (j, u) :: l => if k ≤ j then (k, v) :: (j, u) :: l else (j, u) :: insK k v l
def nrm {α : Type} : List (Nat × α) → List (Nat × α)
  | [] => []
  | (k, v) :: l => insK k v (nrm l)
theorem get_insK {α : Type} (k : Nat) (v : α) (x : Nat) : ∀ l : List (Nat × α), get x (insK k v l) = if k = x then some v else get x l
  | [] => by simp [insK, get]
  | (j, u) :: l => by
    unfold insK
    split
    · simp [get]
    · rename_i h
      simp only [get]
      by_cases hj : j = x
      · subst hj
        rw [if_pos rfl, if_pos rfl, if_neg (by omega)]
      · rw [if_neg hj, if_neg hj, get_insK k v x l]
theorem get_nrm {α : Type} (x : Nat) : ∀ l : List (Nat × α), get x (nrm l) = get x l
  | [] => rfl
  | (k, v) :: l => by simp only [nrm, get_insK, get_nrm x l, get]
def normSt (st : St) : St := { st with regs := nrm st.regs, objs := nrm st.objs }
theorem normSt_lg (st : St) : Lg X st (normSt st) := fun a w hi => hi.le (fun k v h => by rw [← get_nrm]; exact h) (fun k v h => by rw [← get_nrm]; exact h) rfl rfl

/-! ### Sets of operations -/
def decB (n m : Nat) : Array Bool := ((List.range n).map fun i => m.testBit i).toArray
theorem decB_size (n m : Nat) : (decB n m).size = n := by simp [decB]
theorem decB_get {n m i : Nat} (h : i < n) : (decB n m)[i]? = some (m.testBit i) := by simp [decB, h]
theorem decB_set {n m i : Nat} (h : i < n) : (decB n m).setIfInBounds i true = decB n (m ||| 2 ^ i) := by
  apply Array.ext_getElem?
  intro j
  by_cases hj : j < n
  · rw [decB_get hj, Nat.testBit_or, Nat.testBit_two_pow]
    by_cases hij : i = j
    · subst hij
      rw [Array.getElem?_setIfInBounds_self_of_lt (by rw [decB_size]; exact hj)]; simp
    · rw [Array.getElem?_setIfInBounds_ne hij, decB_get hj]; simp [hij]
  · rw [Array.getElem?_eq_none (by simp [decB_size]; omega), Array.getElem?_eq_none (by rw [decB_size]; omega)]
theorem decB_zero (n : Nat) : decB n 0 = Array.replicate n false := by
  apply Array.ext_getElem?
  intro j
  by_cases hj : j < n
  · rw [decB_get hj, Array.getElem?_replicate, if_pos hj]; simp
  · rw [Array.getElem?_eq_none (by rw [decB_size]; omega), Array.getElem?_eq_none (by simp; omega)]
def rdy (ops : List Oper) (m : Nat) : List Nat := Region.ready .any ops.toArray (decB ops.length m)

def stM (P : Program) (n : Nat) (ops : List Oper) (hs : List (Nat × Hint)) (m : Nat) : Nat → List Oper → St → Option St
  | _, [], st => some (normSt st)
  | i, o :: rest, st =>
    if m.testBit i = true then
      match guardA ops st.regs o.guard with
      | some true => match stepH P n (get i hs) o st with
        | some (st1, _) => stM P n ops hs m (i + 1) rest st1
        | none => none
      | some false => stM P n ops hs m (i + 1) rest (skipO o st)
      | none => none
    else stM P n ops hs m (i + 1) rest st
def stepM (P : Program) (n : Nat) (ops : List Oper) (hs : List (Nat × Hint)) (st : St) (m i : Nat) : Option (St × Option Prop) :=
  match stM P n ops hs m 0 ops st with
  | some s => match ops[i]? with
    | some o => match guardA ops s.regs o.guard with
      | some true => (stepH P n (get i hs) o s).map fun x => (normSt x.1, x.2)
      | some false => some (normSt (skipO o s), none)
      | none => none
    | none => none
  | none => none
def trs (ops : List Oper) (R : List Nat) : List (Nat × Nat) := R.flatMap fun m => (rdy ops m).map fun i => (m, i)
def cnd (f : Nat × Nat → Option Prop) : List (Nat × Nat) → Prop
  | [] => True
  | x :: l => andO (f x) (cnd f l)
theorem cnd_mem {f : Nat × Nat → Option Prop} : ∀ {l : List (Nat × Nat)}, cnd f l → ∀ x ∈ l, ∀ p, f x = some p → p
  | y :: l, h, x, hx, p, hp => by
    obtain ⟨h1, h2⟩ := andO_spl h
    rcases List.mem_cons.1 hx with rfl | hx
    · exact h1 p hp
    · exact cnd_mem h2 x hx p hp
def closedR (ops : List Oper) (R : List Nat) (full : Nat) : Bool :=
  R.contains 0 && R.all (fun m => (rdy ops m).all (fun i => R.contains (m ||| 2 ^ i)) && (!(rdy ops m).isEmpty || m == full))
theorem stM_zero {n : Nat} {ops : List Oper} {hs : List (Nat × Hint)} : ∀ (l : List Oper) (i : Nat) (st : St), stM P n ops hs 0 i l st = some (normSt st)
  | [], _, _ => rfl
  | o :: l, i, st => by rw [stM, if_neg (by simp), stM_zero l]
theorem expM_sound {ops : List Oper} {hs : List (Nat × Hint)} {st0 sF : St} {R : List Nat} {full : Nat} {Q : Exit → Act → World → Prop} (hR : closedR ops R full = true)
    (hS : ((trs ops R).all fun x => (stepM P X.n ops hs st0 x.1 x.2).isSome) = true)
    (hE : ((trs ops R).map fun x => (stepM P X.n ops hs st0 x.1 x.2).map (·.1)) = (trs ops R).map fun x => stM P X.n ops hs (x.1 ||| 2 ^ x.2) 0 ops st0)
    (hC : cnd (fun x => (stepM P X.n ops hs st0 x.1 x.2).bind (·.2)) (trs ops R)) (hF : stM P X.n ops hs full 0 ops st0 = some sF) (hQ : ∀ a w, Inv X sF a w → Q .normal a w) :
    ∀ (fuel : Nat) (m : Nat) (s : St) (a : Act) (w : World), m ∈ R → unl (decB ops.length m) ≤ fuel → stM P X.n ops hs m 0 ops st0 = some s → Inv X s a w → wpAnyIn (fence X) 0 P .any ops.toArray Q fuel (decB ops.length m) a w := by
  simp only [closedR, Bool.and_eq_true, List.all_eq_true, Bool.or_eq_true, Bool.not_eq_true', beq_iff_eq] at hR
  have hmem : ∀ m ∈ R, ∀ i ∈ rdy ops m, (m, i) ∈ trs ops R := fun m hm i hi => List.mem_flatMap.2 ⟨m, hm, List.mem_map.2 ⟨i, hi, rfl⟩⟩
  have leaf : ∀ m ∈ R, ∀ s a w, rdy ops m = [] → stM P X.n ops hs m 0 ops st0 = some s → Inv X s a w → Q .normal a w := by
    intro m hm s a w hr hs hi
    have : m = full := by
      rcases (hR.2 m hm).2 with h | h
      · rw [hr] at h; cases h
      · exact h
    subst this
    rw [hF] at hs
    obtain rfl := Option.some.inj hs
    exact hQ a w hi
  intro fuel
  induction fuel with
  | zero =>
    intro m s a w hm hu hsm hi
    have hall := unl_zero (Nat.le_zero.1 hu)
    have hr : rdy ops m = [] := by
      refine List.eq_nil_iff_forall_not_mem.2 (fun j hj => ?_)
      obtain ⟨h1, o, ho, _⟩ := mem_ready.1 hj
      have hj2 : j < ops.length := by
        have := (Array.getElem?_eq_some_iff.1 ho).1
        simpa using this
      have := hall j (by rw [decB_size]; omega)
      rw [Array.getD_eq_getD_getElem?, this] at h1
      cases h1
    exact ⟨hr, leaf m hm s a w hr hsm hi⟩
  | succ f ih =>
    intro m s a w hm hu hsm hi
    refine ⟨fun hr => leaf m hm s a w hr hsm hi, fun i hmem' => ?_⟩
    have hx := hmem m hm i hmem'
    obtain ⟨h1, o, ho, _⟩ := mem_ready.1 hmem'
    have hilt : i < ops.length := by
      have := (Array.getElem?_eq_some_iff.1 ho).1
      simpa using this
    have ho' : ops[i]? = some o := by simpa using ho
    have hm' : (m ||| 2 ^ i) ∈ R := by
      have := (hR.2 m hm).1 i hmem'
      simpa using this
    have hli : (decB ops.length m)[i]? = some false := by
      rw [Array.getD_eq_getD_getElem?, decB_get hilt] at h1
      rw [decB_get hilt]
      simpa using h1
    have hu' : unl (decB ops.length (m ||| 2 ^ i)) ≤ f := by
      have := unl_set hli
      rw [decB_set hilt] at this
      omega
    have hsome := List.all_eq_true.1 hS _ hx
    have heq : (stepM P X.n ops hs st0 m i).map (·.1) = stM P X.n ops hs (m ||| 2 ^ i) 0 ops st0 := by
      obtain ⟨p, hp⟩ := List.mem_iff_getElem?.1 hx
      have := congrArg (fun l => l[p]?) hE
      simp only [List.getElem?_map, hp, Option.map_some] at this
      exact Option.some.inj this
    obtain ⟨⟨s1, c1⟩, hst⟩ := Option.isSome_iff_exists.1 hsome
    simp only at hst
    have hcond : ∀ p, c1 = some p → p := fun p hp => cnd_mem hC _ hx p (by simp only [hst, Option.bind_some, hp])
    rw [hst] at heq
    have hnext := fun a w hi => ih (m ||| 2 ^ i) s1 a w hm' hu' heq.symm hi
    rw [decB_set hilt]
    unfold wpOpIn
    simp only [ho]
    unfold stepM at hst
    rw [hsm] at hst
    simp only [ho'] at hst
    split at hst
    · rename_i hg
      have hw := guardA_sound (st := s) hg hi
      rw [hw]
      simp only [if_true]
      obtain ⟨⟨s2, c2⟩, h3, h4⟩ := Option.map_eq_some_iff.1 hst
      simp only [Prod.mk.injEq] at h4
      obtain ⟨rfl, rfl⟩ := h4
      refine (stepH_sound (X := X) h3 hcond (K := fun x => x = s2) rfl).sem a w hi _ _ (fun a' w' st' hk hi' => ?_)
      subst hk
      exact hnext a' w' (normSt_lg _ a' w' hi')
    · rename_i hg
      have hw := guardA_sound (st := s) hg hi
      rw [hw]
      simp only [Bool.false_eq_true, if_false]
      simp only [Option.some.injEq, Prod.mk.injEq] at hst
      obtain ⟨rfl, rfl⟩ := hst
      exact ⟨fun f _ => fence_fn f, hnext _ _ (normSt_lg _ _ _ (skipO_sound (o := o) hi))⟩
    · cases hst
theorem WC.exp {Q : Exit → St → Prop} {k : List Fr} {id n : Nat} {ops : Array Oper} {st : St} (hn : X.n = n) (hm : P.follows .mixedOrders = true) (hs : List (Nat × Hint)) (ks os : List Nat) (st' : St) (R : List Nat) (full : Nat) {C : Prop}
    (hR : closedR ops.toList R full = true) (hS : ((trs ops.toList R).all fun x => (stepM P n ops.toList hs st x.1 x.2).isSome) = true)
    (hE : ((trs ops.toList R).map fun x => (stepM P n ops.toList hs st x.1 x.2).map (·.1)) = (trs ops.toList R).map fun x => stM P n ops.toList hs (x.1 ||| 2 ^ x.2) 0 ops.toList st)
    (hc : C) (hC : cnd (fun x => (stepM P n ops.toList hs st x.1 x.2).bind (·.2)) (trs ops.toList R) = C) (hF : ((stM P n ops.toList hs full 0 ops.toList st).bind fun s => keepSt ks os s) = some st')
    (h : WC X Q k .normal st') : WC X Q (.code (.region id ops true) :: k) .normal st := by
  subst hn
  intro a w hi
  refine wpIn_region_any hm ?_
  have hi' : Inv X st a { w with drawn := w.drawn + 1 } := by
    obtain ⟨γ, U, V, S⟩ := hi
    exact ⟨γ, U, V, S.same (Same.drew _ w)⟩
  obtain ⟨sF, hF1, hF2⟩ := Option.bind_eq_some_iff.1 hF
  have h0 : (0 : Nat) ∈ R := by
    have := hR
    simp only [closedR, Bool.and_eq_true] at this
    simpa using this.1
  have := expM_sound (X := X) (Q := Good X (fun e st' => WX X (cl X Q) k e st')) hR hS hE (by rw [hC]; exact hc) hF1 (fun a w hi => ⟨st', h, keepSt_lg hF2 a w hi⟩) ops.size 0 (normSt st) a _ h0 (by unfold unl; rw [decB_zero]; simp) (stM_zero _ _ _) (normSt_lg st a _ hi')
  rw [decB_zero] at this
  simpa using this
end Go.AE
