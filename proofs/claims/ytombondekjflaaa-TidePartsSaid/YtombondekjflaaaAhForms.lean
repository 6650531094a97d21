/- YtombondekjflaaaAhForms: a part of the proof; see the last text for what is proved. -/
import Derived.Test.YtombondekjflaaaAhRound
set_option linter.unusedVariables false
set_option linter.unusedSimpArgs false
namespace Go.AE
open Go.RowKit

variable {P : Program} {X : Env P}

def Sub {α : Type} : List (Nat × α) → List (Nat × α) → Prop
  | [], _ => True
  | (k, v) :: l, r => get k r = some v ∧ Sub l r
theorem Sub.get {α : Type} : ∀ {l r : List (Nat × α)}, Sub l r → ∀ {k : Nat} {v : α}, get k l = some v → get k r = some v
  | [], r, h, k, v, hk => by simp [AE.get] at hk
  | (j, u) :: l, r, h, k, v, hk => by
    simp only [AE.get] at hk
    split at hk
    · rename_i he
      subst he
      rw [← hk]
      exact h.1
    · exact h.2.get hk

theorem live_sub {γ : Nat → Value} {o o' : List (Nat × Obj)} (h : Sub o' o) {b : Nat} (hl : live γ o' b) : live γ o b := by
  obtain ⟨d, ob, h1, h2⟩ := hl
  exact ⟨d, ob, h.get h1, h2⟩

theorem Inv.sub {st st' : St} {a : Act} {w : World} (h : Inv X st a w) (hr : Sub st'.regs st.regs) (ho : Sub st'.objs st.objs) (hl : st'.log = st.log) (hout : st'.outer = st.outer) : Inv X st' a w :=
  h.le (fun _ _ hk => hr.get hk) (fun _ _ hk => ho.get hk) hl hout

theorem WX.sub {Q : Exit → St → Prop} {k : List Fr} {c : Code} {st : St} (st' : St) (hr : Sub st'.regs st.regs) (ho : Sub st'.objs st.objs) (hl : st'.log = st.log) (hout : st'.outer = st.outer)
    (h : WX X Q (.code c :: k) .normal st') : WX X Q (.code c :: k) .normal st := WX.weaken (fun a w hi => hi.sub hr ho hl hout) h

def Le (st st' : St) : Prop := Sub st'.regs st.regs ∧ Sub st'.objs st.objs ∧ st'.log = st.log ∧ st'.outer = st.outer

theorem WX.loop {ι : Type} {Q : Exit → St → Prop} {k : List Fr} {c : Code} {st : St} (I : ι → St) (μ : ι → Nat) (i₀ : ι) (h₀ : Le st (I i₀))
    (round : ∀ i, ∀ K : Exit → St → Prop, (∀ st' j, μ j < μ i → Le st' (I j) → K .normal st') → (∀ e st', e ≠ .normal → WX X Q k e st' → K e st') → WX X K [.code c] .normal (I i)) :
    WX X Q (.code (.loop c) :: k) .normal st := by
  refine AW.loop I μ i₀ (fun a w hi => hi.sub h₀.1 h₀.2.1 h₀.2.2.1 h₀.2.2.2) (fun i => ?_)
  refine WX.start (P := P) (X := X) ?_
  refine round i _ (fun st' j hj hle => ?_) (fun e st' hne hw => ?_)
  · exact ⟨j, hj, fun a w hi => hi.sub hle.1 hle.2.1 hle.2.2.1 hle.2.2.2⟩
  · cases e <;> first | exact absurd rfl hne | exact hw

/-! ### A region that draws, operation by operation -/
def DrX (X : Env P) (ops : List Oper) (bs : List (Nat × List Nat)) : List Nat → List (Nat × Obj) → Nat → List Oper → St → (St → Prop) → Prop
  | _, pend, _, [], st, K => K (flush pend st)
  | ds, pend, i, o :: rest, st, K =>
    match guardA ops st.regs o.guard with
    | some g =>
      if g = true then
        match barF bs i with
        | some [] =>
          if isCall o.op = true then OpSem X o (flush pend st) (fun st' => DrX X ops bs [] [] (i + 1) rest st' K)
          else match stepO P X.n o (flush pend st) with
            | some st' => DrX X ops bs [] [] (i + 1) rest st' K
            | none => False
        | some (j :: fl) => o.dst = none ∧
          match storeO P st.regs (pend ++ st.objs) o.op with
          | some (d, ob) => match flEnts P ops (j :: fl) (behind ops (j :: fl) (flush pend st) d ob) with
            | some es => sameVals es st.regs ∧ DrX X ops bs [] [] (i + 1) rest (lex (behind ops (j :: fl) (flush pend st) d ob) es) K
            | none => False
          | none => False
        | none =>
          match allocD P o with
          | some (d, ob) => ds.contains d = true ∧ dstOk X o = true ∧ DrX X ops bs ds (pend ++ [(d, ob)]) (i + 1) rest (putO o.dst (.ptr d 0) st) K
          | none =>
            if isCall o.op = true then CallV X ds o st (fun st' => DrX X ops bs ds pend (i + 1) rest st' K)
            else match valueO P st.regs st.objs o.op with
              | some v => dstOk X o = true ∧ v.free ds = true ∧ DrX X ops bs ds pend (i + 1) rest (putO o.dst v st) K
              | none => False
      else DrX X ops bs ds pend (i + 1) rest (skipO o st) K
    | none => False

theorem OpW.mono {o : Oper} {st : St} {K K' : St → Prop} (h : OpW X o st K) (hk : ∀ st', K st' → K' st') : OpW X o st K' := by
  unfold OpW at h ⊢
  split
  · rename_i hc
    rw [if_pos hc] at h
    exact fun a w hi next Q hn => h a w hi next Q (fun a' w' st' hk' hi' => hn a' w' st' (hk st' hk') hi')
  · rename_i hc
    rw [if_neg hc] at h
    split at h
    · exact hk _ h
    · exact h

theorem DrX.drw {ops : List Oper} {bs : List (Nat × List Nat)} {K : St → Prop} : ∀ (rest : List Oper) (ds : List Nat) (pend : List (Nat × Obj)) (i : Nat) (st : St), DrX X ops bs ds pend i rest st K → DrW X ops bs ds pend i rest st K
  | [], ds, pend, i, st, h => by simp only [DrX] at h; simp only [DrW]; exact h
  | o :: rest, ds, pend, i, st, h => by
    simp only [DrX] at h
    simp only [DrW]
    split at h
    · rename_i g hg
      rw [hg]
      simp only
      split at h
      · rename_i ht
        rw [if_pos ht]
        split at h
        · rename_i hb
          rw [hb]
          refine OpW.mono (K := fun st' => DrX X ops bs [] [] (i + 1) rest st' K) ?_ (fun st' hk => DrX.drw rest _ _ _ st' hk)
          unfold OpW
          split at h
          · rename_i hc
            rw [if_pos hc]; exact h
          · rename_i hc
            rw [if_neg hc]; exact h
        · rename_i j fl hb
          rw [hb]
          obtain ⟨h0, h⟩ := h
          split at h
          · rename_i d ob hst
            split at h
            · rename_i es hes
              exact ⟨none, d, ob, es, .inl ⟨rfl, h0, hst⟩, hes, h.1, DrX.drw rest _ _ _ _ h.2⟩
            · exact h.elim
          · exact h.elim
        · rename_i hb
          rw [hb]
          simp only
          split at h
          · rename_i d ob hal
            rw [hal]
            exact ⟨by simpa using h.1, h.2.1, DrX.drw rest _ _ _ _ h.2.2⟩
          · rename_i hal
            rw [hal]
            simp only
            split at h
            · obtain ⟨v, h1, h2, h3, h4⟩ := h
              exact ⟨v, h1, h2, h3, DrX.drw rest _ _ _ _ h4⟩
            · rename_i hc
              split at h
              · rename_i v hv
                exact ⟨v, .inl ⟨by simpa using hc, hv⟩, h.1, h.2.1, DrX.drw rest _ _ _ _ h.2.2⟩
              · exact h.elim
      · rename_i ht
        rw [if_neg ht]
        exact DrX.drw rest _ _ _ _ h
    · exact h.elim

def drS (X : Env P) (ops : List Oper) (bs : List (Nat × List Nat)) (i : Nat) (rest : List Oper) (K : St → Prop) : Option St → Prop
  | some st' => DrX X ops bs [] [] (i + 1) rest st' K
  | none => False
def drV (X : Env P) (ops : List Oper) (bs : List (Nat × List Nat)) (ds : List Nat) (pend : List (Nat × Obj)) (i : Nat) (o : Oper) (rest : List Oper) (st : St) (K : St → Prop) : Option AV → Prop
  | some v => dstOk X o = true ∧ v.free ds = true ∧ DrX X ops bs ds pend (i + 1) rest (putO o.dst v st) K
  | none => False
def DrCallB (X : Env P) (ops : List Oper) (bs : List (Nat × List Nat)) (i : Nat) (o : Oper) (rest : List Oper) (st : St) (K : St → Prop) : Prop := OpSem X o st (fun st' => DrX X ops bs [] [] (i + 1) rest st' K)
def DrCallV (X : Env P) (ops : List Oper) (bs : List (Nat × List Nat)) (ds : List Nat) (pend : List (Nat × Obj)) (i : Nat) (o : Oper) (rest : List Oper) (st : St) (K : St → Prop) : Prop := CallV X ds o st (fun st' => DrX X ops bs ds pend (i + 1) rest st' K)
def drA (X : Env P) (ops : List Oper) (bs : List (Nat × List Nat)) (ds : List Nat) (pend : List (Nat × Obj)) (i : Nat) (o : Oper) (rest : List Oper) (st : St) (K : St → Prop) : Bool → Option (Nat × Obj) → Prop
  | _, some (d, ob) => ds.contains d = true ∧ dstOk X o = true ∧ DrX X ops bs ds (pend ++ [(d, ob)]) (i + 1) rest (putO o.dst (.ptr d 0) st) K
  | true, none => DrCallV X ops bs ds pend i o rest st K
  | false, none => drV X ops bs ds pend i o rest st K (valueO P st.regs st.objs o.op)
def drF (X : Env P) (ops : List Oper) (bs : List (Nat × List Nat)) (i : Nat) (rest : List Oper) (st st2 : St) (K : St → Prop) : Option (List En) → Prop
  | some es => sameVals es st.regs ∧ DrX X ops bs [] [] (i + 1) rest (lex st2 es) K
  | none => False
def drL (X : Env P) (ops : List Oper) (bs : List (Nat × List Nat)) (pend : List (Nat × Obj)) (i : Nat) (fl : List Nat) (rest : List Oper) (st : St) (K : St → Prop) : Option (Nat × Obj) → Prop
  | some (d, ob) => drF X ops bs i rest st (behind ops fl (flush pend st) d ob) K (flEnts P ops fl (behind ops fl (flush pend st) d ob))
  | none => False
def drT (X : Env P) (ops : List Oper) (bs : List (Nat × List Nat)) (ds : List Nat) (pend : List (Nat × Obj)) (i : Nat) (o : Oper) (rest : List Oper) (st : St) (K : St → Prop) : Option (List Nat) → Bool → Prop
  | some [], true => DrCallB X ops bs i o rest (flush pend st) K
  | some [], false => drS X ops bs i rest K (stepO P X.n o (flush pend st))
  | some (j :: fl), _ => o.dst = none ∧ drL X ops bs pend i (j :: fl) rest st K (storeO P st.regs (pend ++ st.objs) o.op)
  | none, c => drA X ops bs ds pend i o rest st K c (allocD P o)
def drG (X : Env P) (ops : List Oper) (bs : List (Nat × List Nat)) (ds : List Nat) (pend : List (Nat × Obj)) (i : Nat) (o : Oper) (rest : List Oper) (st : St) (K : St → Prop) : Option Bool → Prop
  | some g => if g = true then drT X ops bs ds pend i o rest st K (barF bs i) (isCall o.op) else DrX X ops bs ds pend (i + 1) rest (skipO o st) K
  | none => False

section
variable {ops rest : List Oper} {bs : List (Nat × List Nat)} {ds : List Nat} {pend : List (Nat × Obj)} {i : Nat} {o : Oper} {st : St} {K : St → Prop}
theorem DrX_nil : DrX X ops bs ds pend i [] st K = K (flush pend st) := by simp only [DrX]
theorem DrX_cons : DrX X ops bs ds pend i (o :: rest) st K = drG X ops bs ds pend i o rest st K (guardA ops st.regs o.guard) := by
  simp only [DrX]
  cases guardA ops st.regs o.guard with
  | none => rfl
  | some g =>
    simp only [drG]
    cases g
    · rfl
    · simp only [if_true]
      cases hb : barF bs i with
      | none =>
        cases hc : isCall o.op <;> simp only [drT, if_true, Bool.false_eq_true, if_false]
        · cases allocD P o with
          | none => simp only [drA]; cases valueO P st.regs st.objs o.op <;> rfl
          | some x => rfl
        · cases allocD P o with
          | none => rfl
          | some x => rfl
      | some fl =>
        cases fl with
        | nil =>
          cases hc : isCall o.op <;> simp only [drT, if_true, Bool.false_eq_true, if_false]
          · cases stepO P X.n o (flush pend st) <;> rfl
          · rfl
        | cons j fl =>
          simp only [drT]
          cases storeO P st.regs (pend ++ st.objs) o.op with
          | none => rfl
          | some x =>
            obtain ⟨d, ob⟩ := x
            simp only [drL]
            cases flEnts P ops (j :: fl) (behind ops (j :: fl) (flush pend st) d ob) <;> rfl
theorem drG_some {g : Bool} : drG X ops bs ds pend i o rest st K (some g) = if g = true then drT X ops bs ds pend i o rest st K (barF bs i) (isCall o.op) else DrX X ops bs ds pend (i + 1) rest (skipO o st) K := rfl
theorem drT_tt : drT X ops bs ds pend i o rest st K (some []) true = DrCallB X ops bs i o rest (flush pend st) K := rfl
theorem drT_tf : drT X ops bs ds pend i o rest st K (some []) false = drS X ops bs i rest K (stepO P X.n o (flush pend st)) := rfl
theorem drT_fl {j : Nat} {fl : List Nat} {c : Bool} : drT X ops bs ds pend i o rest st K (some (j :: fl)) c = (o.dst = none ∧ drL X ops bs pend i (j :: fl) rest st K (storeO P st.regs (pend ++ st.objs) o.op)) := by simp only [drT]
theorem drT_f {c : Bool} : drT X ops bs ds pend i o rest st K none c = drA X ops bs ds pend i o rest st K c (allocD P o) := by simp only [drT]
theorem drL_some {d : Nat} {ob : Obj} {fl : List Nat} : drL X ops bs pend i fl rest st K (some (d, ob)) = drF X ops bs i rest st (behind ops fl (flush pend st) d ob) K (flEnts P ops fl (behind ops fl (flush pend st) d ob)) := rfl
theorem drF_some {es : List En} {st2 : St} : drF X ops bs i rest st st2 K (some es) = (sameVals es st.regs ∧ DrX X ops bs [] [] (i + 1) rest (lex st2 es) K) := rfl
theorem drA_some {c : Bool} {d : Nat} {ob : Obj} : drA X ops bs ds pend i o rest st K c (some (d, ob)) = (ds.contains d = true ∧ dstOk X o = true ∧ DrX X ops bs ds (pend ++ [(d, ob)]) (i + 1) rest (putO o.dst (.ptr d 0) st) K) := by cases c <;> rfl
theorem drA_t : drA X ops bs ds pend i o rest st K true none = DrCallV X ops bs ds pend i o rest st K := rfl
theorem drA_f : drA X ops bs ds pend i o rest st K false none = drV X ops bs ds pend i o rest st K (valueO P st.regs st.objs o.op) := rfl
theorem drS_some {st' : St} : drS X ops bs i rest K (some st') = DrX X ops bs [] [] (i + 1) rest st' K := rfl
theorem drV_some {v : AV} : drV X ops bs ds pend i o rest st K (some v) = (dstOk X o = true ∧ v.free ds = true ∧ DrX X ops bs ds pend (i + 1) rest (putO o.dst v st) K) := rfl
theorem sameVals_nil {regs : List (Nat × AV)} : sameVals [] regs = True := by simp only [sameVals]
theorem sameVals_cons {j : Nat} {f : Oper} {r : Option AV} {l : List En} {regs : List (Nat × AV)} : sameVals ((j, f, r) :: l) regs = ((∀ t, f.dst = some t → get t regs = r) ∧ sameVals l regs) := by simp only [sameVals]
theorem all_some {t : Nat} {p : Nat → Prop} : (∀ s, some t = some s → p s) = p t := propext ⟨fun h => h t rfl, fun h s hs => by obtain rfl := Option.some.inj hs; exact h⟩

theorem WX.draw {Q : Exit → St → Prop} {k : List Fr} {id : Nat} {ops : Array Oper} {st : St} (bs : List (Nat × List Nat)) (ds : List Nat) (hm : P.follows .mixedOrders = true) (hok : drawOk ops.toList = true)
    (hbs : bs.all (fun b => barrier ops.toList b && risingB b.1 b.2 && b.2.all fun j => match ops.toList[j]? with | some f => dstOk X f | none => true) = true) (hfree : freeSt ds st = true)
    (h : ∀ K : St → Prop, (∀ st', WX X Q k .normal st' → K st') → DrX X ops.toList bs ds [] 0 ops.toList st K) : WX X Q (.code (.region id ops true) :: k) .normal st :=
  AW.draw bs ds hm hok hbs hfree (DrX.drw _ _ _ _ _ (h _ (fun _ h => h)))

def drawB (n : Nat) (ops : List Oper) (bs : List (Nat × List Nat)) : Bool :=
  drawOk ops && bs.all (fun b => barrier ops b && risingB b.1 b.2 && b.2.all fun j => match ops[j]? with | some f => (match f.dst with | some d => decide (d < n) | none => true) | none => true)
theorem WX.draws {Q : Exit → St → Prop} {k : List Fr} {id n : Nat} {ops : Array Oper} {st : St} (bs : List (Nat × List Nat)) (ds : List Nat) (hn : X.n = n) (hm : P.follows .mixedOrders = true) (hok : drawB n ops.toList bs = true) (hfree : freeSt ds st = true)
    (h : ∀ K : St → Prop, (∀ st', WX X Q k .normal st' → K st') → DrX X ops.toList bs ds [] 0 ops.toList st K) : WX X Q (.code (.region id ops true) :: k) .normal st := by
  unfold drawB at hok
  rw [Bool.and_eq_true] at hok
  subst hn
  exact WX.draw bs ds hm hok.1 hok.2 hfree h

theorem DrCallV.call {c : Call} {g : FuncId} {ps : List PV} {r : PV} (hs : Ans P g ps r) (ho : o.op = .call c) (hc : callA st.regs st.objs c = some (g, ps)) (hr : r.flat = true) (hd : dstOk X o = true)
    (hk : DrX X ops bs ds pend (i + 1) rest (putO o.dst (.p r) st) K) : DrCallV X ops bs ds pend i o rest st K := ⟨_, .inr (.inl ⟨c, g, ps, r, ho, hc, hs, hr, rfl⟩), hd, rfl, hk⟩
theorem DrCallV.callP {c : Call} {g : FuncId} {ps : List PV} {r : PV} (hs : Ans P g ps r) (ho : o.op = .call c) (hc : callA st.regs [] c = some (g, ps)) (hd : dstOk X o = true)
    (hk : DrX X ops bs ds pend (i + 1) rest (putO o.dst (.p r) st) K) : DrCallV X ops bs ds pend i o rest st K := ⟨_, .inr (.inr ⟨c, g, ps, r, ho, hc, hs, rfl⟩), hd, rfl, hk⟩
theorem DrCallB.call {c : Call} {g : FuncId} {ps : List PV} {r : PV} (hs : Ans P g ps r) (ho : o.op = .call c) (hc : callA st.regs st.objs c = some (g, ps)) (hr : r.flat = true) (hd : dstOk X o = true)
    (hk : DrX X ops bs [] [] (i + 1) rest (putO o.dst (.p r) st) K) : DrCallB X ops bs i o rest st K := OpSem.call ho hc hs hr hd hk
theorem DrCallB.callP {c : Call} {g : FuncId} {ps : List PV} {r : PV} (hs : Ans P g ps r) (ho : o.op = .call c) (hc : callA st.regs [] c = some (g, ps)) (hd : dstOk X o = true)
    (hk : DrX X ops bs [] [] (i + 1) rest (putO o.dst (.p r) st) K) : DrCallB X ops bs i o rest st K := OpSem.callP ho hc hs hd hk
end
end Go.AE
