/- YtombondekjflaaaAhCall: a part of the proof; see the last text for what is proved. -/
import Derived.Test.YtombondekjflaaaAhCtl
set_option linter.unusedVariables false
set_option linter.unusedSimpArgs false
namespace Go.AE
open Go.RowKit

variable {P : Program} {X : Env P}

def Enters (P : Program) (f : FuncId) : Prop := ∀ args w, (callFunc f args).run P w = .ok (.enter f args) w

theorem enters_of {f : FuncId} {fn : Func} {c : Code} (hf : P.funcs[f]? = some fn) (hb : fn.body = some c) (hn : (fn.name == "runtime.NumGoroutine") = false) : Enters P f := by
  intro args w
  have hn' : ¬ fn.name = "runtime.NumGoroutine" := by simpa using hn
  simp [callFunc, hf, hn', hb]

def Ans (P : Program) (f : FuncId) (args : List PV) (r : PV) : Prop :=
  Enters P f ∧ ∀ (w : World) (M : Nat → Prop) (xs : List Value), (∀ b, M b → b < w.heap.size) → GlOk w M → RPs w M args xs →
    Calls P f xs.toArray w fun e w' => ∃ v, e = .returned v ∧ Below w.heap.size w w' ∧ RP w' M r v

mutual
def PV.flat : PV → Bool
  | .s _ => true
  | .agg cs => PV.flats cs
  | .sl _ _ cs => match cs with | [] => true | _ :: _ => false
  | .rop _ => false
  | .fn _ cap => PV.flats cap
  | .tup vs => PV.flats vs
def PV.flats : List PV → Bool
  | [] => true
  | x :: l => PV.flat x && PV.flats l
end

mutual
theorem flat_anywhere {w w' : World} {M M' : Nat → Prop} : ∀ (p : PV) (v : Value), p.flat = true → RP w M p v → RP w' M' p v
  | .s u, v, hf, h => by simpa only [RP] using h
  | .agg cs, v, hf, h => by
    simp only [PV.flat] at hf
    simp only [RP] at h ⊢
    obtain ⟨xs, rfl, h1, h2⟩ := h
    exact ⟨xs, rfl, flats_anywhere cs xs hf h1, h2⟩
  | .sl t n cs, v, hf, h => by
    cases cs with
    | nil =>
      simp only [RP, RPs] at h ⊢
      obtain ⟨A, c, xs, rfl, h1, h2, h3, rfl, h5, h6⟩ := h
      exact ⟨A, c, [], rfl, h1, h2, h3, rfl, h5, fun hne => absurd rfl hne⟩
    | cons c cs => simp [PV.flat] at hf
  | .rop cs, v, hf, h => by simp [PV.flat] at hf
  | .fn f cap, v, hf, h => by
    simp only [PV.flat] at hf
    simp only [RP] at h ⊢
    obtain ⟨xs, rfl, h1⟩ := h
    exact ⟨xs, rfl, flats_anywhere cap xs hf h1⟩
  | .tup vs, v, hf, h => by
    simp only [PV.flat] at hf
    simp only [RP] at h ⊢
    obtain ⟨xs, rfl, h1⟩ := h
    exact ⟨xs, rfl, flats_anywhere vs xs hf h1⟩
theorem flats_anywhere {w w' : World} {M M' : Nat → Prop} : ∀ (ps : List PV) (vs : List Value), PV.flats ps = true → RPs w M ps vs → RPs w' M' ps vs
  | [], vs, hf, h => by simpa only [RPs] using h
  | p :: ps, vs, hf, h => by
    simp only [PV.flats, Bool.and_eq_true] at hf
    simp only [RPs] at h ⊢
    obtain ⟨v, vs', rfl, h1, h2⟩ := h
    exact ⟨v, vs', rfl, flat_anywhere p v hf.1 h1, flats_anywhere ps vs' hf.2 h2⟩
end

def frzAs (objs : List (Nat × Obj)) : List AV → Option (List PV)
  | [] => some []
  | x :: l => match frzA objs x, frzAs objs l with
    | some y, some ys => some (y :: ys)
    | _, _ => none

theorem frzAs_sound {Y : Value} {γ : Nat → Value} {w : World} {M M0 : Nat → Prop} {objs : List (Nat × Obj)} (hγ : ∀ d o, get d objs = some o → SimObj Y γ w M d o) (hM0 : ∀ b, M0 b → M b)
    (hlive : ∀ d o b, get d objs = some o → blk (γ d) = some b → ¬ M0 b) : ∀ {xs : List AV} {ps : List PV} {vs : List Value}, frzAs objs xs = some ps → RAs Y γ w M xs vs → RPs w M0 ps vs
  | [], ps, vs, h, hx => by simp only [frzAs, Option.some.injEq] at h; subst h; simpa only [RAs, RPs] using hx
  | x :: l, ps, vs, h, hx => by
    simp only [frzAs] at h
    split at h
    · rename_i y ys hy hys
      obtain rfl := Option.some.inj h
      simp only [RAs] at hx
      obtain ⟨v, vs', rfl, h1, h2⟩ := hx
      simp only [RPs]
      exact ⟨v, vs', rfl, frzA_sound hγ hM0 hlive hy h1, frzAs_sound hγ hM0 hlive hys h2⟩
    · cases h

def calleeA (regs : List (Nat × AV)) (objs : List (Nat × Obj)) (f : Operand) : Option (FuncId × List PV) :=
  match ev regs f with
  | some x => match frzA objs x with
    | some (.fn g cap) => some (g, cap)
    | _ => none
  | none => none

def callA (regs : List (Nat × AV)) (objs : List (Nat × Obj)) (c : Call) : Option (FuncId × List PV) :=
  match c.callee with
  | .value f => match calleeA regs objs f, evs regs c.args.toList with
    | some (g, cap), some vs => match frzAs objs vs with
      | some ps => some (g, ps ++ cap)
      | none => none
    | _, _ => none
  | _ => none

def dstOk (X : Env P) (o : Oper) : Bool :=
  match o.dst with
  | some d => decide (d < X.n)
  | none => true

theorem below_same {w w' : World} (h : Below w.heap.size w w') (M : Nat → Prop) : Same M w w' := Same.of_below h

theorem Sim.putO {γ : Nat → Value} {U V : Nat → Prop} {st : St} {a : Act} {w w' : World} {v : Value} {av : AV} {o : Oper} (S : Sim X γ U V st a w) (hd : dstOk X o = true) (hw : Same (fun _ => False) w w') (hnl : av.isLit = false)
    (hv : RA X.Y γ w' (Mut V γ st.objs) av v) : Sim X γ U V (Go.AE.putO o.dst av st) (a.put o.dst v) w' := by
  unfold Go.AE.putO
  unfold dstOk at hd
  split
  · rename_i d he
    rw [he] at hd ⊢
    exact S.putReg (by simpa using hd) hw hnl hv
  · rename_i he
    rw [he]
    exact S.same hw

theorem call_wpIn {o : Oper} {c : Call} {f : Operand} {g : FuncId} {cap : List Value} {xs : List Value} {a : Act} {w : World} {next : Act → World → Prop} {Q : Exit → Act → World → Prop} {R : Ending → World → Prop}
    (ho : o.op = .call c) (hc : c.callee = .value f) (hf : a.eval f = .func (.func g) #[] cap.toArray) (hx : c.args.map a.eval = xs.toArray) (he : Enters P g)
    (h : Calls P g (xs ++ cap).toArray w R) (hR : ∀ e w', R e w' → ∃ v, e = .returned v ∧ next (a.put o.dst v) w') : o.wpIn (fence X) 0 P a w next Q := by
  refine ⟨fun f _ => fence_fn f, ?_⟩
  rw [Oper.semAt_eq _ _ _ (by intro c'; rw [ho]; simp)]
  have hr : (execOp a.eval o).run P w = .ok (.enter g (xs ++ cap).toArray) w := by
    simp only [execOp, ho, resolve, hc, hf, hx, Deferred.ofValue, Sem.run_bind, Sem.run_pure, Result.andThen_ok, invoke]
    have := he (xs ++ cap).toArray w
    simpa using this
  rw [hr, Oper.uponIn_enter]
  refine ⟨fun h => by simp [fence_depth] at h, calls_fence.2 (h.mono fun e w' hh => ?_)⟩
  obtain ⟨v, rfl, hn⟩ := hR e w' hh
  exact hn

theorem callA_sound {γ : Nat → Value} {U V : Nat → Prop} {st : St} {a : Act} {w : World} (S : Sim X γ U V st a w) {objs : List (Nat × Obj)} (hsub : ∀ d o, get d objs = some o → get d st.objs = some o) {M0 : Nat → Prop} (hM0 : ∀ b, M0 b → Mut V γ st.objs b)
    (hlive : ∀ d o b, get d objs = some o → blk (γ d) = some b → ¬ M0 b) {c : Call} {g : FuncId} {ps : List PV} (h : callA st.regs objs c = some (g, ps)) :
    ∃ f cap xs, c.callee = .value f ∧ a.eval f = .func (.func g) #[] cap.toArray ∧ c.args.map a.eval = xs.toArray ∧ RPs w M0 ps (xs ++ cap) := by
  have hobj : ∀ d o, get d objs = some o → SimObj X.Y γ w (Mut V γ st.objs) d o := fun d o h => S.obj d o (hsub d o h)
  unfold callA at h
  split at h
  · rename_i f hf
    split at h
    · rename_i g' cap vs hcal hvs
      split at h
      · rename_i qs hqs
        simp only [Option.some.injEq, Prod.mk.injEq] at h
        obtain ⟨rfl, rfl⟩ := h
        unfold calleeA at hcal
        split at hcal
        · rename_i x hx
          split at hcal
          · rename_i g2 cap2 hz
            simp only [Option.some.injEq, Prod.mk.injEq] at hcal
            obtain ⟨rfl, rfl⟩ := hcal
            have h1 := frzA_sound hobj hM0 hlive hz (ev_sound hx S.regG)
            simp only [RP] at h1
            obtain ⟨us, he, h2⟩ := h1
            refine ⟨f, us, c.args.toList.map a.eval, hf, he, by rw [← Array.toList_map], (frzAs_sound hobj hM0 hlive hqs (evs_sound hvs S.regG)).append h2⟩
          · cases hcal
        · cases hcal
      · cases h
    · cases h
  · cases h

theorem OpSem.call {o : Oper} {c : Call} {st : St} {K : St → Prop} {g : FuncId} {ps : List PV} {r : PV} (ho : o.op = .call c) (hc : callA st.regs st.objs c = some (g, ps)) (hs : Ans P g ps r) (hr : r.flat = true) (hd : dstOk X o = true)
    (hk : K (putO o.dst (.p r) st)) : OpSem X o st K := by
  rintro a w ⟨γ, U, V, S⟩ next Q hn
  obtain ⟨f, cap, xs, h1, h2, h3, h4⟩ := callA_sound S (objs := st.objs) (fun _ _ h => h) (M0 := V) (fun b h => .inl h) (fun d o b h1 h2 h3 => S.zone b h3 (S.own b ⟨d, o, h1, h2⟩)) hc
  refine call_wpIn (R := fun e w' => ∃ v, e = .returned v ∧ Below w.heap.size w w' ∧ RP w' V r v) ho h1 h2 h3 hs.1 (hs.2 w V _ S.ltV S.globV h4) ?_
  rintro e w' ⟨v, rfl, hb, hv⟩
  exact ⟨v, rfl, hn _ _ _ hk ⟨γ, U, V, S.putO hd (below_same hb _) rfl (by simp only [RA]; exact flat_anywhere r v hr hv)⟩⟩

theorem OpSem.callP {o : Oper} {c : Call} {st : St} {K : St → Prop} {g : FuncId} {ps : List PV} {r : PV} (ho : o.op = .call c) (hc : callA st.regs [] c = some (g, ps)) (hs : Ans P g ps r) (hd : dstOk X o = true)
    (hk : K (putO o.dst (.p r) st)) : OpSem X o st K := by
  rintro a w ⟨γ, U, V, S⟩ next Q hn
  obtain ⟨f, cap, xs, h1, h2, h3, h4⟩ := callA_sound S (objs := []) (fun d o h => by simp [get] at h) (M0 := Mut V γ st.objs) (fun b h => h) (fun d o b h1 => by simp [get] at h1) hc
  have hlt : ∀ b, Mut V γ st.objs b → b < w.heap.size := by
    rintro b (h | h)
    · exact S.ltV b h
    · exact S.ltU b (S.own b h)
  refine call_wpIn (R := fun e w' => ∃ v, e = .returned v ∧ Below w.heap.size w w' ∧ RP w' (Mut V γ st.objs) r v) ho h1 h2 h3 hs.1 (hs.2 w _ _ hlt S.globM h4) ?_
  rintro e w' ⟨v, rfl, hb, hv⟩
  exact ⟨v, rfl, hn _ _ _ hk ⟨γ, U, V, S.putO hd (below_same hb _) rfl (by simp only [RA]; exact hv)⟩⟩

/-! ### A contract out of a body -/
def resV (P : Program) (st : St) : ResultVar → Option AV
  | .tmp t => get t st.regs
  | .cell c T => match get c st.regs with
    | some x => loadA P st.objs T x
    | none => none
def resVs (P : Program) (st : St) : List ResultVar → Option (List AV)
  | [] => some []
  | x :: l => match resV P st x, resVs P st l with
    | some y, some ys => some (y :: ys)
    | _, _ => none
def resultA (P : Program) (fn : Func) (st : St) : Option AV :=
  match resVs P st fn.results.toList with
  | some [v] => some v
  | some vs => some (.tup vs)
  | none => none

def resF (tmps : Array Value) : ResultVar → Go.Sem Value := fun
  | .tmp t => pure (tmps.getD t undef)
  | .cell a t => do loadVar t (← asAddr (tmps.getD a undef))
theorem results_eq (fn : Func) (tmps : Array Value) : results fn tmps = (do
    let vs ← fn.results.mapM (resF tmps)
    pure (if h : vs.size = 1 then vs[0] else .tuple vs)) := rfl

theorem resVs_sound {γ : Nat → Value} {w : World} {M : Nat → Prop} {Y : Value} {st : St} {tmps : Array Value} (hreg : RegsOk Y γ w M st.regs tmps) (hobj : ∀ d o, get d st.objs = some o → SimObj Y γ w M d o) :
    ∀ (rs : List ResultVar) (vs : List AV), resVs P st rs = some vs → ∃ us : List Value, (rs.mapM (resF tmps)).run P w = .ok us w ∧ RAs Y γ w M vs us
  | [], vs, h => by simp only [resVs, Option.some.injEq] at h; subst h; exact ⟨[], by simp, by simp [RAs]⟩
  | x :: l, vs, h => by
    simp only [resVs] at h
    split at h
    · rename_i y ys hy hys
      obtain rfl := Option.some.inj h
      obtain ⟨us, hu, hr⟩ := resVs_sound hreg hobj l ys hys
      cases x with
      | tmp t =>
        simp only [resV] at hy
        refine ⟨tmps.getD t undef :: us, ?_, by simp only [RAs]; exact ⟨_, _, rfl, hreg t _ hy, hr⟩⟩
        have hc1 : (resF tmps (.tmp t)).run P w = .ok (tmps.getD t undef) w := rfl
        rw [List.mapM_cons, Sem.run_bind, hc1, Result.andThen_ok, Sem.run_bind, hu]
        rfl
      | cell c T =>
        simp only [resV] at hy
        split at hy
        · rename_i z hz
          have hzv := hreg c _ hz
          obtain ⟨u, hu2, hr2⟩ := loadA_sound hobj hy hzv
          have hload : ∃ ad, tmps.getD c undef = .pointer (some ad) ∧ (loadVar T ad).run P w = .ok u w := by
            generalize tmps.getD c undef = q at hu2 hzv
            cases z <;> simp only [loadA] at hy <;> first | (cases hy; done) | skip
            · rename_i p
              cases p <;> simp only at hy <;> first | (cases hy; done) | skip
              simp only [RA, RP] at hzv
              obtain ⟨ad, xs, rfl, _⟩ := hzv
              exact ⟨ad, rfl, by simpa [Instr.loadAt, Instr.sureAddr] using hu2⟩
            · simp only [RA] at hzv
              obtain ⟨b, _, rfl⟩ := hzv
              exact ⟨_, rfl, by simpa [Instr.loadAt, Instr.sureAddr] using hu2⟩
          obtain ⟨ad, he, hl⟩ := hload
          refine ⟨u :: us, ?_, by simp only [RAs]; exact ⟨_, _, rfl, hr2, hr⟩⟩
          have hc1 : (resF tmps (.cell c T)).run P w = .ok u w := by
            show (do loadVar T (← asAddr (tmps.getD c undef)) : Go.Sem Value).run P w = .ok u w
            rw [he]
            simpa [asAddr] using hl
          rw [List.mapM_cons, Sem.run_bind, hc1, Result.andThen_ok, Sem.run_bind, hu]
          rfl
        · cases hy
    · cases h

theorem resultA_sound {γ : Nat → Value} {w : World} {M : Nat → Prop} {Y : Value} {st : St} {tmps : Array Value} (hreg : RegsOk Y γ w M st.regs tmps) (hobj : ∀ d o, get d st.objs = some o → SimObj Y γ w M d o) {fn : Func} {r : AV} (h : resultA P fn st = some r) :
    ∃ v, (results fn tmps).run P w = .ok v w ∧ RA Y γ w M r v := by
  unfold resultA at h
  have key : ∀ vs, resVs P st fn.results.toList = some vs → ∃ us : List Value, (results fn tmps).run P w = .ok (if h : us.toArray.size = 1 then us.toArray[0] else .tuple us.toArray) w ∧ RAs Y γ w M vs us := by
    intro vs hvs
    obtain ⟨us, hu, hr⟩ := resVs_sound (tmps := tmps) hreg hobj _ vs hvs
    refine ⟨us, ?_, hr⟩
    rw [results_eq, Array.mapM_eq_mapM_toList, Sem.run_bind, Sem.run_map, hu]
    rfl
  split at h
  · rename_i v hv
    obtain rfl := Option.some.inj h
    obtain ⟨us, hu, hr⟩ := key _ hv
    simp only [RAs] at hr
    obtain ⟨x, _, rfl, h1, rfl⟩ := hr
    exact ⟨x, by simpa using hu, h1⟩
  · rename_i vs hne hv
    obtain rfl := Option.some.inj h
    obtain ⟨us, hu, hr⟩ := key _ hv
    have hl := hr.length
    have h1 : us.length ≠ 1 := by
      intro e
      rw [e] at hl
      cases vs with
      | nil => simp at hl
      | cons y ys =>
        cases ys with
        | nil => exact hne y rfl
        | cons z zs => simp at hl
    refine ⟨.tuple us.toArray, by rw [hu]; simp [h1], by simp only [RA]; exact ⟨us, rfl, hr⟩⟩
  · cases h

def idx : Nat → List PV → List (Nat × AV)
  | _, [] => []
  | k, p :: ps => (k, .p p) :: idx (k + 1) ps

def initSt (args : List PV) : St := { regs := idx 0 args, objs := [], log := ⟨[], false⟩, outer := [] }

theorem idx_nolit : ∀ (ps : List PV) (j k n : Nat) (cs : List PV), get k (idx j ps) ≠ some (.lit n cs)
  | [], j, k, n, cs => by simp [idx, get]
  | p :: ps, j, k, n, cs => by
    simp only [idx, get]
    split
    · intro h; cases h
    · exact idx_nolit ps _ k n cs

theorem idx_get {w : World} {M : Nat → Prop} {Y : Value} {γ : Nat → Value} : ∀ (ps : List PV) (xs : List Value) (k n : Nat) (v : AV), RPs w M ps xs → get n (idx k ps) = some v → k ≤ n ∧ ∃ x, xs[n - k]? = some x ∧ RA Y γ w M v x
  | [], xs, k, n, v, h, hg => by simp [idx, get] at hg
  | p :: ps, xs, k, n, v, h, hg => by
    simp only [RPs] at h
    obtain ⟨x, xs', rfl, h1, h2⟩ := h
    simp only [idx, get] at hg
    split at hg
    · rename_i he
      subst he
      obtain rfl := Option.some.inj hg
      exact ⟨Nat.le_refl _, x, by simp, by simpa only [RA] using h1⟩
    · rename_i he
      obtain ⟨hle, y, hy, hr⟩ := idx_get ps xs' (k + 1) n v h2 hg
      refine ⟨by omega, y, ?_, hr⟩
      obtain ⟨m, rfl⟩ : ∃ m, n = k + 1 + m := ⟨n - (k + 1), by omega⟩
      rw [show k + 1 + m - k = m + 1 by omega, List.getElem?_cons_succ]
      rwa [show k + 1 + m - (k + 1) = m by omega] at hy

def RetOk (P : Program) (fn : Func) (r : PV) : Exit → St → Prop
  | .normal, st | .ret, st => match resultA P fn st with
    | some av => frzA st.objs av = some r
    | none => False
  | _, _ => False

theorem leaves_marks {F : Fence} {n : Nat} {fn : Func} {tmps : Array Value} {R : Ending → World → Prop} : ∀ (Ds : List Nat) (w : World), Ds.Nodup → (∀ D ∈ Ds, w.heap[D]? = some (Go.Obj.deferred (some []))) →
    (∀ w', Same (fun b => b ∈ Ds) w w' → LeavesIn F n P fn tmps R [] .returning w') → LeavesInM F n P fn tmps R (Ds.map mark) .returning w
  | [], w, _, _, h => h w (Same.refl _ _)
  | D :: Ds, w, hn, hD, h => by
    simp only [List.map_cons, LeavesInM]
    refine ⟨by simp, .inl ⟨D, _, rfl, run_takeDeferred (hD D List.mem_cons_self), ?_⟩⟩
    rw [List.nodup_cons] at hn
    refine leaves_marks Ds _ hn.2 (fun D' hD' => ?_) (fun w' hw' => h w' ?_)
    · rw [World.putObj_heap_other (by rintro rfl; exact hn.1 hD')]
      exact hD D' (List.mem_cons_of_mem _ hD')
    · exact (Same.putObj w D _ (M := fun b => b ∈ D :: Ds) List.mem_cons_self).trans hw' (fun i _ hi => List.mem_cons_of_mem _ hi)

def plainEnv (P : Program) (n : Nat) (w0 : World) (M : Nat → Prop) (hG : GlOk w0 M) : Env P where
  ro := none
  Y := undef
  n := n
  pin := fun _ => undef
  outs := []
  E := fun log U V w => log = ⟨[], false⟩ ∧ V = M ∧ Below w0.heap.size w0 w ∧ (∀ b, U b → w0.heap.size ≤ b) ∧ (∀ b, M b → b < w0.heap.size)
  stable := by
    rintro log U V w w' U' ⟨h1, h2, h3, h4, h5⟩ hs hU
    refine ⟨h1, h2, h3.trans ⟨hs.os, hs.tape, hs.output, hs.size, fun b hb => hs.blk b (Nat.lt_of_lt_of_le hb h3.size) (fun hu => by have := h4 b hu; omega)⟩, fun b hb => ?_, h5⟩
    rcases hU b hb with h | h
    · exact h4 b h
    · exact Nat.le_trans h3.size h
  round := by intro log U V w l _ h; cases h
  glob := by
    rintro log U V w ⟨_, rfl, h3, h4, _⟩
    exact hG.step (below_same h3 _) (fun b hb => hb.elim (fun h => .inr (h4 b h)) .inl)

theorem Ans.intro {f : FuncId} {fn : Func} {c : Code} {args : List PV} {r : PV} (hf : P.funcs[f]? = some fn) (hb : fn.body = some c) (hn : (fn.name == "runtime.NumGoroutine") = false) (hargs : args.length ≤ fn.ntmps)
    (h : ∀ X : Env P, X.ro = none → X.n = fn.ntmps → AW X c (initSt args) (RetOk P fn r)) : Ans P f args r := by
  refine ⟨enters_of hf hb hn, fun w M xs hM hG hx => ?_⟩
  have hlen := hx.length
  rw [← callsIn_wide (n := 0)]
  refine callsIn_of_wp_marks hf hb trivial ?_ rfl
  have S0 : Sim (plainEnv P fn.ntmps w M hG) (fun _ => undef) (fun _ => False) M (initSt args) { tmps := xs.toArray ++ Array.replicate (fn.ntmps - xs.toArray.size) undef, defers := [] } w := by
    refine ⟨⟨rfl, rfl, Below.refl _ _, fun _ h => h.elim, hM⟩, ?_, ?_, ?_, fun d o h => by simp [initSt, get] at h, fun d d' o o' b h => by simp [initSt, get] at h, ?_, fun _ _ h => h, fun _ h => h.elim, hM, ⟨[], rfl, List.nodup_nil, fun _ h => by cases h⟩, fun k n cs hk => absurd hk (idx_nolit args 0 k n cs), fun _ _ => rfl⟩
    · show (xs.toArray ++ Array.replicate (fn.ntmps - xs.toArray.size) undef).size = fn.ntmps
      simp
      omega
    · intro k v hk
      obtain ⟨_, x, hx2, hr⟩ := idx_get (Y := undef) (γ := fun _ => undef) args xs 0 k v hx hk
      simp only [Nat.sub_zero] at hx2
      have hlt : k < xs.length := (List.getElem?_eq_some_iff.1 hx2).1
      have : (xs.toArray ++ Array.replicate (fn.ntmps - xs.toArray.size) undef).getD k undef = x := by
        rw [Array.getD_eq_getD_getElem?, Array.getElem?_append_left (by simpa using hlt)]
        simp [hx2]
      rw [this]
      refine RA.mono (Same.refl M w) (fun b _ hm => ?_) v x hr
      rcases hm with hm | ⟨d, o, hd, _⟩
      · exact hm
      · simp [initSt, get] at hd
    · show OutsOk _ _ _ _ [] []
      simp [OutsOk]
    · rintro b ⟨d, o, hd, _⟩
      simp [initSt, get] at hd
  have h1 := h (plainEnv P fn.ntmps w M hG) rfl rfl _ _ ⟨_, _, _, S0⟩
  have hfe : fence (plainEnv P fn.ntmps w M hG) = Fence.wide := rfl
  rw [hfe] at h1
  refine wpIn_mono h1 ?_
  have fin : ∀ st a' w', RetOk P fn r .ret st → Inv (plainEnv P fn.ntmps w M hG) st a' w' → LeavesInM Fence.wide 0 P fn a'.tmps (fun e w'' => ∃ v, e = .returned v ∧ Below w.heap.size w w'' ∧ RP w'' M r v) a'.defers .returning w' := by
    rintro st a' w' hret ⟨γ, U, V, S⟩
    obtain ⟨Ds, hDs, hnd, hD⟩ := S.defs
    rw [hDs]
    refine leaves_marks Ds w' hnd (fun D hd => (hD D hd).2) (fun w'' hw'' => ?_)
    simp only [RetOk] at hret
    split at hret
    · rename_i av hav
      obtain ⟨_, rfl, hbel, hUs, _⟩ := S.env
      have hother : ∀ (b : Nat) cs T fr, w'.heap[b]? = some (Go.Obj.cells cs T fr) → w''.heap[b]? = w'.heap[b]? := by
        intro b cs T fr hb
        refine hw''.blk b (Array.getElem?_eq_some_iff.1 hb).1 (fun hm => ?_)
        rw [(hD b hm).2] at hb
        cases hb
      have hkeep : Keep (Mut V γ st.objs) w' w'' := fun b cs T fr hb _ => hother b cs T fr hb
      have hless : Less w' (Mut V γ st.objs) (Mut V γ st.objs) := fun _ _ _ _ _ h => h
      have hobj2 : ∀ d o, get d st.objs = some o → SimObj (plainEnv P fn.ntmps w V hG).Y γ w'' (Mut V γ st.objs) d o := fun d o ho =>
        (S.obj d o ho).keep hkeep hless (fun b hb => by obtain ⟨cs, T, fr, hh⟩ := (S.obj d o ho).heap hb; exact hother b cs T fr hh)
      have hreg2 : RegsOk (plainEnv P fn.ntmps w V hG).Y γ w'' (Mut V γ st.objs) st.regs a'.tmps := fun k v hk => RA.keep hkeep hless v _ (S.reg k v hk)
      obtain ⟨v, hv, hrv⟩ := resultA_sound hreg2 hobj2 hav
      refine ⟨v, hv, v, rfl, ?_, frzA_sound hobj2 (fun b h => .inl h) (fun d o b h1 h2 h3 => S.zone b h3 (S.own b ⟨d, o, h1, h2⟩)) hret hrv⟩
      exact hbel.trans ⟨hw''.os, hw''.tape, hw''.output, hw''.size, fun b hb => hw''.blk b (Nat.lt_of_lt_of_le hb hbel.size) (fun hm => by have := hUs b (hD b hm).1; omega)⟩
    · exact hret.elim
  intro e a' w' hg
  cases e <;> simp only [Good, bodyPostM] at hg ⊢ <;> first | exact hg.elim | skip
  · obtain ⟨st, hret, hi⟩ := hg
    exact fin st a' w' hret hi
  · obtain ⟨st, hret, hi⟩ := hg
    exact hret.elim
  · obtain ⟨st, hret, hi⟩ := hg
    exact hret.elim
  · obtain ⟨st, hret, hi⟩ := hg
    exact fin st a' w' hret hi
end Go.AE
