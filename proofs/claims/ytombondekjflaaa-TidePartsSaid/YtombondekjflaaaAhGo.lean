/- YtombondekjflaaaAhGo: a part of the proof; see the last text for what is proved. -/
import Derived.Test.YtombondekjflaaaAhRun
set_option linter.unusedVariables false
set_option linter.unusedSimpArgs false
namespace Go.AE
open Go.RowKit

variable {P : Program} {X : Env P}

def Lg (X : Env P) (st st' : St) : Prop := ∀ a w, Inv X st a w → Inv X st' a w
theorem Lg.refl (st : St) : Lg X st st := fun _ _ h => h
theorem Lg.trans {a b c : St} (h : Lg X a b) (k : Lg X b c) : Lg X a c := fun x w hi => k x w (h x w hi)

def cl (X : Env P) (Q : Exit → St → Prop) (e : Exit) (st : St) : Prop := ∃ st', Lg X st st' ∧ Q e st'
theorem AW.of_cl {c : Code} {st : St} {Q : Exit → St → Prop} (h : AW X c st (cl X Q)) : AW X c st Q := by
  intro a w hi
  refine wpIn_mono (h a w hi) ?_
  intro e a' w' hg
  cases e <;> simp only [Good] at hg ⊢ <;> first | exact hg.elim | skip
  all_goals obtain ⟨st1, ⟨st2, hle, hq⟩, hi1⟩ := hg
  all_goals exact ⟨st2, hq, hle _ _ hi1⟩
abbrev WC (X : Env P) (Q : Exit → St → Prop) : List Fr → Exit → St → Prop := WX X (cl X Q)

theorem WC.lg {Q : Exit → St → Prop} {st st' : St} (hle : Lg X st st') : ∀ {k : List Fr} {e : Exit}, WC X Q k e st' → WC X Q k e st
  | [], e, h => by
    have h' : cl X Q e st' := by cases e <;> exact h
    obtain ⟨s, h1, h2⟩ := h'
    have : cl X Q e st := ⟨s, hle.trans h1, h2⟩
    cases e <;> exact this
  | .code c :: k, .normal, h => WX.weaken (fun a w hi => hle a w hi) h
  | .code c :: k, .exit j, h => WX.popCodeExit (WC.lg hle (k := k) h)
  | .code c :: k, .goto j, h => WX.popCodeGoto (WC.lg hle (k := k) h)
  | .code c :: k, .ret, h => WX.popCodeRet (WC.lg hle (k := k) h)
  | .code c :: k, .panic v, h => WC.lg hle (k := k) (e := .panic v) h
  | .code c :: k, .outgrown, h => WC.lg hle (k := k) (e := .outgrown) h
  | .blk id :: k, .normal, h => WX.popBlk (WC.lg hle (k := k) h)
  | .blk id :: k, .exit j, h => by
    by_cases he : j = id
    · subst he
      simp only [WC, WX, if_true] at h
      exact WX.popBlkHit (WC.lg hle (k := k) h)
    · simp only [WC, WX, if_neg he] at h
      exact WX.popBlkPass he (WC.lg hle (k := k) h)
  | .blk id :: k, .goto j, h => WX.popBlkGoto (WC.lg hle (k := k) h)
  | .blk id :: k, .ret, h => WX.popBlkRet (WC.lg hle (k := k) h)
  | .blk id :: k, .panic v, h => WC.lg hle (k := k) (e := .panic v) h
  | .blk id :: k, .outgrown, h => WC.lg hle (k := k) (e := .outgrown) h

theorem WC.ret_all {Q : Exit → St → Prop} {st : St} (h : Q .ret st) : ∀ {k : List Fr}, WC X Q k .ret st
  | [] => WX.nil ⟨st, Lg.refl _, h⟩
  | .code c :: k => WX.popCodeRet (WC.ret_all h (k := k))
  | .blk id :: k => WX.popBlkRet (WC.ret_all h (k := k))
theorem WC.exit_nil {Q : Exit → St → Prop} {st : St} {e : Exit} (h : Q e st) : WC X Q [] e st := WX.nil ⟨st, Lg.refl _, h⟩
theorem WC.blks {Q : Exit → St → Prop} {st : St} (h : Q .normal st) : ∀ {ids : List Nat}, WC X Q (ids.map .blk) .normal st
  | [] => WX.nil ⟨st, Lg.refl _, h⟩
  | id :: ids => WX.popBlk (WC.blks h)

def keepSt (ks os : List Nat) (st : St) : Option St :=
  match keepL st.regs ks, keepL st.objs os with
  | some r, some o => some { st with regs := r, objs := o }
  | _, _ => none
theorem keepSt_lg {ks os : List Nat} {st st' : St} (h : keepSt ks os st = some st') : Lg X st st' := by
  unfold keepSt at h
  split at h
  · rename_i r o hr ho
    obtain rfl := Option.some.inj h
    exact fun a w hi => hi.le (fun k v hk => (keepL_sub hr).get hk) (fun k v hk => (keepL_sub ho).get hk) rfl rfl
  · cases h
theorem WC.keep {Q : Exit → St → Prop} {k : List Fr} {e : Exit} {st : St} (ks os : List Nat) {st' : St} (h : keepSt ks os st = some st') (hk : WC X Q k e st') : WC X Q k e st := WC.lg (keepSt_lg h) hk

def thenKeep (ks os : List Nat) : Option (St × Prop) → Option (St × Prop)
  | some (s, C) => match keepSt ks os s with
    | some s' => some (s', C)
    | none => none
  | none => none
theorem thenKeep_some {ks os : List Nat} {x : Option (St × Prop)} {st' : St} {C : Prop} (h : thenKeep ks os x = some (st', C)) : ∃ s, x = some (s, C) ∧ Lg X s st' := by
  unfold thenKeep at h
  split at h
  · rename_i s C'
    split at h
    · rename_i s' hs
      simp only [Option.some.injEq, Prod.mk.injEq] at h
      obtain ⟨rfl, rfl⟩ := h
      exact ⟨s, rfl, keepSt_lg hs⟩
    · cases h
  · cases h

theorem WC.reg {Q : Exit → St → Prop} {k : List Fr} {id n : Nat} {ops : Array Oper} {st : St} (hn : X.n = n) (hs : List (Nat × Hint)) (ks os : List Nat) (st' : St) {C : Prop}
    (hc : C) (he : thenKeep ks os (evH P n ops.toList hs 0 ops.toList st) = some (st', C)) (h : WC X Q k .normal st') : WC X Q (.code (.region id ops false) :: k) .normal st := by
  subst hn
  obtain ⟨s, he, hl⟩ := thenKeep_some (X := X) he
  exact WX.region fun K hK => evH_sound ops.toList 0 st s C he hc (hK s (WC.lg hl h))
theorem WC.drw {Q : Exit → St → Prop} {k : List Fr} {id n : Nat} {ops : Array Oper} {st : St} (hn : X.n = n) (bs : List (Nat × List Nat)) (ds : List Nat) (hs : List (Nat × Hint)) (ks os : List Nat) (st' : St) {C : Prop}
    (hc : C) (hm : P.follows .mixedOrders = true) (hok : drawB n ops.toList bs = true) (hfree : freeSt ds st = true)
    (he : thenKeep ks os (evD P n ops.toList bs hs ds [] 0 ops.toList st) = some (st', C)) (h : WC X Q k .normal st') : WC X Q (.code (.region id ops true) :: k) .normal st := by
  unfold drawB at hok
  rw [Bool.and_eq_true] at hok
  subst hn
  obtain ⟨s, he, hl⟩ := thenKeep_some (X := X) he
  exact AW.draw bs ds hm hok.1 hok.2 hfree (evD_sound ops.toList ds [] 0 st s C he hc (WC.lg hl h))

theorem WC.cond {Q : Exit → St → Prop} {k : List Fr} {st : St} {c : Operand} {x y : Code} (t : Bool) (hc : ev st.regs c = some (.p (.s (.bool t)))) (h : (t = true ∧ WC X Q (.code x :: k) .normal st) ∨ (t = false ∧ WC X Q (.code y :: k) .normal st)) : WC X Q (.code (.cond c x y) :: k) .normal st := by
  rcases h with ⟨rfl, h⟩ | ⟨rfl, h⟩
  · exact WX.cond_true hc h
  · exact WX.cond_false hc h
theorem WC.condT {Q : Exit → St → Prop} {k : List Fr} {st : St} {c : Operand} {x y : Code} {t : Bool} (ht : t = true) (hc : ev st.regs c = some (.p (.s (.bool t)))) (h : WC X Q (.code x :: k) .normal st) : WC X Q (.code (.cond c x y) :: k) .normal st := by
  subst ht; exact WX.cond_true hc h
theorem WC.condF {Q : Exit → St → Prop} {k : List Fr} {st : St} {c : Operand} {x y : Code} {t : Bool} (ht : t = false) (hc : ev st.regs c = some (.p (.s (.bool t)))) (h : WC X Q (.code y :: k) .normal st) : WC X Q (.code (.cond c x y) :: k) .normal st := by
  subst ht; exact WX.cond_false hc h
theorem WC.cut {Q : Exit → St → Prop} {k k' : List Fr} {e e' : Exit} {st : St} {ι : Type} {pre : ι → Prop} (J : ι → St) (hk : ∀ i, pre i → WC X Q k' e' (J i)) (h : (∀ i, pre i → WC X Q k' e' (J i)) → WC X Q k e st) : WC X Q k e st := h hk

theorem WC.loop {Q : Exit → St → Prop} {k : List Fr} {c : Code} {st : St} {V R : Type} (L : Nat → V → Option R) (r : R) (head : V → St) (n₀ : Nat) (v₀ : V) (hL : L n₀ v₀ = some r) (hz : ∀ v, L 0 v = none) (ks os : List Nat) (h₀ : keepSt ks os st = some (head v₀))
    (round : ∀ (m : Nat) (v : V), L (m + 1) v = some r → ∀ K : Exit → St → Prop, (∀ v', L m v' = some r → K .normal (head v')) → (∀ e st', e ≠ .normal → WC X Q k e st' → K e st') → WC X K [.code c] .normal (head v)) :
    WC X Q (.code (.loop c) :: k) .normal st := by
  have hl₀ := keepSt_lg (X := X) h₀
  refine AW.loop (fun i : { i : Nat × V // L i.1 i.2 = some r } => head i.val.2) (fun i => i.val.1) ⟨(n₀, v₀), hL⟩ (fun a w hi => hl₀ a w hi) ?_
  rintro ⟨⟨m, v⟩, hm⟩
  cases m with
  | zero => simp only [hz] at hm; cases hm
  | succ m =>
    refine AW.of_cl (AW.mono (AW.of_cl (WX.start (P := P) (X := X) (Q := cl X (fun e st' => thenK (fun st' => ∃ v', L m v' = some r ∧ st' = head v') (fun e st' => WC X Q k e st') e st')) (round m v hm _ (fun v' hv' => ?_) (fun e st' hne hw => ?_)))) ?_)
    · exact ⟨v', hv', rfl⟩
    · cases e <;> first | exact absurd rfl hne | exact hw
    · intro e st' h
      refine ⟨st', Lg.refl _, ?_⟩
      cases e <;> simp only [thenK] at h ⊢
      · obtain ⟨v', hv', rfl⟩ := h
        exact ⟨⟨(m, v'), hv'⟩, Nat.lt_succ_self m, fun a w hi => hi⟩
      all_goals exact h
theorem WC.next {K : Exit → St → Prop} {st : St} (ks os : List Nat) {st' : St} (h : keepSt ks os st = some st') (hk : K .normal st') : WC X K [] .normal st := WC.lg (keepSt_lg h) (WC.exit_nil hk)

theorem WC.via {Q : Exit → St → Prop} {k : List Fr} {c : Code} {st : St} {α : Type} (S : α → St) (a : α) (h1 : (∀ a', a' = a → WC X Q k .normal (S a')) → WC X Q (.code c :: k) .normal st) (h2 : WC X Q k .normal (S a)) : WC X Q (.code c :: k) .normal st :=
  h1 fun a' e => by rw [e]; exact h2

/-! ### Into a function, out of it -/
def outP (P : Program) (fn : Func) (st : St) : Option PV :=
  match resultA P fn st with
  | some av => (frzA st.objs av).map PV.anyT
  | none => none
def RetT (P : Program) (fn : Func) (r : PV) : Exit → St → Prop
  | .normal, st | .ret, st => outP P fn st = some r
  | _, _ => False
theorem WC.outP {fn : Func} {r : PV} {k : List Fr} {st : St} (h : outP P fn st = some r) : WC X (RetT P fn r) k .ret st := WC.ret_all h
theorem WC.outPn {fn : Func} {r : PV} {st : St} (h : AE.outP P fn st = some r) : WC X (RetT P fn r) [] .normal st := WC.exit_nil h
def outO (P : Program) (fn : Func) (ks : List Nat) (st : St) : Option (AV × List (Nat × Obj)) :=
  match resultA P fn st, keepL st.objs ks with
  | some av, some o => some (av.anyT, o)
  | _, _ => none
theorem outO_spec {fn : Func} {ks : List Nat} {st : St} {r : AV} {o1 : List (Nat × Obj)} (h : outO P fn ks st = some (r, o1)) : ∃ r0, resultA P fn st = some r0 ∧ r0.anyT = r ∧ Sub o1 st.objs := by
  unfold outO at h
  split at h
  · rename_i av o h1 h2
    simp only [Option.some.injEq, Prod.mk.injEq] at h
    obtain ⟨rfl, rfl⟩ := h
    exact ⟨av, h1, rfl, keepL_sub h2⟩
  · cases h
def RetOT (P : Program) (fn : Func) (ks : List Nat) (o1 : List (Nat × Obj)) (r : AV) : Exit → St → Prop
  | .normal, st | .ret, st => outO P fn ks st = some (r, o1)
  | _, _ => False
theorem WC.outO {fn : Func} {ks : List Nat} {r : AV} {o1 : List (Nat × Obj)} {k : List Fr} {st : St} (h : outO P fn ks st = some (r, o1)) : WC X (RetOT P fn ks o1 r) k .ret st := WC.ret_all h
theorem WC.outOn {fn : Func} {ks : List Nat} {r : AV} {o1 : List (Nat × Obj)} {st : St} (h : AE.outO P fn ks st = some (r, o1)) : WC X (RetOT P fn ks o1 r) [] .normal st := WC.exit_nil h

theorem AnsO.introT {f : FuncId} {fn : Func} {c : Code} {o0 o1 : List (Nat × Obj)} {args : List AV} {r : AV} {ks : List Nat} (hf : P.funcs[f]? = some fn) (hb : fn.body = some c) (hn : (fn.name == "runtime.NumGoroutine") = false) (hargs : args.length ≤ fn.ntmps)
    (hpl : AV.plains args = true) (hks : keysGe fn.ntmps o0 = true)
    (h : ∀ X : Env P, X.ro = none → X.n = fn.ntmps → AW X c (initO o0 args) (RetOT P fn ks o1 r)) : AnsO P f o0 args o1 r := by
  refine ⟨enters_of hf hb hn, fun w M γ xs hM hG hO hx => ?_⟩
  have hlen := hx.length
  rw [← callsIn_wide (n := 0)]
  refine callsIn_of_wp_marks hf hb trivial ?_ rfl
  have S0 : Sim (ownEnv P fn.ntmps w M γ o0 hG) γ (live γ o0) M (initO o0 args) { tmps := xs.toArray ++ Array.replicate (fn.ntmps - xs.toArray.size) undef, defers := [] } w := by
    refine ⟨⟨rfl, rfl, Same.refl _ _, fun _ h => .inl h, hM⟩, ?_, ?_, ?_, hO.obj, hO.sep, fun b h => h, fun b hm hl => hO.zone b hl hm, hO.lt, hM, ⟨[], rfl, List.nodup_nil, fun _ h => by cases h⟩, ?_, fun _ _ => rfl⟩
    · show (xs.toArray ++ Array.replicate (fn.ntmps - xs.toArray.size) undef).size = fn.ntmps
      simp
      omega
    · intro k v hk
      obtain ⟨_, _, x, hx2, hr⟩ := idxA_get (Y := undef) (γ := γ) args xs 0 k v hx hk
      simp only [Nat.sub_zero] at hx2
      have hlt : k < xs.length := (List.getElem?_eq_some_iff.1 hx2).1
      have : (xs.toArray ++ Array.replicate (fn.ntmps - xs.toArray.size) undef).getD k undef = x := by
        rw [Array.getD_eq_getD_getElem?, Array.getElem?_append_left (by simpa using hlt)]
        simp [hx2]
      rw [this]
      exact hr
    · show OutsOk _ _ _ _ [] []
      simp [OutsOk]
    · intro k n cs hk b hb
      obtain ⟨_, hm, _⟩ := idxA_get (Y := undef) (γ := γ) args xs 0 k _ hx hk
      have := plains_mem hpl hm
      simp [AV.plain] at this
  have h1 := h (ownEnv P fn.ntmps w M γ o0 hG) rfl rfl _ _ ⟨_, _, _, S0⟩
  have hfe : fence (ownEnv P fn.ntmps w M γ o0 hG) = Fence.wide := rfl
  rw [hfe] at h1
  refine wpIn_mono h1 ?_
  have fin : ∀ st a' w', RetOT P fn ks o1 r .ret st → Inv (ownEnv P fn.ntmps w M γ o0 hG) st a' w' → LeavesInM Fence.wide 0 P fn a'.tmps (fun e w'' => ∃ v γ', e = .returned v ∧ Same (live γ o0) w w'' ∧ Objs γ' w'' M o1 ∧ RA undef γ' w'' (Mut M γ' o1) r v ∧
      (∀ d, has d o0 = true → has d o1 = true → γ' d = γ d) ∧ (∀ b, live γ' o1 b → live γ o0 b ∨ w.heap.size ≤ b)) a'.defers .returning w' := by
    rintro st a' w' hret ⟨γ', U, V, S⟩
    obtain ⟨r0, hav, rfl, hsub⟩ := outO_spec hret
    obtain ⟨Ds, hDs, hnd, hD⟩ := S.defs
    rw [hDs]
    refine leaves_marks Ds w' hnd (fun D hd => (hD D hd).2) (fun w'' hw'' => ?_)
    obtain ⟨_, rfl, hsame, hUs, _⟩ := S.env
    have hother : ∀ (b : Nat) cs T fr, w'.heap[b]? = some (Go.Obj.cells cs T fr) → w''.heap[b]? = w'.heap[b]? := by
      intro b cs T fr hb
      refine hw''.blk b (Array.getElem?_eq_some_iff.1 hb).1 (fun hm => ?_)
      rw [(hD b hm).2] at hb
      cases hb
    have hlive : ∀ b, live γ' o1 b → live γ' st.objs b := by rintro b ⟨d, o, h1, h2⟩; exact ⟨d, o, hsub.get h1, h2⟩
    have hkeep : Keep (Mut V γ' st.objs) w' w'' := fun b cs T fr hb _ => hother b cs T fr hb
    have hless : Less w' (Mut V γ' st.objs) (Mut V γ' st.objs) := fun _ _ _ _ _ h => h
    have hless1 : Less w' (Mut V γ' o1) (Mut V γ' st.objs) := fun b _ _ _ _ h => h.imp id (hlive b)
    have hobj2 : ∀ d o, get d st.objs = some o → SimObj undef γ' w'' (Mut V γ' st.objs) d o := fun d o ho =>
      (S.obj d o ho).keep hkeep hless (fun b hb => by obtain ⟨cs, T, fr, hh⟩ := (S.obj d o ho).heap hb; exact hother b cs T fr hh)
    have hreg2 : RegsOk undef γ' w'' (Mut V γ' st.objs) st.regs a'.tmps := fun k v hk => RA.keep hkeep hless v _ (S.reg k v hk)
    obtain ⟨v, hv, hrv⟩ := resultA_sound hreg2 hobj2 hav
    refine ⟨v, hv, v, γ', rfl, ?_, ⟨fun d o ho => ?_, fun d d' o o' b h1 h2 => S.sep d d' o o' b (hsub.get h1) (hsub.get h2), fun b hb hm => ?_, fun b hb => ?_⟩, ?_, fun d h0 h1 => ?_, fun b hb => ?_⟩
    · exact hsame.trans hw'' (fun i hi hm => by
        rcases hUs i (hD i hm).1 with h | h
        · exact h
        · omega)
    · exact (S.obj d o (hsub.get ho)).keep hkeep hless1 (fun b hb => by obtain ⟨cs, T, fr, hh⟩ := (S.obj d o (hsub.get ho)).heap hb; exact hother b cs T fr hh)
    · exact S.zone b hm (S.own b (hlive b hb))
    · exact Nat.lt_of_lt_of_le (S.ltU b (S.own b (hlive b hb))) hw''.size
    · exact RA.anyT _ _ (RA.keep (keep_refl _ _) (fun b _ _ _ _ h => h.imp id (hlive b)) _ _ hrv)
    · exact S.kept d (keysGe_get hks h0)
    · exact hUs b (S.own b (hlive b hb))
  intro e a' w' hg
  cases e <;> simp only [Good, bodyPostM] at hg ⊢ <;> first | exact hg.elim | skip
  · obtain ⟨st, hret, hi⟩ := hg
    exact fin st a' w' hret hi
  · obtain ⟨st, hret, hi⟩ := hg
    exact hret.elim
  · obtain ⟨st, hret, hi⟩ := hg
    exact hret.elim
  · obtain ⟨st, hret, hi⟩ := hg
    exact fin st a' w' hret hi

theorem Ans.introT {f : FuncId} {fn : Func} {c : Code} {args : List PV} {r : PV} (hf : P.funcs[f]? = some fn) (hb : fn.body = some c) (hn : (fn.name == "runtime.NumGoroutine") = false) (hargs : args.length ≤ fn.ntmps)
    (h : ∀ X : Env P, X.ro = none → X.n = fn.ntmps → AW X c (initSt args) (RetT P fn r)) : Ans P f args r := by
  refine ⟨enters_of hf hb hn, fun w M xs hM hG hx => ?_⟩
  have hlen := hx.length
  rw [← callsIn_wide (n := 0)]
  refine callsIn_of_wp_marks hf hb trivial ?_ rfl
  have S0 : Sim (plainEnv P fn.ntmps w M hG) (fun _ => undef) (fun _ => False) M (initSt args) { tmps := xs.toArray ++ Array.replicate (fn.ntmps - xs.toArray.size) undef, defers := [] } w := by
    refine ⟨⟨rfl, rfl, Below.refl _ _, fun _ h => h.elim, hM⟩, ?_, ?_, ?_, fun d o h => by simp [initSt, get] at h, fun d d' o o' b h => by simp [initSt, get] at h, ?_, fun _ _ h => h, fun _ h => h.elim, hM, ⟨[], rfl, List.nodup_nil, fun _ h => by cases h⟩, fun k n cs hk => absurd hk (idx_nolit args 0 k n cs), fun _ _ => rfl⟩
    · show (xs.toArray ++ Array.replicate (fn.ntmps - xs.toArray.size) undef).size = fn.ntmps
      simp
      omega
    · intro k v hk
      obtain ⟨_, x, hx2, hr⟩ := idx_get (Y := undef) (γ := fun _ => undef) args xs 0 k v hx hk
      simp only [Nat.sub_zero] at hx2
      have hlt : k < xs.length := (List.getElem?_eq_some_iff.1 hx2).1
      have : (xs.toArray ++ Array.replicate (fn.ntmps - xs.toArray.size) undef).getD k undef = x := by
        rw [Array.getD_eq_getD_getElem?, Array.getElem?_append_left (by simpa using hlt)]
        simp [hx2]
      rw [this]
      refine RA.mono (Same.refl M w) (fun b _ hm => ?_) v x hr
      rcases hm with hm | ⟨d, o, hd, _⟩
      · exact hm
      · simp [initSt, get] at hd
    · show OutsOk _ _ _ _ [] []
      simp [OutsOk]
    · rintro b ⟨d, o, hd, _⟩
      simp [initSt, get] at hd
  have h1 := h (plainEnv P fn.ntmps w M hG) rfl rfl _ _ ⟨_, _, _, S0⟩
  have hfe : fence (plainEnv P fn.ntmps w M hG) = Fence.wide := rfl
  rw [hfe] at h1
  refine wpIn_mono h1 ?_
  have fin : ∀ st a' w', RetT P fn r .ret st → Inv (plainEnv P fn.ntmps w M hG) st a' w' → LeavesInM Fence.wide 0 P fn a'.tmps (fun e w'' => ∃ v, e = .returned v ∧ Below w.heap.size w w'' ∧ RP w'' M r v) a'.defers .returning w' := by
    rintro st a' w' hret ⟨γ, U, V, S⟩
    obtain ⟨Ds, hDs, hnd, hD⟩ := S.defs
    rw [hDs]
    refine leaves_marks Ds w' hnd (fun D hd => (hD D hd).2) (fun w'' hw'' => ?_)
    simp only [RetT, AE.outP] at hret
    split at hret
    · rename_i av hav
      obtain ⟨r0, hr0, rfl⟩ := Option.map_eq_some_iff.1 hret
      obtain ⟨_, rfl, hbel, hUs, _⟩ := S.env
      have hother : ∀ (b : Nat) cs T fr, w'.heap[b]? = some (Go.Obj.cells cs T fr) → w''.heap[b]? = w'.heap[b]? := by
        intro b cs T fr hb
        refine hw''.blk b (Array.getElem?_eq_some_iff.1 hb).1 (fun hm => ?_)
        rw [(hD b hm).2] at hb
        cases hb
      have hkeep : Keep (Mut V γ st.objs) w' w'' := fun b cs T fr hb _ => hother b cs T fr hb
      have hless : Less w' (Mut V γ st.objs) (Mut V γ st.objs) := fun _ _ _ _ _ h => h
      have hobj2 : ∀ d o, get d st.objs = some o → SimObj (plainEnv P fn.ntmps w V hG).Y γ w'' (Mut V γ st.objs) d o := fun d o ho =>
        (S.obj d o ho).keep hkeep hless (fun b hb => by obtain ⟨cs, T, fr, hh⟩ := (S.obj d o ho).heap hb; exact hother b cs T fr hh)
      have hreg2 : RegsOk (plainEnv P fn.ntmps w V hG).Y γ w'' (Mut V γ st.objs) st.regs a'.tmps := fun k v hk => RA.keep hkeep hless v _ (S.reg k v hk)
      obtain ⟨v, hv, hrv⟩ := resultA_sound hreg2 hobj2 hav
      refine ⟨v, hv, v, rfl, ?_, RP.anyT _ _ (frzA_sound hobj2 (fun b h => .inl h) (fun d o b h1 h2 h3 => S.zone b h3 (S.own b ⟨d, o, h1, h2⟩)) hr0 hrv)⟩
      exact hbel.trans ⟨hw''.os, hw''.tape, hw''.output, hw''.size, fun b hb => hw''.blk b (Nat.lt_of_lt_of_le hb hbel.size) (fun hm => by have := hUs b (hD b hm).1; omega)⟩
    · cases hret
  intro e a' w' hg
  cases e <;> simp only [Good, bodyPostM] at hg ⊢ <;> first | exact hg.elim | skip
  · obtain ⟨st, hret, hi⟩ := hg
    exact fin st a' w' hret hi
  · obtain ⟨st, hret, hi⟩ := hg
    exact hret.elim
  · obtain ⟨st, hret, hi⟩ := hg
    exact hret.elim
  · obtain ⟨st, hret, hi⟩ := hg
    exact fin st a' w' hret hi
theorem W_fn {f : FuncId} {fn : Func} {c : Code} {args : List PV} {r : PV} (hf : P.funcs[f]? = some fn) (hb : fn.body = some c) (hn : (fn.name == "runtime.NumGoroutine") = false) (hargs : decide (args.length ≤ fn.ntmps) = true)
    (h : ∀ X : Env P, X.ro = none → X.n = fn.ntmps → WC X (RetT P fn r) [.code c] .normal (initSt args)) : Ans P f args r := Ans.introT hf hb hn (of_decide_eq_true hargs) fun X h1 h2 => AW.of_cl (h X h1 h2)
theorem W_fnO {f : FuncId} {fn : Func} {c : Code} {o0 o1 : List (Nat × Obj)} {args : List AV} {r : AV} (ks : List Nat) (hf : P.funcs[f]? = some fn) (hb : fn.body = some c) (hn : (fn.name == "runtime.NumGoroutine") = false) (hargs : decide (args.length ≤ fn.ntmps) = true)
    (hpl : AV.plains args = true) (hks : keysGe fn.ntmps o0 = true)
    (h : ∀ X : Env P, X.ro = none → X.n = fn.ntmps → WC X (RetOT P fn ks o1 r) [.code c] .normal (initO o0 args)) : AnsO P f o0 args o1 r := AnsO.introT hf hb hn (of_decide_eq_true hargs) hpl hks fun X h1 h2 => AW.of_cl (h X h1 h2)

/-! ### Weaker states -/
theorem WC.tag {Q : Exit → St → Prop} {k : List Fr} {e : Exit} {st : St} (tr to ks os : List Nat) {st' : St} (h : keepSt ks os (tagSt tr to st) = some st') (hk : WC X Q k e st') : WC X Q k e st :=
  WC.lg (fun a w hi => keepSt_lg h a w (tagSt_inv hi)) hk
theorem WC.nil {Q : Exit → St → Prop} {k : List Fr} {e : Exit} {st : St} {n : Nat} (hn : X.n = n) (ks : List Nat) (bi : Option (Nat × Nat)) (d T sz : Nat) (hd : (decide (d < n) && freeSt [d] st) = true) (rs os : List Nat) {st' : St} (h : keepSt rs os (nilSt ks bi d T sz st) = some st') (hk : WC X Q k e st') : WC X Q k e st := by
  simp only [Bool.and_eq_true, decide_eq_true_eq] at hd
  exact WC.lg (fun a w hi => keepSt_lg h a w (nilSt_inv hi (by rw [hn]; exact hd.1) hd.2)) hk
theorem WC.frz {Q : Exit → St → Prop} {k : List Fr} {e : Exit} {st : St} (d : Nat) {st' : St} (h : frzSt d st = some st') (hk : WC X Q k e st') : WC X Q k e st := WC.lg (fun a w hi => frzSt_inv h hi) hk
theorem WC.ren {Q : Exit → St → Prop} {k : List Fr} {e : Exit} {st : St} {n : Nat} (hn : X.n = n) (i j : Nat) (hd : (decide (j < n) && decide (i ≠ j) && freeSt [j] st) = true) (ks os : List Nat) {st' : St} (h : keepSt ks os (renSt i j st) = some st') (hk : WC X Q k e st') : WC X Q k e st := by
  simp only [Bool.and_eq_true, decide_eq_true_eq] at hd
  exact WC.lg (fun a w hi => keepSt_lg h a w (renSt_inv hd.2 hd.1.2 (by rw [hn]; exact hd.1.1) hi)) hk
end Go.AE
