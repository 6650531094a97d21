/- YtombondekjflaaaAhRange: a part of the proof; see the last text for what is proved. -/
import Derived.Test.YtombondekjflaaaAhDraw
set_option linter.unusedVariables false
set_option linter.unusedSimpArgs false
namespace Go.AE
open Go.RowKit

variable {P : Program} {X : Env P}

structure Turn (V V' : Nat → Prop) (w w' : World) : Prop where
  same : Same V w w'
  grow : ∀ b, V' b → V b ∨ w.heap.size ≤ b
  lt : ∀ b, V' b → b < w'.heap.size

def YOk (X : Env P) (L : List (List PV)) : Prop :=
  ∃ l, X.Y = .func (.yield l) #[] #[] ∧
    ∀ (log : Log) (x : List PV) (xs : List Value) (w : World) (U V : Nat → Prop), X.E log U V w → (∀ b, V b → ¬ U b) → (∀ b, U b → b < w.heap.size) → (∀ b, V b → b < w.heap.size) → log.stopped = false → (log.items ++ [x]) <+: L → RPs w (fun b => U b ∨ V b) x xs →
      YieldAt Fence.wide 0 P l xs.toArray w fun e w' => ∃ V', Turn V V' w w' ∧
        ((e = .returned (.bool true) ∧ X.E ⟨log.items ++ [x], false⟩ U V' w') ∨ (e = .returned (.bool false) ∧ X.E ⟨log.items ++ [x], true⟩ U V' w'))

def YOkO (X : Env P) : Option (List (List PV)) → Prop
  | none => True
  | some L => YOk X L

theorem yieldAt_fence {m l : Nat} {args : Array Value} {w : World} {R : Ending → World → Prop} : YieldAt (fence X) m P l args w R ↔ YieldAt Fence.wide m P l args w R := Iff.rfl

def noLitsB : List (Nat × AV) → Bool
  | [] => true
  | (_, v) :: l => !v.isLit && noLitsB l
theorem noLitsB_spec : ∀ {l : List (Nat × AV)}, noLitsB l = true → NoLits l
  | [], _ => fun k n cs hk => by simp [get] at hk
  | (j, v) :: l, h => by
    simp only [noLitsB, Bool.and_eq_true] at h
    intro k n cs hk
    simp only [get] at hk
    split at hk
    · obtain rfl := Option.some.inj hk
      simp [AV.isLit] at h
    · exact noLitsB_spec h.2 k n cs hk

def yieldA (regs : List (Nat × AV)) (c : Call) : Option (List PV) :=
  match c.callee with
  | .value f => match ev regs f, evs regs c.args.toList with
    | some .yield, some vs => AV.toPs vs
    | _, _ => none
  | _ => none

theorem OpSem.yield {o : Oper} {c : Call} {st : St} {K : St → Prop} {L : List (List PV)} {ps : List PV} (hY : YOk X L) (ho : o.op = .call c) (hc : yieldA st.regs c = some ps) (hs : st.log.stopped = false) (hL : (st.log.items ++ [ps]) <+: L) (hnl : noLitsB st.regs = true) (hd : dstOk X o = true)
    (ht : K (putO o.dst (.p (.s (.bool true))) { st with log := ⟨st.log.items ++ [ps], false⟩ })) (hf : K (putO o.dst (.p (.s (.bool false))) { st with log := ⟨st.log.items ++ [ps], true⟩ })) : OpSem X o st K := by
  rintro a w ⟨γ, U0, V, S0⟩ next Q hn
  obtain ⟨l, hl, hy⟩ := hY
  -- the blocks that are let go are nobody's
  obtain ⟨Ds, hDs, hnd, hD⟩ := S0.defs
  obtain ⟨U, hUdef⟩ : ∃ U : Nat → Prop, U = fun b => live γ st.objs b ∨ b ∈ Ds := ⟨_, rfl⟩
  have hU0 : ∀ b, U b → U0 b := by
    intro b hb
    rw [hUdef] at hb
    rcases hb with hb | hb
    · exact S0.own b hb
    · exact (hD b hb).1
  have S : Sim X γ U V st a w := by
    refine ⟨X.stable S0.env (Same.refl _ _) (fun b hb => .inl (hU0 b hb)), S0.size, S0.reg, S0.outs, S0.obj, S0.sep, fun b hb => by rw [hUdef]; exact .inl hb, fun b hv hu => S0.zone b hv (hU0 b hu), fun b hb => S0.ltU b (hU0 b hb), S0.ltV, ⟨Ds, hDs, hnd, fun D hd => ⟨by rw [hUdef]; exact .inr hd, (hD D hd).2⟩⟩, fun k n cs hk => absurd hk (noLitsB_spec hnl k n cs), S0.kept⟩
  unfold yieldA at hc
  split at hc
  · rename_i f hcf
    split at hc
    · rename_i vs hfv hvs
      have hfval := ev_sound hfv S.regG
      simp only [RA] at hfval
      replace hfval := hfval.1
      rw [hl] at hfval
      have hargs0 := toPs_sound vs ps _ hc (evs_sound hvs S.regG)
      have hargs : RPs w (fun b => U b ∨ V b) ps (c.args.toList.map a.eval) := by
        refine RPs.keep (fun _ _ _ _ _ _ => rfl) (fun b cs T fr hb h => ?_) _ _ hargs0
        rcases h with h | h
        · rw [hUdef] at h
          rcases h with h | h
          · exact .inr h
          · have := (hD b h).2; rw [hb] at this; cases this
        · exact .inl h
      obtain ⟨fn, tmps, assign, body, hrun, hround⟩ := hy st.log ps _ w U V S.env S.zone S.ltU S.ltV hs hL hargs
      refine ⟨fun f _ => fence_fn f, ?_⟩
      rw [Oper.semAt_eq _ _ _ (by intro c'; rw [ho]; simp)]
      have hr : (execOp a.eval o).run P w = .ok (.round l fn tmps assign body) w := by
        have e : c.args.map a.eval = (c.args.toList.map a.eval).toArray := by rw [← Array.toList_map]
        simp only [execOp, ho, resolve, hcf, hfval, e, Deferred.ofValue, Sem.run_bind, Sem.run_pure, Result.andThen_ok, invoke]
        simpa using hrun
      rw [hr, Oper.uponIn_round]
      refine ⟨fun h => by simp [fence_depth] at h, ?_⟩
      refine RoundIn.mono (F := fence X) (n := 0 - 1) hround ?_
      have fin : ∀ (bv : Bool) (V' : Nat → Prop) (w' : World), Turn V V' w w' → X.E ⟨st.log.items ++ [ps], !bv⟩ U V' w' → Inv X (putO o.dst (.p (.s (.bool bv))) { st with log := ⟨st.log.items ++ [ps], !bv⟩ }) (a.put o.dst (.bool bv)) w' := by
        intro bv V' w' T hE
        have hk : Same (Mut V γ st.objs) w w' := T.same.mono (fun b _ h => .inl h)
        have hM : ∀ b, b < w.heap.size → Mut V' γ st.objs b → Mut V γ st.objs b := by
          rintro b hb (h | h)
          · rcases T.grow b h with h | h
            · exact .inl h
            · omega
          · exact .inr h
        have S' : Sim X γ U V' { st with log := ⟨st.log.items ++ [ps], !bv⟩ } a w' := by
          refine ⟨hE, S.size, S.reg.mono hk hM, S.outs.mono hk hM, fun d o' hd' => ?_, S.sep, S.own, fun b hv hu => ?_, fun b hb => Nat.lt_of_lt_of_le (S.ltU b hb) T.same.size, T.lt, ?_, S.lits, S.kept⟩
          · refine (S.obj d o' hd').mono hk hM (fun b hb => ?_)
            have hu := S.own b ⟨d, o', hd', hb⟩
            exact T.same.blk b (S.ltU b hu) (fun hv => S.zone b hv hu)
          · rcases T.grow b hv with h | h
            · exact S.zone b h hu
            · have := S.ltU b hu; omega
          · obtain ⟨Ds, h1, h2, h3⟩ := S.defs
            refine ⟨Ds, h1, h2, fun D hD => ⟨(h3 D hD).1, ?_⟩⟩
            rw [T.same.blk D (S.ltU D (h3 D hD).1) (fun hv => S.zone D hv (h3 D hD).1)]
            exact (h3 D hD).2
        exact ⟨γ, U, V', S'.putO hd (Same.refl _ _) rfl (by simp only [RA, RP])⟩
      rintro e w' ⟨V', T, ⟨rfl, hE⟩ | ⟨rfl, hE⟩⟩
      · exact hn _ _ _ ht (fin true V' w' T hE)
      · exact hn _ _ _ hf (fin false V' w' T hE)
    · cases hc
  · cases hc

/-! ### What an iterator tells -/
def Iter (P : Program) (g : FuncId) (cap : List PV) (L : List (List PV)) : Prop :=
  Enters P g ∧ ∀ X : Env P, X.ro = none → YOk X L → ∀ (w : World) (U V : Nat → Prop) (cvs : List Value), X.E ⟨[], false⟩ U V w → (∀ b, V b → ¬ U b) → (∀ b, U b → b < w.heap.size) → (∀ b, V b → b < w.heap.size) → RPs w V cap cvs →
    Calls P g (X.Y :: cvs).toArray w fun e w' => (∃ v, e = .returned v) ∧ ∃ log U' V', X.E log U' V' w' ∧ (log.stopped = false → log.items = L) ∧ (∀ b, V' b → ¬ U' b) ∧ (∀ b, U' b → b < w'.heap.size) ∧ (∀ b, V' b → b < w'.heap.size)

def initStY (cap : List PV) : St := { regs := (0, .yield) :: idx 1 cap, objs := [], log := ⟨[], false⟩, outer := [] }

theorem initStY_nolit (cap : List PV) (k n : Nat) (cs : List PV) : get k (initStY cap).regs ≠ some (.lit n cs) := by
  simp only [initStY, get]
  split
  · intro h; cases h
  · exact idx_nolit cap 1 k n cs

def IterOk (P : Program) (fn : Func) (L : List (List PV)) : Exit → St → Prop
  | .normal, st | .ret, st => (resultA P fn st).isSome = true ∧ (st.log.stopped = false → st.log.items = L)
  | _, _ => False

theorem Iter.intro {g : FuncId} {fn : Func} {c : Code} {cap : List PV} {L : List (List PV)} (hf : P.funcs[g]? = some fn) (hb : fn.body = some c) (hn : (fn.name == "runtime.NumGoroutine") = false) (hargs : cap.length + 1 ≤ fn.ntmps)
    (h : ∀ X : Env P, X.ro = none → X.n = fn.ntmps → YOk X L → AW X c (initStY cap) (IterOk P fn L)) : Iter P g cap L := by
  refine ⟨enters_of hf hb hn, fun X hro hY w U V cvs hE hzone hU hV hx => ?_⟩
  have hlen := hx.length
  rw [← callsIn_wide (n := 0)]
  refine callsIn_of_wp_marks hf hb trivial ?_ rfl
  let X' : Env P := { X with n := fn.ntmps, pin := fun _ => undef, outs := [] }
  have S0 : Sim X' (fun _ => undef) U V (initStY cap) { tmps := (X.Y :: cvs).toArray ++ Array.replicate (fn.ntmps - (X.Y :: cvs).toArray.size) undef, defers := [] } w := by
    refine ⟨hE, ?_, ?_, ?_, fun d o h => by simp [initStY, get] at h, fun d d' o o' b h => by simp [initStY, get] at h, ?_, hzone, hU, hV, ⟨[], rfl, List.nodup_nil, fun _ h => by cases h⟩, fun k n cs hk => absurd hk (initStY_nolit cap k n cs), fun _ _ => rfl⟩
    · show ((X.Y :: cvs).toArray ++ Array.replicate (fn.ntmps - (X.Y :: cvs).toArray.size) undef).size = fn.ntmps
      simp
      omega
    · intro k v hk
      simp only [initStY, get] at hk
      split at hk
      · rename_i h0
        subst h0
        obtain rfl := Option.some.inj hk
        simp only [RA]
        have hY1 : X.Y.oneCell' = true := by obtain ⟨l, hl, _⟩ := hY; rw [hl]; rfl
        suffices hz : ((X.Y :: cvs).toArray ++ Array.replicate (fn.ntmps - (X.Y :: cvs).toArray.size) undef).getD 0 undef = X.Y by
          exact ⟨hz, by rw [hz]; exact hY1⟩
        show ((X.Y :: cvs).toArray ++ Array.replicate (fn.ntmps - (X.Y :: cvs).toArray.size) undef).getD 0 undef = X.Y
        rw [Array.getD_eq_getD_getElem?, Array.getElem?_append_left (by simp)]
        simp
      · rename_i h0
        obtain ⟨hle, x, hx2, hr⟩ := idx_get (Y := X.Y) (γ := fun _ => undef) cap cvs 1 k v hx hk
        have hlt : k - 1 < cvs.length := (List.getElem?_eq_some_iff.1 hx2).1
        have : ((X.Y :: cvs).toArray ++ Array.replicate (fn.ntmps - (X.Y :: cvs).toArray.size) undef).getD k undef = x := by
          rw [Array.getD_eq_getD_getElem?, Array.getElem?_append_left (by simp; omega)]
          obtain ⟨m, rfl⟩ : ∃ m, k = m + 1 := ⟨k - 1, by omega⟩
          simp at hx2
          simp [hx2]
        rw [this]
        refine RA.mono (Same.refl V w) (fun b _ hm => ?_) v x hr
        rcases hm with hm | ⟨d, o, hd, _⟩
        · exact hm
        · simp [initStY, get] at hd
    · show OutsOk _ _ _ _ [] []
      simp [OutsOk]
    · rintro b ⟨d, o, hd, _⟩
      simp [initStY, get] at hd
  have h1 := h X' hro rfl hY _ _ ⟨_, _, _, S0⟩
  have hfe : fence X' = Fence.wide := by
    have : X'.ro = none := hro
    unfold fence
    rw [this]
    rfl
  rw [hfe] at h1
  refine wpIn_mono h1 ?_
  have fin : ∀ st a' w', IterOk P fn L .ret st → Inv X' st a' w' → LeavesInM Fence.wide 0 P fn a'.tmps (fun e w'' => (∃ v, e = .returned v) ∧ ∃ log U' V', X.E log U' V' w'' ∧ (log.stopped = false → log.items = L) ∧ (∀ b, V' b → ¬ U' b) ∧ (∀ b, U' b → b < w''.heap.size) ∧ (∀ b, V' b → b < w''.heap.size)) a'.defers .returning w' := by
    rintro st a' w' ⟨hres, hlog⟩ ⟨γ, U, V, S⟩
    obtain ⟨Ds, hDs, hnd, hD⟩ := S.defs
    rw [hDs]
    refine leaves_marks Ds w' hnd (fun D hd => (hD D hd).2) (fun w'' hw'' => ?_)
    obtain ⟨av, hav⟩ := Option.isSome_iff_exists.1 hres
    have hother : ∀ (b : Nat) cs T fr, w'.heap[b]? = some (Go.Obj.cells cs T fr) → w''.heap[b]? = w'.heap[b]? := by
      intro b cs T fr hb
      refine hw''.blk b (Array.getElem?_eq_some_iff.1 hb).1 (fun hm => ?_)
      rw [(hD b hm).2] at hb
      cases hb
    have hkeep : Keep (Mut V γ st.objs) w' w'' := fun b cs T fr hb _ => hother b cs T fr hb
    have hless : Less w' (Mut V γ st.objs) (Mut V γ st.objs) := fun _ _ _ _ _ h => h
    have hobj2 : ∀ d o, get d st.objs = some o → SimObj X'.Y γ w'' (Mut V γ st.objs) d o := fun d o ho =>
      (S.obj d o ho).keep hkeep hless (fun b hb => by obtain ⟨cs, T, fr, hh⟩ := (S.obj d o ho).heap hb; exact hother b cs T fr hh)
    have hreg2 : RegsOk X'.Y γ w'' (Mut V γ st.objs) st.regs a'.tmps := fun k v hk => RA.keep hkeep hless v _ (S.reg k v hk)
    obtain ⟨v, hv, hrv⟩ := resultA_sound hreg2 hobj2 hav
    exact ⟨v, hv, ⟨v, rfl⟩, st.log, U, V, X.stable S.env (hw''.mono (fun b _ hm => (hD b hm).1)) (fun b hb => .inl hb), hlog, S.zone,
      fun b hb => Nat.lt_of_lt_of_le (S.ltU b hb) hw''.size, fun b hb => Nat.lt_of_lt_of_le (S.ltV b hb) hw''.size⟩
  intro e a' w' hg
  cases e <;> simp only [Good, bodyPostM] at hg ⊢ <;> first | exact hg.elim | skip
  · obtain ⟨st, hret, hi⟩ := hg
    exact fin st a' w' hret hi
  · obtain ⟨st, hret, hi⟩ := hg
    exact hret.elim
  · obtain ⟨st, hret, hi⟩ := hg
    exact hret.elim
  · obtain ⟨st, hret, hi⟩ := hg
    exact fin st a' w' hret hi

/-! ### The loop -/
structure Core (X : Env P) (l : Nat) (Ds : List Nat) (r : Loop) (Ug : Nat → Prop) (log : Log) (U V1 V : Nat → Prop) (w : World) : Prop where
  env : X.E log (fun b => U b ∨ Ug b ∨ b = l ∨ b ∈ Ds) V w
  v1 : ∀ b, V1 b ↔ V b ∨ Ug b
  record : w.heap[l]? = some (.loop r)
  marks : ∀ D ∈ Ds, w.heap[D]? = some (Go.Obj.deferred (some []))
  notL : ¬ U l
  notD : ∀ D ∈ Ds, ¬ U D
  zone : ∀ b, V b → ¬ Ug b ∧ b ≠ l ∧ b ∉ Ds
  ug : ∀ b, Ug b → b < w.heap.size ∧ b ≠ l ∧ b ∉ Ds

theorem Core.step {l : Nat} {Ds : List Nat} {r : Loop} {Ug : Nat → Prop} {log : Log} {U U' V1 V : Nat → Prop} {w w' : World} (h : Core X l Ds r Ug log U V1 V w) (hs : Same U w w') (hU : ∀ b, U' b → U b ∨ w.heap.size ≤ b) : Core X l Ds r Ug log U' V1 V w' := by
  have hl : l < w.heap.size := (Array.getElem?_eq_some_iff.1 h.record).1
  have hD : ∀ D ∈ Ds, D < w.heap.size := fun D hd => (Array.getElem?_eq_some_iff.1 (h.marks D hd)).1
  refine ⟨X.stable h.env (hs.mono fun b _ hb => .inl hb) ?_, h.v1, ?_, ?_, ?_, ?_, h.zone, fun b hb => ⟨Nat.lt_of_lt_of_le (h.ug b hb).1 hs.size, (h.ug b hb).2⟩⟩
  · rintro b (hb | hb)
    · rcases hU b hb with h1 | h1
      · exact .inl (.inl h1)
      · exact .inr h1
    · exact .inl (.inr hb)
  · rw [hs.blk l hl h.notL]; exact h.record
  · intro D hd; rw [hs.blk D (hD D hd) (h.notD D hd)]; exact h.marks D hd
  · intro hb
    rcases hU l hb with h1 | h1
    · exact h.notL h1
    · omega
  · intro D hd hb
    rcases hU D hb with h1 | h1
    · exact h.notD D hd h1
    · have := hD D hd; omega

theorem Core.glob {l : Nat} {Ds : List Nat} {r : Loop} {Ug : Nat → Prop} {log : Log} {U V1 V : Nat → Prop} {w : World} (h : Core X l Ds r Ug log U V1 V w) : GlOk w (fun b => U b ∨ V1 b) :=
  (X.glob h.env).mono fun b _ hb => hb.elim (fun h => .inl (.inl h)) (fun h1 => ((h.v1 b).1 h1).elim .inr (fun h => .inl (.inr (.inl h))))
def btwEnv (X : Env P) (l : Nat) (Ds : List Nat) (r : Loop) (Ug : Nat → Prop) : Env P where
  ro := none
  Y := X.Y
  n := X.n
  pin := X.pin
  outs := X.outs
  E := fun log U V1 w => ∃ V, Core X l Ds r Ug log U V1 V w
  stable := by rintro log U V1 w w' U' ⟨V, h⟩ hs hU; exact ⟨V, h.step hs hU⟩
  round := by intro log U V w l _ h; cases h
  glob := by rintro log U V w ⟨V, h⟩; exact h.glob

def rndEnv (X : Env P) (l : Nat) (Ds : List Nat) (r : Loop) (tmps : Array Value) (Ug U0 V0 : Nat → Prop) (w0 : World) : Env P where
  ro := some l
  Y := X.Y
  n := X.n
  pin := X.pin
  outs := tmps :: X.outs
  E := fun log U V1 w => ∃ V, Core X l Ds r Ug log U V1 V w ∧ Same (fun b => U0 b ∨ V0 b ∨ b = l) w0 w ∧ (∀ b, U b → U0 b ∨ w0.heap.size ≤ b) ∧ (∀ b, V b → V0 b ∨ w0.heap.size ≤ b)
  stable := by
    rintro log U V1 w w' U' ⟨V, h, h1, h2, h3⟩ hs hU
    refine ⟨V, h.step hs hU, h1.trans hs (fun i hi hu => ?_), fun b hb => ?_, h3⟩
    · rcases h2 i hu with h | h
      · exact .inl h
      · omega
    · rcases hU b hb with h | h
      · exact h2 b h
      · exact .inr (Nat.le_trans h1.size h)
  round := by
    rintro log U V1 w l' ⟨V, h, _⟩ he
    simp only [Option.some.injEq] at he
    subst he
    exact ⟨r, h.record⟩
  glob := by rintro log U V w ⟨V, h, _⟩; exact h.glob

theorem YOkO.round {l : Nat} {Ds : List Nat} {r : Loop} {tmps : Array Value} {Ug U0 V0 : Nat → Prop} {w0 : World} {Lo : Option (List (List PV))} (h : YOkO X Lo) : YOkO (rndEnv X l Ds r tmps Ug U0 V0 w0) Lo := by
  cases Lo with
  | none => trivial
  | some L =>
    obtain ⟨ly, hY, hy⟩ := h
    refine ⟨ly, hY, ?_⟩
    rintro log x xs w U V1 ⟨V, hc, h1, h2, h3⟩ hz hU hV hs hL hRP
    have hl : l < w.heap.size := (Array.getElem?_eq_some_iff.1 hc.record).1
    have hD : ∀ D ∈ Ds, D < w.heap.size := fun D hd => (Array.getElem?_eq_some_iff.1 (hc.marks D hd)).1
    have hVlt : ∀ b, V b → b < w.heap.size := fun b hb => hV b ((hc.v1 b).2 (.inl hb))
    have hRP2 : RPs w (fun b => (U b ∨ Ug b ∨ b = l ∨ b ∈ Ds) ∨ V b) x xs := by
      refine RPs.keep (fun _ _ _ _ _ _ => rfl) (fun b cs T fr hb h => ?_) _ _ hRP
      rcases h with (h | h | h | h) | h
      · exact .inl h
      · exact .inr ((hc.v1 b).2 (.inr h))
      · rw [h, hc.record] at hb; cases hb
      · rw [hc.marks b h] at hb; cases hb
      · exact .inr ((hc.v1 b).2 (.inl h))
    obtain ⟨fn, tm, as_, bd, hrun, hr⟩ := hy log x xs w _ V hc.env (fun b hb hu => by
        rcases hu with hu | hu | rfl | hu
        · exact hz b ((hc.v1 b).2 (.inl hb)) hu
        · exact (hc.zone b hb).1 hu
        · exact (hc.zone b hb).2.1 rfl
        · exact (hc.zone b hb).2.2 hu) (fun b hb => by
        rcases hb with hb | hb | rfl | hb
        · exact hU b hb
        · exact (hc.ug b hb).1
        · exact hl
        · exact hD b hb) hVlt hs hL hRP2
    refine ⟨fn, tm, as_, bd, hrun, hr.mono ?_⟩
    have key : ∀ (log' : Log) (V' : Nat → Prop) (w' : World), Turn V V' w w' → X.E log' (fun b => U b ∨ Ug b ∨ b = l ∨ b ∈ Ds) V' w' →
        ∃ V1', Turn V1 V1' w w' ∧ (rndEnv X l Ds r tmps Ug U0 V0 w0).E log' U V1' w' := by
      intro log' V' w' T hE
      have hnew : ∀ b, V' b → V b ∨ w.heap.size ≤ b := T.grow
      refine ⟨fun b => V' b ∨ Ug b, ⟨T.same.mono (fun b _ hb => (hc.v1 b).2 (.inl hb)), fun b hb => ?_, fun b hb => ?_⟩, V', ⟨hE, fun b => Iff.rfl, ?_, ?_, hc.notL, hc.notD, fun b hb => ?_, fun b hb => ?_⟩, ?_, h2, ?_⟩
      · rcases hb with hb | hb
        · rcases hnew b hb with h | h
          · exact .inl ((hc.v1 b).2 (.inl h))
          · exact .inr h
        · exact .inl ((hc.v1 b).2 (.inr hb))
      · rcases hb with hb | hb
        · exact T.lt b hb
        · exact Nat.lt_of_lt_of_le (hc.ug b hb).1 T.same.size
      · rw [T.same.blk l hl (fun hv => (hc.zone l hv).2.1 rfl)]; exact hc.record
      · intro D hd; rw [T.same.blk D (hD D hd) (fun hv => (hc.zone D hv).2.2 hd)]; exact hc.marks D hd
      · rcases hnew b hb with h | h
        · exact hc.zone b h
        · refine ⟨fun hu => ?_, fun e => ?_, fun hd => ?_⟩
          · have := (hc.ug b hu).1; omega
          · omega
          · have := hD b hd; omega
      · exact ⟨Nat.lt_of_lt_of_le (hc.ug b hb).1 T.same.size, (hc.ug b hb).2⟩
      · exact h1.trans T.same (fun i hi hv => by
          rcases h3 i hv with h | h
          · exact .inr (.inl h)
          · omega)
      · intro b hb
        rcases hnew b hb with h | h
        · exact h3 b h
        · exact .inr (Nat.le_trans h1.size h)
    rintro e w' ⟨V', T, ⟨rfl, hE⟩ | ⟨rfl, hE⟩⟩
    · obtain ⟨V1', T1, hE1⟩ := key _ V' w' T hE
      exact ⟨V1', T1, .inl ⟨rfl, hE1⟩⟩
    · obtain ⟨V1', T1, hE1⟩ := key _ V' w' T hE
      exact ⟨V1', T1, .inr ⟨rfl, hE1⟩⟩

def TW (P : Program) (Lo : Option (List (List PV))) (n : Nat) (c : Code) (st : St) (Q : Exit → St → Prop) : Prop := ∀ X : Env P, YOkO X Lo → X.n = n → AW X c st Q

def putPs : List Nat → List PV → List (Nat × AV) → List (Nat × AV)
  | p :: ps, v :: vs, regs => putPs ps vs (put p (.p v) regs)
  | _, _, regs => regs
def rst (ps : List Nat) (x : List PV) (st : St) : St := { st with regs := putPs ps x st.regs, outer := st.regs :: st.outer }
def back (st : St) : St :=
  match st.outer with
  | r :: rs => { st with regs := r, outer := rs }
  | [] => st

def RW (P : Program) (Lo : Option (List (List PV))) (n : Nat) (ps : List Nat) (assign body : Code) (Q : Exit → St → Prop) : List (List PV) → St → Prop
  | [], st => Q .normal st
  | x :: xs, st => x.length = ps.length ∧
    TW P Lo n assign (rst ps x st) fun e st1 => match e with
      | .normal => TW P Lo n body st1 fun e2 st2 => match e2 with
        | .normal => RW P Lo n ps assign body Q xs (back st2)
        | e2 => Q e2 (back st2)
      | _ => False
end Go.AE
