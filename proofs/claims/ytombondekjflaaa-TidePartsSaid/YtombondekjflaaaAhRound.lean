/- YtombondekjflaaaAhRound: a part of the proof; see the last text for what is proved. -/
import Derived.Test.YtombondekjflaaaAhRange
set_option linter.unusedVariables false
set_option linter.unusedSimpArgs false
namespace Go.AE
open Go.RowKit

variable {P : Program} {X : Env P}


theorem OutsOk.keep {Y : Value} {γ : Nat → Value} {w w' : World} {M M' : Nat → Prop} (hk : Keep M w w') (hl : Less w M' M) : ∀ {rs : List (List (Nat × AV))} {ts : List (Array Value)}, OutsOk Y γ w M rs ts → OutsOk Y γ w' M' rs ts
  | [], ts, h => by simpa only [OutsOk] using h
  | r :: rs, ts, h => by
    simp only [OutsOk] at h ⊢
    obtain ⟨t, ts', rfl, h1, h3, h2⟩ := h
    exact ⟨t, ts', rfl, fun k v hk' => RA.keep hk hl v _ (h1 k v hk'), h3, OutsOk.keep hk hl h2⟩

theorem Sim.turn {X X' : Env P} {γ : Nat → Value} {U V U' V' : Nat → Prop} {st st' : St} {a a' : Act} {w w' : World} (S : Sim X γ U V st a w) (hY : X'.Y = X.Y) (ho : st'.objs = st.objs)
    (hsize : a'.tmps.size = X'.n) (hE : X'.E st'.log U' V' w')
    (hreg : RegsOk X.Y γ w (Mut V γ st.objs) st'.regs a'.tmps) (houts : OutsOk X.Y γ w (Mut V γ st.objs) st'.outer X'.outs)
    (hk : Keep (Mut V γ st.objs) w w') (hl : Less w (Mut V' γ st.objs) (Mut V γ st.objs)) (hb : ∀ b cs T fr, w.heap[b]? = some (Go.Obj.cells cs T fr) → live γ st.objs b → w'.heap[b]? = w.heap[b]?)
    (hown : ∀ b, live γ st.objs b → U' b) (hz : ∀ b, V' b → ¬ U' b) (hU : ∀ b, U' b → b < w'.heap.size) (hV : ∀ b, V' b → b < w'.heap.size) (hd : Marks U' w' a'.defers) (hlit : LitsOk U' st'.regs a'.tmps) (hnn : X'.n = X.n := by rfl) (hpp : X'.pin = X.pin := by rfl) : Sim X' γ U' V' st' a' w' := by
  refine ⟨hE, hsize, ?_, ?_, ?_, ?_, ?_, hz, hU, hV, hd, hlit, by rw [hnn, hpp]; exact S.kept⟩
  · rw [hY, ho]
    exact fun k v hkv => RA.keep hk hl v _ (hreg k v hkv)
  · rw [hY, ho]
    exact OutsOk.keep hk hl houts
  · rw [hY, ho]
    intro d o hdo
    exact (S.obj d o hdo).keep hk hl (fun b hbb => by
      obtain ⟨cs, T, fr, hh⟩ := (S.obj d o hdo).heap hbb
      exact hb b cs T fr hh ⟨d, o, hdo, hbb⟩)
  · rw [ho]; exact S.sep
  · rw [ho]; exact hown

def jumpOf : Exit → Option Code
  | .ret => some .ret
  | .exit id => some (.exit id)
  | .goto t => some (.goto t)
  | _ => none

def Rounds (X : Env P) (l : Nat) (Ds : List Nat) (record : LoopState → Option Code → Loop) (tmps : Array Value) (J : Log → Option Code → St → Prop) (log : Log) (Ug Vg : Nat → Prop) (w : World) : Prop :=
  ∃ γ U V1 V Ug0 pe st', (∀ b, Ug0 b ↔ Ug b ∧ b < w.heap.size) ∧ Core X l Ds (record (if log.stopped = true then .done else .ready) pe) Ug0 st'.log U V1 V w ∧
    Sim (btwEnv X l Ds (record (if log.stopped = true then .done else .ready) pe) Ug0) γ U V1 st' { tmps := tmps, defers := [] } w ∧ (∀ b, Vg b ↔ U b ∨ V b ∨ b = l) ∧ J log pe st' ∧ NoLits st'.regs

theorem marks_nil (U : Nat → Prop) (w : World) : Marks U w [] := ⟨[], rfl, List.nodup_nil, fun _ h => by cases h⟩

theorem Rounds.stable {l : Nat} {Ds : List Nat} {record : LoopState → Option Code → Loop} {tmps : Array Value} {J : Log → Option Code → St → Prop} {log : Log} {Ug Vg Ug' : Nat → Prop} {w w' : World}
    (h : Rounds X l Ds record tmps J log Ug Vg w) (hs : Same Ug w w') (hU : ∀ b, Ug' b → Ug b ∨ w.heap.size ≤ b) : Rounds X l Ds record tmps J log Ug' Vg w' := by
  obtain ⟨γ, U, V1, V, Ug0, pe, st', h0, hc, S, hV, hJ, hNL⟩ := h
  have hl : l < w.heap.size := (Array.getElem?_eq_some_iff.1 hc.record).1
  have hD : ∀ D ∈ Ds, D < w.heap.size := fun D hd => (Array.getElem?_eq_some_iff.1 (hc.marks D hd)).1
  have hVlt : ∀ b, V b → b < w.heap.size := fun b hb => S.ltV b ((hc.v1 b).2 (.inl hb))
  have hlU : ¬ Ug l := fun hu => (hc.ug l ((h0 l).2 ⟨hu, hl⟩)).2.1 rfl
  have hDU : ∀ D ∈ Ds, ¬ Ug D := fun D hd hu => (hc.ug D ((h0 D).2 ⟨hu, hD D hd⟩)).2.2 hd
  have hg : ∀ b, Ug' b ∧ b < w'.heap.size → Ug0 b ∨ w.heap.size ≤ b := by
    rintro b ⟨hb, hlt⟩
    rcases hU b hb with hb | hb
    · rcases Nat.lt_or_ge b w.heap.size with h1 | h1
      · exact .inl ((h0 b).2 ⟨hb, h1⟩)
      · exact .inr h1
    · exact .inr hb
  have hc' : Core X l Ds (record (if log.stopped = true then .done else .ready) pe) (fun b => Ug' b ∧ b < w'.heap.size) st'.log U (fun b => V b ∨ (Ug' b ∧ b < w'.heap.size)) V w' := by
    refine ⟨X.stable hc.env (hs.mono fun b hb hu => .inr (.inl ((h0 b).2 ⟨hu, hb⟩))) ?_, fun b => Iff.rfl, ?_, ?_, hc.notL, hc.notD, fun b hb => ⟨fun hu => ?_, (hc.zone b hb).2⟩, fun b hb => ⟨hb.2, ?_, ?_⟩⟩
    · rintro b (hb | hb | hb | hb)
      · exact .inl (.inl hb)
      · rcases hg b hb with h1 | h1
        · exact .inl (.inr (.inl h1))
        · exact .inr h1
      · exact .inl (.inr (.inr (.inl hb)))
      · exact .inl (.inr (.inr (.inr hb)))
    · rw [hs.blk l hl hlU]; exact hc.record
    · intro D hd; rw [hs.blk D (hD D hd) (hDU D hd)]; exact hc.marks D hd
    · rcases hg b hu with h1 | h1
      · exact (hc.zone b hb).1 h1
      · have := hVlt b hb; omega
    · rcases hg b hb with h1 | h1
      · exact (hc.ug b h1).2.1
      · omega
    · rcases hg b hb with h1 | h1
      · exact (hc.ug b h1).2.2
      · intro hd; have := hD b hd; omega
  have hsame : Same (Mut V1 γ st'.objs) w w' := hs.mono fun b hb hu => .inl ((hc.v1 b).2 (.inr ((h0 b).2 ⟨hu, hb⟩)))
  refine ⟨γ, U, _, V, _, pe, st', fun b => Iff.rfl, hc', ?_, hV, hJ, hNL⟩
  refine S.turn rfl rfl S.size ⟨V, hc'⟩ S.reg S.outs hsame.keep (less_of ?_) ?_ S.own ?_ (fun b hb => Nat.lt_of_lt_of_le (S.ltU b hb) hs.size) ?_ (marks_nil _ _) S.lits
  · rintro b hb ((h1 | h1) | h1)
    · exact .inl ((hc.v1 b).2 (.inl h1))
    · rcases hg b h1 with h2 | h2
      · exact .inl ((hc.v1 b).2 (.inr h2))
      · omega
    · exact .inr h1
  · intro b cs T fr hb hlive
    have hlt := (Array.getElem?_eq_some_iff.1 hb).1
    exact hs.blk b hlt (fun hu => S.zone b ((hc.v1 b).2 (.inr ((h0 b).2 ⟨hu, hlt⟩))) (S.own b hlive))
  · rintro b (h1 | h1) hu
    · exact S.zone b ((hc.v1 b).2 (.inl h1)) hu
    · rcases hg b h1 with h2 | h2
      · exact S.zone b ((hc.v1 b).2 (.inr h2)) hu
      · have := S.ltU b hu; omega
  · rintro b (h1 | h1)
    · exact Nat.lt_of_lt_of_le (hVlt b h1) hs.size
    · exact h1.2

def itEnv (X : Env P) (l : Nat) (Ds : List Nat) (record : LoopState → Option Code → Loop) (tmps : Array Value) (J : Log → Option Code → St → Prop) : Env P where
  ro := none
  Y := .func (.yield l) #[] #[]
  n := 0
  pin := fun _ => undef
  outs := []
  E := fun log Ug Vg w => Rounds X l Ds record tmps J log Ug Vg w
  stable := fun h hs hU => h.stable hs hU
  round := by intro log U V w l h hl; cases hl
  glob := by
    rintro log Ug Vg w ⟨γ, U, V1, V, Ug0, pe, st', h0, hc, _, hv, _⟩
    refine (X.glob hc.env).mono fun b hb hm => ?_
    rcases hm with hm | hm
    · exact .inl (.inr (.inl ((h0 b).2 ⟨hm, hb⟩)))
    · rcases (hv b).1 hm with h | h | h
      · exact .inl (.inl h)
      · exact .inr h
      · exact .inl (.inr (.inr (.inl h)))

theorem foldl_set_getD (args : List Value) : ∀ (ps : List Nat) (tmps : Array Value), ((ps.zip args).foldl (fun (t : Array Value) (pv : Nat × Value) => t.setIfInBounds pv.1 pv.2) tmps).size = tmps.size := by
  induction args with
  | nil => intro ps tmps; simp
  | cons v vs ih =>
    intro ps tmps
    cases ps with
    | nil => rfl
    | cons p ps => simp only [List.zip_cons_cons, List.foldl_cons]; rw [ih]; simp

theorem putPs_sound {Y : Value} {γ : Nat → Value} {w : World} {M : Nat → Prop} : ∀ (ps : List Nat) (vs : List PV) (args : List Value) (regs : List (Nat × AV)) (tmps : Array Value), RPs w M vs args → (∀ p ∈ ps, p < tmps.size) → RegsOk Y γ w M regs tmps →
    RegsOk Y γ w M (putPs ps vs regs) ((ps.zip args).foldl (fun (t : Array Value) (pv : Nat × Value) => t.setIfInBounds pv.1 pv.2) tmps)
  | [], vs, args, regs, tmps, _, _, h => by simpa [putPs] using h
  | p :: ps, [], args, regs, tmps, hx, _, h => by
    simp only [RPs] at hx
    subst hx
    simpa [putPs] using h
  | p :: ps, v :: vs, args, regs, tmps, hx, hp, h => by
    simp only [RPs] at hx
    obtain ⟨y, ys, rfl, h1, h2⟩ := hx
    simp only [putPs, List.zip_cons_cons, List.foldl_cons]
    refine putPs_sound ps vs _ _ _ h2 (fun q hq => by simpa using hp q (List.mem_cons_of_mem _ hq)) ?_
    intro k x hk
    by_cases hkp : k = p
    · subst hkp
      rw [get_put_same] at hk
      obtain rfl := Option.some.inj hk
      have hlt := hp k List.mem_cons_self
      rw [Array.getD_eq_getD_getElem?, Array.getElem?_setIfInBounds_self_of_lt hlt]
      simp only [Option.getD_some, RA]
      exact h1
    · rw [get_put_ne (fun e => hkp e.symm)] at hk
      rw [Array.getD_eq_getD_getElem?, Array.getElem?_setIfInBounds_ne (fun e => hkp e.symm), ← Array.getD_eq_getD_getElem?]
      exact h k x hk

theorem putPs_nolit : ∀ (ps : List Nat) (args : List PV) (regs : List (Nat × AV)), NoLits regs → NoLits (putPs ps args regs)
  | [], args, regs, h => by simpa [putPs] using h
  | p :: ps, [], regs, h => by simpa [putPs] using h
  | p :: ps, v :: vs, regs, h => by
    simp only [putPs]
    refine putPs_nolit ps vs _ (fun k n cs hk => ?_)
    by_cases he : p = k
    · subst he
      rw [get_put_same] at hk
      cases hk
    · rw [get_put_ne he] at hk
      exact h k n cs hk

def roundJ (P : Program) (Lo : Option (List (List PV))) (n : Nat) (ps : List Nat) (assign body : Code) (Q : Exit → St → Prop) (L : List (List PV)) (log : Log) (pe : Option Code) (st : St) : Prop :=
  if log.stopped = true then ∃ e c, jumpOf e = some c ∧ pe = some c ∧ Q e st else pe = none ∧ RW P Lo n ps assign body Q (L.drop log.items.length) st

def recd (fn : FuncId) (tmps : Array Value) (ps : Array Nat) (assign body : Code) (D : Nat) (s : LoopState) (pe : Option Code) : Loop :=
  { state := s, pending := pe, fn := fn, tmps := tmps, params := ps, assign := assign, body := body, defers := D }

theorem keep_refl (M : Nat → Prop) (w : World) : Keep M w w := fun _ _ _ _ _ _ => rfl
theorem less_refl (w : World) (M : Nat → Prop) : Less w M M := fun _ _ _ _ _ h => h
theorem keep_putObj {M : Nat → Prop} {w : World} {l : Nat} {r : Loop} {o : Go.Obj} (h : w.heap[l]? = some (.loop r)) : Keep M w (w.putObj l o) := fun b cs T fr hb _ =>
  World.putObj_heap_other (fun e => by subst e; rw [h] at hb; cases hb)

theorem range_yok {Lo : Option (List (List PV))} {L : List (List PV)} {l : Nat} {Ds : List Nat} {fn : FuncId} {tmps : Array Value} {ps : Array Nat} {assign body : Code} {D : Nat} {Q : Exit → St → Prop}
    (hY : YOkO X Lo) (hsz : tmps.size = X.n) (hps : ∀ p ∈ ps.toList, p < X.n) : YOk (itEnv X l Ds (recd fn tmps ps assign body D) tmps (roundJ P Lo X.n ps.toList assign body Q L)) L := by
  refine ⟨l, rfl, ?_⟩
  rintro log x xs w Ug Vg ⟨γ, U, V1, V, Ug0, pe, st', h0, hc, S, hV, hJ, hNL⟩ hz hUlt hVlt hstop hpre hRP
  rw [hstop] at hc S
  simp only [Bool.false_eq_true, if_false] at hc S
  unfold roundJ at hJ
  rw [hstop] at hJ
  simp only [Bool.false_eq_true, if_false] at hJ
  obtain ⟨rfl, hR⟩ := hJ
  obtain ⟨rest, hL⟩ := hpre
  have hdrop : L.drop log.items.length = x :: rest := by rw [← hL]; simp
  rw [hdrop] at hR
  simp only [RW] at hR
  obtain ⟨hxl, hT⟩ := hR
  have hxl2 : xs.length = ps.toList.length := by rw [hRP.length, hxl]
  have hRP2 : RPs w (Mut V1 γ st'.objs) x xs := by
    refine RPs.keep (fun _ _ _ _ _ _ => rfl) (fun b cs T fr hb h => ?_) _ _ hRP
    rcases h with h | h
    · rcases (hc.v1 b).1 h with h | h
      · exact .inr ((hV b).2 (.inr (.inl h)))
      · exact .inl ((h0 b).1 h).1
    · exact .inr ((hV b).2 (.inl (S.own b h)))
  have hUg : ∀ b, Ug0 b ↔ Ug b := fun b => ⟨fun h => ((h0 b).1 h).1, fun h => (h0 b).2 ⟨h, hUlt b h⟩⟩
  have hy := run_yield (P := P) (args := xs.toArray) hc.record (by simp [recd] at hxl2 ⊢; omega)
  refine ⟨fn, _, assign, body, hy, roundIn_of_wpIn trivial ?_⟩
  have htmps : (ps.zip xs.toArray).foldl (fun (t : Array Value) (pv : Nat × Value) => t.setIfInBounds pv.1 pv.2) tmps = (ps.toList.zip xs).foldl (fun (t : Array Value) (pv : Nat × Value) => t.setIfInBounds pv.1 pv.2) tmps := by
    rw [← Array.foldl_toList]; simp
  have hA := hT (rndEnv X l Ds (recd fn tmps ps assign body D .ready none) tmps Ug0 U V w) hY.round rfl
  have S1 : Sim (rndEnv X l Ds (recd fn tmps ps assign body D .ready none) tmps Ug0 U V w) γ U V1 (rst ps.toList x st') { tmps := (ps.zip xs.toArray).foldl (fun (t : Array Value) (pv : Nat × Value) => t.setIfInBounds pv.1 pv.2) tmps, defers := [] } w := by
    refine S.turn rfl rfl ?_ ⟨V, hc, Same.refl _ _, fun b h => .inl h, fun b h => .inl h⟩ ?_ ?_ (keep_refl _ _) (less_refl _ _) (fun _ _ _ _ _ _ => rfl) S.own S.zone S.ltU S.ltV (marks_nil _ _) (fun k n cs hk => absurd hk (putPs_nolit _ _ _ hNL k n cs))
    · show _ = X.n
      rw [htmps, foldl_set_getD, hsz]
    · show RegsOk _ _ _ _ (putPs ps.toList x st'.regs) _
      rw [htmps]
      exact putPs_sound _ _ _ _ _ hRP2 (fun p hp => by rw [hsz]; exact hps p hp) S.reg
    · exact ⟨tmps, X.outs, rfl, S.reg, hNL, S.outs⟩
  refine wpIn_mono (hA _ _ ⟨_, _, _, S1⟩) ?_
  intro e a1 w1 hg
  cases e <;> simp only [Good, Exit.then] at hg ⊢ <;> first | exact hg.elim | skip
  · obtain ⟨st1, hq, γ1, U1, V11, S1'⟩ := hg
    obtain ⟨V1', hc1, hsm1, hU1, hV1⟩ := S1'.env
    refine ⟨_, run_beginRound hc1.record rfl, ?_⟩
    have hl1 : l < w1.heap.size := (Array.getElem?_eq_some_iff.1 hc1.record).1
    have hD1 : ∀ D ∈ Ds, D ≠ l := fun D' hd e => by
      subst e
      have h1 := hc1.marks D' hd
      rw [hc1.record] at h1
      cases h1
    have put : ∀ {w3 : World} {U3 V13 V3 : Nat → Prop} {log3 : Log} {s s' : LoopState} {pe pe' : Option Code}, (∀ b, U3 b → b < w3.heap.size) → Core X l Ds (recd fn tmps ps assign body D s pe) Ug0 log3 U3 V13 V3 w3 →
        Core X l Ds (recd fn tmps ps assign body D s' pe') Ug0 log3 U3 V13 V3 (w3.putObj l (.loop (recd fn tmps ps assign body D s' pe'))) := by
      intro w3 U3 V13 V3 log3 s s' pe pe' hlt h
      refine ⟨X.stable h.env (Same.putObj _ _ _ (.inr (.inr (.inl rfl)))) (fun b hb => .inl hb), h.v1, World.putObj_heap_same (Array.getElem?_eq_some_iff.1 h.record).1, fun D' hd => ?_, h.notL, h.notD, h.zone, fun b hb => ?_⟩
      · rw [World.putObj_heap_other (hD1 D' hd)]; exact h.marks D' hd
      · rw [World.putObj_size]; exact h.ug b hb
    have S2 : Sim (rndEnv X l Ds (recd fn tmps ps assign body D .busy none) tmps Ug0 U V w) γ1 U1 V11 st1 a1 (w1.putObj l (.loop (recd fn tmps ps assign body D .busy none))) := by
      refine S1'.turn rfl rfl S1'.size ⟨V1', put S1'.ltU hc1, hsm1.trans (Same.putObj (M := fun b => b = l) _ _ _ rfl) (fun b _ h => .inr (.inr h)), hU1, hV1⟩ S1'.reg S1'.outs (keep_putObj hc1.record) (less_refl _ _) ?_ S1'.own S1'.zone
        (fun b hb => by rw [World.putObj_size]; exact S1'.ltU b hb) (fun b hb => by rw [World.putObj_size]; exact S1'.ltV b hb) ?_ S1'.lits
      · intro b cs T fr hb _
        exact keep_putObj (M := fun _ => False) hc1.record b cs T fr hb id
      · obtain ⟨Es, h1, h2, h3⟩ := S1'.defs
        refine ⟨Es, h1, h2, fun E hE => ⟨(h3 E hE).1, ?_⟩⟩
        rw [World.putObj_heap_other (fun e => by
          have h4 := (h3 E hE).2
          subst e
          rw [hc1.record] at h4
          cases h4)]
        exact (h3 E hE).2
    refine wpIn_mono (hq _ hY.round rfl _ _ ⟨_, _, _, S2⟩) ?_
    have fin : ∀ (jump : Option Code) (st3 : St) (a3 : Act) (w3 : World), Inv (rndEnv X l Ds (recd fn tmps ps assign body D .busy none) tmps Ug0 U V w) st3 a3 w3 →
        roundJ P Lo X.n ps.toList assign body Q L ⟨log.items ++ [x], !jump.isNone⟩ jump (back st3) →
        ∃ w4, (Instr.endRound l jump).run P w3 = .ok (.bool jump.isNone) w4 ∧ ∃ V', Turn Vg V' w w4 ∧ (itEnv X l Ds (recd fn tmps ps assign body D) tmps (roundJ P Lo X.n ps.toList assign body Q L)).E ⟨log.items ++ [x], !jump.isNone⟩ Ug V' w4 := by
      rintro jump st3 a3 w3 ⟨γ3, U3, V13, S3⟩ hJ3
      obtain ⟨V3, hc3, hsm3, hU3, hV3⟩ := S3.env
      refine ⟨_, run_endRound jump hc3.record, fun b => U3 b ∨ V3 b ∨ b = l, ⟨?_, ?_, ?_⟩, ?_⟩
      · refine (hsm3.trans (Same.putObj (M := fun b => b = l) _ _ _ rfl) (fun b _ h => .inr (.inr h))).mono (fun b _ hb => (hV b).2 hb)
      · rintro b (hb | hb | hb)
        · rcases hU3 b hb with h | h
          · exact .inl ((hV b).2 (.inl h))
          · exact .inr h
        · rcases hV3 b hb with h | h
          · exact .inl ((hV b).2 (.inr (.inl h)))
          · exact .inr h
        · exact .inl ((hV b).2 (.inr (.inr hb)))
      · intro b hb
        rw [World.putObj_size]
        rcases hb with hb | hb | rfl
        · exact S3.ltU b hb
        · exact S3.ltV b ((hc3.v1 b).2 (.inl hb))
        · exact (Array.getElem?_eq_some_iff.1 hc3.record).1
      · have hbackNL : NoLits (back st3).regs := by
          have houts := S3.outs
          unfold back
          cases ho : st3.outer with
          | nil => rw [ho] at houts; simp only [OutsOk] at houts; cases houts
          | cons r rs =>
            rw [ho] at houts
            simp only [OutsOk] at houts
            obtain ⟨t, ts, _, _, h3, _⟩ := houts
            exact h3
        have hlogst : (if (!jump.isNone) = true then LoopState.done else LoopState.ready) = (if jump.isNone then LoopState.ready else LoopState.done) := by cases jump <;> rfl
        refine ⟨γ3, U3, V13, V3, Ug0, jump, back st3, fun b => ?_, ?_, ?_, fun b => Iff.rfl, hJ3, hbackNL⟩
        · rw [hUg b, World.putObj_size]
          exact ⟨fun h => ⟨h, Nat.lt_of_lt_of_le (hUlt b h) hsm3.size⟩, fun h => h.1⟩
        · simp only [hlogst]
          have hlog : (back st3).log = st3.log := by unfold back; split <;> rfl
          rw [hlog]
          exact put S3.ltU hc3
        · simp only [hlogst]
          have hobj : (back st3).objs = st3.objs := by unfold back; split <;> rfl
          have hlog : (back st3).log = st3.log := by unfold back; split <;> rfl
          have houts := S3.outs
          refine S3.turn rfl hobj hsz ⟨V3, by rw [hlog]; exact put S3.ltU hc3⟩ ?_ ?_ (keep_putObj hc3.record) (less_refl _ _) ?_ S3.own S3.zone
            (fun b hb => by rw [World.putObj_size]; exact S3.ltU b hb) (fun b hb => by rw [World.putObj_size]; exact S3.ltV b hb) (marks_nil _ _) (fun k n cs hk => absurd hk (hbackNL k n cs))
          · unfold back
            cases ho : st3.outer with
            | nil => rw [ho] at houts; simp only [OutsOk] at houts; cases houts
            | cons r rs =>
              rw [ho] at houts
              simp only [OutsOk] at houts
              obtain ⟨t, ts, he, h1, _, h2⟩ := houts
              obtain ⟨rfl, rfl⟩ : tmps = t ∧ X.outs = ts := by
                have he' : tmps :: X.outs = t :: ts := he
                simpa using he'
              exact h1
          · unfold back
            cases ho : st3.outer with
            | nil => rw [ho] at houts; simp only [OutsOk] at houts; cases houts
            | cons r rs =>
              rw [ho] at houts
              simp only [OutsOk] at houts
              obtain ⟨t, ts, he, h1, _, h2⟩ := houts
              obtain ⟨rfl, rfl⟩ : tmps = t ∧ X.outs = ts := by
                have he' : tmps :: X.outs = t :: ts := he
                simpa using he'
              exact h2
          · intro b cs T fr hb _
            exact keep_putObj (M := fun _ => False) hc3.record b cs T fr hb id
    intro e a3 w3 hg3
    cases e <;> simp only [Good, roundPost] at hg3 ⊢ <;> first | exact hg3.elim | skip
    · obtain ⟨st3, hq3, hi3⟩ := hg3
      obtain ⟨w4, h1, V', h2, h3⟩ := fin none st3 a3 w3 hi3 (by
        unfold roundJ
        refine (if_neg (by simp)).mpr ⟨rfl, ?_⟩
        have : L.drop (log.items ++ [x]).length = rest := by rw [← hL]; simp
        rw [this]
        exact hq3)
      exact ⟨_, w4, h1, V', h2, .inl ⟨rfl, h3⟩⟩
    · obtain ⟨st3, hq3, hi3⟩ := hg3
      obtain ⟨w4, h1, V', h2, h3⟩ := fin (some _) st3 a3 w3 hi3 (by
        unfold roundJ
        exact (if_pos (by simp)).mpr ⟨.exit _, _, rfl, rfl, hq3⟩)
      exact ⟨_, w4, h1, V', h2, .inr ⟨rfl, h3⟩⟩
    · obtain ⟨st3, hq3, hi3⟩ := hg3
      obtain ⟨w4, h1, V', h2, h3⟩ := fin (some _) st3 a3 w3 hi3 (by
        unfold roundJ
        exact (if_pos (by simp)).mpr ⟨.goto _, _, rfl, rfl, hq3⟩)
      exact ⟨_, w4, h1, V', h2, .inr ⟨rfl, h3⟩⟩
    · obtain ⟨st3, hq3, hi3⟩ := hg3
      obtain ⟨w4, h1, V', h2, h3⟩ := fin (some _) st3 a3 w3 hi3 (by
        unfold roundJ
        exact (if_pos (by simp)).mpr ⟨.ret, _, rfl, rfl, hq3⟩)
      exact ⟨_, w4, h1, V', h2, .inr ⟨rfl, h3⟩⟩
  all_goals (obtain ⟨st1, hq, _⟩ := hg; exact hq.elim)

theorem liveCells {γ : Nat → Value} {U V : Nat → Prop} {st : St} {a : Act} {w : World} (S : Sim X γ U V st a w) {b : Nat} (h : live γ st.objs b) : ∃ cs T fr, w.heap[b]? = some (Go.Obj.cells cs T fr) := by
  obtain ⟨d, o, hd, hb⟩ := h
  exact (S.obj d o hd).heap hb

theorem range_calls {Lo : Option (List (List PV))} {L : List (List PV)} {l : Nat} {fn : FuncId} {ps : Array Nat} {assign body : Code} {D : Nat} {Q : Exit → St → Prop} {γ : Nat → Value} {U V : Nat → Prop} {st : St} {a : Act} {w w1 : World}
    {mk : List Nat} {gf : FuncId} {cap : List PV} {cvs : List Value}
    (S : Sim X γ U V st a w) (hNL : NoLits st.regs) (hY : YOkO X Lo) (hps : ∀ p ∈ ps.toList, p < X.n) (hI : Iter P gf cap L) (hR : RW P Lo X.n ps.toList assign body Q L st)
    (hs : Same (fun _ => False) w w1) (hl : w1.heap[l]? = some (.loop (recd fn a.tmps ps assign body D .ready none))) (hlw : w.heap.size ≤ l)
    (hmk : ∀ d ∈ mk, w.heap.size ≤ d ∧ w1.heap[d]? = some (Go.Obj.deferred (some []))) (hnd : mk.Nodup) (hcap : RPs w (Mut V γ st.objs) cap cvs) :
    Calls P gf (Value.func (.yield l) #[] #[] :: cvs).toArray w1 (rangePost (fence X) 0 P l (Good X Q) { a with defers := mk.map mark ++ a.defers }) := by
  obtain ⟨Ds0, hDs0, hnd0, hD0⟩ := S.defs
  have hlt1 : l < w1.heap.size := (Array.getElem?_eq_some_iff.1 hl).1
  have hnil : ∀ b, live γ st.objs b → ∀ d, (d ∈ mk ++ Ds0 ∨ d = l) → b ≠ d := by
    intro b hb d hd e
    subst e
    obtain ⟨cs, T, fr, hh⟩ := liveCells S hb
    have hlt := (Array.getElem?_eq_some_iff.1 hh).1
    rcases hd with hd | hd
    · rcases List.mem_append.1 hd with hd | hd
      · have := (hmk b hd).1; omega
      · have := (hD0 b hd).2; rw [hh] at this; cases this
    · omega
  have hc0 : Core X l (mk ++ Ds0) (recd fn a.tmps ps assign body D .ready none) (fun _ => False) st.log (live γ st.objs) V V w1 := by
    refine ⟨X.stable S.env (hs.mono fun _ _ h => h.elim) ?_, fun b => by simp, hl, ?_, fun h => hnil l h l (.inr rfl) rfl, fun d hd h => hnil d h d (.inl hd) rfl, fun b hb => ⟨id, ?_, ?_⟩, fun b hb => hb.elim⟩
    · rintro b (hb | hb | hb | hb)
      · exact .inl (S.own b hb)
      · exact hb.elim
      · exact .inr (hb ▸ hlw)
      · rcases List.mem_append.1 hb with hb | hb
        · exact .inr (hmk b hb).1
        · exact .inl (hD0 b hb).1
    · intro d hd
      rcases List.mem_append.1 hd with hd | hd
      · exact (hmk d hd).2
      · have h1 := hD0 d hd
        rw [hs.blk d (S.ltU d h1.1) id]
        exact h1.2
    · have := S.ltV b hb; omega
    · intro hd
      rcases List.mem_append.1 hd with hd | hd
      · have := (hmk b hd).1; have := S.ltV b hb; omega
      · exact S.zone b hb (hD0 b hd).1
  have hE0 : Rounds X l (mk ++ Ds0) (recd fn a.tmps ps assign body D) a.tmps (roundJ P Lo X.n ps.toList assign body Q L) ⟨[], false⟩ (fun _ => False) (fun b => live γ st.objs b ∨ V b ∨ b = l) w1 := by
    refine ⟨γ, live γ st.objs, V, V, fun _ => False, none, st, fun b => by simp, hc0, ?_, fun b => Iff.rfl, ?_, hNL⟩
    · refine S.turn rfl rfl S.size ⟨V, hc0⟩ S.reg S.outs (hs.mono fun _ _ h => h.elim).keep (less_refl _ _) ?_ (fun b h => h) (fun b hb h => S.zone b hb (S.own b h)) (fun b h => Nat.lt_of_lt_of_le (S.ltU b (S.own b h)) hs.size) (fun b h => Nat.lt_of_lt_of_le (S.ltV b h) hs.size) (marks_nil _ _) (fun k n cs hk => absurd hk (hNL k n cs))
      intro b cs T fr hb _
      exact hs.blk b (Array.getElem?_eq_some_iff.1 hb).1 id
    · unfold roundJ
      exact (if_neg (by simp)).mpr ⟨rfl, by simpa using hR⟩
  have hcap1 : RPs w1 (fun b => live γ st.objs b ∨ V b ∨ b = l) cap cvs := by
    refine RPs.keep (hs.mono (M' := Mut V γ st.objs) fun _ _ h => h.elim).keep ?_ cap cvs hcap
    intro b cs T fr hb h
    have hlt := (Array.getElem?_eq_some_iff.1 hb).1
    rcases h with h | h | h
    · exact .inr h
    · exact .inl h
    · omega
  refine Calls.mono (hI.2 (itEnv X l (mk ++ Ds0) (recd fn a.tmps ps assign body D) a.tmps (roundJ P Lo X.n ps.toList assign body Q L)) rfl (range_yok hY S.size hps) w1 (fun _ => False) _ cvs hE0 (fun b _ h => h) (fun b h => h.elim) ?_ hcap1) ?_
  · rintro b (h | h | h)
    · exact Nat.lt_of_lt_of_le (S.ltU b (S.own b h)) hs.size
    · exact Nat.lt_of_lt_of_le (S.ltV b h) hs.size
    · omega
  rintro e w3 ⟨⟨v, rfl⟩, log, Ug, Vg, ⟨γ3, U3, V13, V3, Ug0, pe, st3, h0, hc3, S3, hV3, hJ3, hNL3⟩, hlog, hz3, hUlt3, hVlt3⟩
  simp only [rangePost]
  have hrs : (recd fn a.tmps ps assign body D (if log.stopped = true then .done else .ready) pe).state ≠ .busy := by
    simp only [recd]; split <;> simp
  refine ⟨pe, _, run_endLoop hc3.record hrs, ?_⟩
  have hD3 : ∀ d ∈ mk ++ Ds0, d ≠ l := fun d hd e => by
    subst e
    have h1 := hc3.marks d hd
    rw [hc3.record] at h1
    cases h1
  have S4 : Inv X st3 { a with defers := mk.map mark ++ a.defers } (w3.putObj l (.loop { recd fn a.tmps ps assign body D (if log.stopped = true then .done else .ready) pe with state := .exhausted })) := by
    refine ⟨γ3, fun b => U3 b ∨ Ug0 b ∨ b = l ∨ b ∈ mk ++ Ds0, V3, ?_⟩
    refine S3.turn rfl rfl S.size (X.stable hc3.env (Same.putObj _ _ _ (.inr (.inr (.inl rfl)))) (fun b hb => .inl hb)) S3.reg S3.outs (keep_putObj hc3.record) (less_of fun b _ h => ?_) ?_ (fun b hb => .inl (S3.own b hb)) ?_ ?_ ?_ ?_ (fun k n cs hk => absurd hk (hNL3 k n cs))
    · rcases h with h | h
      · exact .inl ((hc3.v1 b).2 (.inl h))
      · exact .inr h
    · intro b cs T fr hb _
      exact keep_putObj (M := fun _ => False) hc3.record b cs T fr hb id
    · rintro b hb (h | h | h | h)
      · exact S3.zone b ((hc3.v1 b).2 (.inl hb)) h
      · exact (hc3.zone b hb).1 h
      · exact (hc3.zone b hb).2.1 h
      · exact (hc3.zone b hb).2.2 h
    · rw [World.putObj_size]
      rintro b (h | h | h | h)
      · exact S3.ltU b h
      · exact (hc3.ug b h).1
      · rw [h]; exact (Array.getElem?_eq_some_iff.1 hc3.record).1
      · exact (Array.getElem?_eq_some_iff.1 (hc3.marks b h)).1
    · rw [World.putObj_size]
      exact fun b h => S3.ltV b ((hc3.v1 b).2 (.inl h))
    · refine ⟨mk ++ Ds0, by simp [hDs0], ?_, fun d hd => ⟨.inr (.inr (.inr hd)), ?_⟩⟩
      · refine List.nodup_append.2 ⟨hnd, hnd0, fun x hx y hy e => ?_⟩
        subst e
        have h1 := (hmk x hx).1
        have h2 := S.ltU x (hD0 x hy).1
        omega
      · rw [World.putObj_heap_other (hD3 d hd)]; exact hc3.marks d hd
  unfold roundJ at hJ3
  split at hJ3
  · obtain ⟨e, c, he, rfl, hQ⟩ := hJ3
    cases e <;> simp only [jumpOf, Option.some.injEq] at he <;> first | (cases he; done) | skip
    · subst he; exact wpIn_exit ⟨st3, hQ, S4⟩
    · subst he; exact wpIn_goto ⟨st3, hQ, S4⟩
    · subst he; exact wpIn_ret ⟨st3, hQ, S4⟩
  · rename_i hst
    obtain ⟨rfl, hR3⟩ := hJ3
    have : log.items = L := hlog (by simpa using hst)
    rw [this] at hR3
    simp only [List.drop_length, RW] at hR3
    exact ⟨st3, hR3, S4⟩

theorem AW.range {Lo : Option (List (List PV))} {L : List (List PV)} {g : Operand} {ps : Array Tmp} {assign body : Code} {st : St} {Q : Exit → St → Prop} {fv : AV} {gf : Nat} {cap : List PV}
    (hY : YOkO X Lo) (hg : ev st.regs g = some fv) (hf : frzA [] fv = some (.fn gf cap)) (hI : Iter P gf cap L) (hps : ps.toList.all (fun p => decide (p < X.n)) = true) (hnl : noLitsB st.regs = true) (h : RW P Lo X.n ps.toList assign body Q L st) : AW X (.rangeFunc g ps assign body) st Q := by
  rintro a w ⟨γ, U, V, S⟩
  have hNL := noLitsB_spec hnl
  have hps' : ∀ p ∈ ps.toList, p < X.n := fun p hp => by simpa using List.all_eq_true.1 hps p hp
  have hfv := ev_sound hg S.regG
  have hrp : RP w (Mut V γ st.objs) (.fn gf cap) (a.eval g) := frzA_sound (objs := []) (Y := X.Y) (γ := γ) (M := Mut V γ st.objs) (fun d o h => by simp [get] at h) (fun b h => h) (fun d o b h => by simp [get] at h) hf hfv
  simp only [RP] at hrp
  obtain ⟨cvs, hev, hcap⟩ := hrp
  have hen := hI.1
  refine wpIn_rangeFunc ?_
  intro fn _
  rw [fence_round]
  cases hro : X.ro with
  | none =>
    obtain ⟨D, hD⟩ : ∃ D, D = w.heap.size := ⟨_, rfl⟩
    have hl1 : ((w.alloc (Go.Obj.deferred (some []))).alloc (.loop (recd fn a.tmps ps assign body w.heap.size .ready none))).heap[w.heap.size + 1]? = some (.loop (recd fn a.tmps ps assign body w.heap.size .ready none)) := by
      have := World.alloc_heap_new (w.alloc (.deferred (some []))) (.loop (recd fn a.tmps ps assign body w.heap.size .ready none)); rwa [World.size_alloc] at this
    have hd1 : ((w.alloc (Go.Obj.deferred (some []))).alloc (.loop (recd fn a.tmps ps assign body w.heap.size .ready none))).heap[w.heap.size]? = some (Go.Obj.deferred (some [])) :=
      (Below.heap_alloc _ _ _ (by simp)).trans (World.alloc_heap_new w _)
    obtain ⟨W1, hW1⟩ : ∃ W1, W1 = (w.alloc (Go.Obj.deferred (some []))).alloc (.loop (recd fn a.tmps ps assign body w.heap.size .ready none)) := ⟨_, rfl⟩
    refine ⟨w.heap.size + 1, [{ target := .collected w.heap.size, args := #[] }], W1, { target := .fn (.func gf) cvs.toArray, args := #[.func (.yield (w.heap.size + 1)) #[] #[]] }, W1, gf,
      #[.func (.yield (w.heap.size + 1)) #[] #[]] ++ cvs.toArray, W1, hW1 ▸ run_enterLoop_outer _ _ _ _ _, ?_, fun f' _ => trivial, ?_, fun h => by simp [fence_depth] at h, ?_⟩
    · simp only [resolve, hev]
      simp [go_sem]
    · simp [invoke, go_sem, hen _ _]
    · subst hW1
      rw [calls_fence]
      have := range_calls (mk := [w.heap.size]) S hNL hY hps' hI h ((Same.alloc _ w _).trans (Same.alloc _ _ _) (fun _ _ h => h)) hl1 (by omega) (fun d hd => by
        simp only [List.mem_singleton] at hd; subst hd; exact ⟨Nat.le_refl _, hd1⟩) (by simp) hcap
      simpa [mark] using this
  | some l₀ =>
    obtain ⟨r₀, hr₀⟩ := X.round S.env hro
    have hl1 : (w.alloc (.loop (recd fn a.tmps ps assign body r₀.defers .ready none))).heap[w.heap.size]? = some (.loop (recd fn a.tmps ps assign body r₀.defers .ready none)) := World.alloc_heap_new w _
    obtain ⟨W1, hW1⟩ : ∃ W1, W1 = w.alloc (.loop (recd fn a.tmps ps assign body r₀.defers .ready none)) := ⟨_, rfl⟩
    refine ⟨w.heap.size, [], W1, { target := .fn (.func gf) cvs.toArray, args := #[.func (.yield w.heap.size) #[] #[]] }, W1, gf,
      #[.func (.yield w.heap.size) #[] #[]] ++ cvs.toArray, W1, hW1 ▸ run_enterLoop_inner hr₀ _ _ _ _ _, ?_, fun f' _ => trivial, ?_, fun h => by simp [fence_depth] at h, ?_⟩
    · simp only [resolve, hev]
      simp [go_sem]
    · simp [invoke, go_sem, hen _ _]
    · subst hW1
      rw [calls_fence]
      have := range_calls (mk := []) S hNL hY hps' hI h (Same.alloc _ w _) hl1 (Nat.le_refl _) (fun d hd => by cases hd) (by simp) hcap
      simpa [mark] using this

theorem WX.range {Lo : Option (List (List PV))} {L : List (List PV)} {g : Operand} {ps : Array Tmp} {assign body : Code} {st : St} {Q : Exit → St → Prop} {fv : AV} {gf : Nat} {cap : List PV} {k : List Fr}
    (hY : YOkO X Lo) (hg : ev st.regs g = some fv) (hf : frzA [] fv = some (.fn gf cap)) (hI : Iter P gf cap L) (hps : ps.toList.all (fun p => decide (p < X.n)) = true) (hnl : noLitsB st.regs = true) (h : RW P Lo X.n ps.toList assign body (fun e st' => WX X Q k e st') L st) :
    WX X Q (.code (.rangeFunc g ps assign body) :: k) .normal st := AW.range hY hg hf hI hps hnl h

end Go.AE
