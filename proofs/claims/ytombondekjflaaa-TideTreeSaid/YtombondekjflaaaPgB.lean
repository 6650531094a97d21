/- YtombondekjflaaaPgB: a part of the proof; see the last text for what is proved. -/
import Derived.Test.YtombondekjflaaaPgA
set_option linter.unusedVariables false
set_option linter.unusedSimpArgs false
set_option maxRecDepth 100000
namespace Go.Proofs.Ytombondekjflaaa
open Go.AE

theorem st_may (t : api_Tide) : mayT (mayT t) = mayT t := may_may t
theorem tr_may (t : api_Tide) (s : api_TideState) : trT (mayT t) s = trT t s := by simp only [trT, st_st]
theorem re_may (t : api_Tide) (s : api_TideState) : reT (mayT t) s = reT t s := by simp only [reT, st_st, may_may]
theorem ste_may (t : api_Tide) (s : api_TideState) (x : Int) : steT (mayT t) s x = steT t s x := by simp only [steT, st_st, may_may]
theorem tr_ge (t : api_Tide) (s : api_TideState) : 0 ≤ (trT t s).Age ∧ ((trT t s).Age ≤ (mayT t).Least) := by
  have hm := bad_may t
  simp only [bad, Bool.or_eq_false_iff, decide_eq_false_iff_not] at hm
  unfold trT stT out
  by_cases h : (decide (s.Age < -1) || decide (s.Age > (mayT t).Least)) = true
  · simp [h]; omega
  · simp only [h]
    simp at h
    by_cases h2 : s.Age = -1
    · simp [h2]; omega
    · simp only [Bool.false_eq_true, if_false, h2]
      omega
theorem tr_tr (t : api_Tide) (s : api_TideState) : trT t ⟨(trT t s).Age⟩ = trT t s := by
  have h := tr_ge t s
  have h2 : out (mayT t) ⟨(trT t s).Age⟩ = false := by
    simp only [out, Bool.or_eq_false_iff, decide_eq_false_iff_not]; omega
  generalize trT t s = u at h h2 ⊢
  obtain ⟨a⟩ := u
  simp only at h h2 ⊢
  unfold trT stT
  rw [h2]
  simp only [Bool.false_eq_true, if_false]
  rw [if_neg (by omega)]
theorem rrun_l1 (t : api_Tide) (s : api_TideState) (tr : List Int) (x : Int) (htl : tr.length ≤ 100000) (J : Int → Option (api_TideState × List Int)) : ∀ (d i m : Nat) (age : Int), i + d = tr.length → 258 + d ≤ m →
    riddleref14_Run_l1 tr (mayT t, s) x J m ((i : Int), age) = J (if x ∈ tr.drop i then (trT t ⟨age⟩).Age else age) := by
  intro d
  induction d with
  | zero =>
    intro i m age hi hm
    obtain ⟨m, rfl⟩ : ∃ n, m = n + 1 := ⟨m - 1, by omega⟩
    rw [riddleref14_Run_l1, if_neg (by simp; omega), List.drop_eq_nil_of_le (by omega)]
    simp
  | succ d ih =>
    intro i m age hi hm
    obtain ⟨m, rfl⟩ : ∃ n, m = n + 1 := ⟨m - 1, by omega⟩
    obtain ⟨q, rfl⟩ : ∃ n, m = n + 257 := ⟨m - 257, by omega⟩
    have hlt : i < tr.length := by omega
    rw [riddleref14_Run_l1, if_pos (by simpa using hlt), at_lt hlt]
    simp only [Option.bind_some]
    rw [wrapN i (by omega), List.drop_eq_getElem_cons hlt]
    by_cases he : tr[i] = x
    · rw [if_pos (by simpa using he), rtrigger_ev]
      simp only [Option.bind_some]
      rw [ih (i + 1) _ _ (by omega) (by omega), tr_may]
      have h1 : x ∈ tr[i] :: tr.drop (i + 1) := by rw [he]; exact List.mem_cons_self
      rw [if_pos h1]
      split
      · rw [tr_tr]
      · rfl
    · rw [if_neg (by simpa using he), ih (i + 1) _ _ (by omega) (by omega)]
      have h1 : x ∈ tr[i] :: tr.drop (i + 1) ↔ x ∈ tr.drop (i + 1) := by
        rw [List.mem_cons]
        exact ⟨fun h => h.resolve_left (fun h => he h.symm), .inr⟩
      simp only [h1]
theorem rrun_l0 (t : api_Tide) (ht : U64c t.Class) (s : api_TideState) (w tr : List Int) (hw : bytesOk w) (hwl : w.length ≤ 100000) (htl : tr.length ≤ 100000) (J : List Int × Int → Option (api_TideState × List Int)) :
    ∀ (d i m : Nat) (out : List Int) (age : Int), i + d = w.length + 1 → out.length ≤ i → tr.length + 260 + d ≤ m → riddleref14_Run_l0 w tr (mayT t, s) J m (out, (i : Int), age) = J (runT t w tr d i out age) := by
  intro d
  induction d with
  | zero =>
    intro i m out age hi ho hm
    obtain ⟨m, rfl⟩ : ∃ n, m = n + 1 := ⟨m - 1, by omega⟩
    rw [riddleref14_Run_l0, if_neg (by simp; omega)]
    rfl
  | succ d ih =>
    intro i m out age hi ho hm
    obtain ⟨m, rfl⟩ : ∃ n, m = n + 1 := ⟨m - 1, by omega⟩
    obtain ⟨q, rfl⟩ : ∃ n, m = n + 257 := ⟨m - 257, by omega⟩
    have key : ∀ (age2 : Int) (out2 : List Int), out2.length ≤ i + 1 → age2 = ageAt t tr i age → out2 = outAt t tr i age out →
        (if (decide ((i : Int) < (w.length : Int))) = true then (at_ w (i : Int)).bind fun x => (riddleref14_Step (q + 257) (mayT t) ⟨age2⟩ x).bind fun y => riddleref14_Run_l0 w tr (mayT t, s) J (q + 257) (out2, IntKind.i64.wrap ((i : Int) + 1), y.Age)
          else riddleref14_Run_l0 w tr (mayT t, s) J (q + 257) (out2, IntKind.i64.wrap ((i : Int) + 1), age2)) = J (runT t w tr (d + 1) i out age) := by
      intro age2 out2 hlen ha hou
      rw [wrapN i (by omega)]
      by_cases hlt : i < w.length
      · rw [if_pos (by simpa using hlt), at_lt hlt]
        simp only [Option.bind_some]
        have hb := hw w[i] (List.getElem_mem hlt)
        rw [rstep_ev (mayT t) (mayU ht) _ _ hb.1 hb.2, ste_may]
        simp only [Option.bind_some]
        rw [ih (i + 1) (q + 257) out2 _ (by omega) hlen (by omega)]
        simp only [runT, List.getElem?_eq_getElem hlt, ha, hou]
      · rw [if_neg (by simpa using hlt)]
        rw [ih (i + 1) (q + 257) out2 _ (by omega) hlen (by omega)]
        simp only [runT, List.getElem?_eq_none (Nat.le_of_not_lt hlt), ha, hou]
    rw [riddleref14_Run_l0, if_pos (by simp; omega)]
    simp only [jn]
    have h0 := rrun_l1 t s tr (i : Int) htl (fun v124 => (riddleref14_Ready (q + 257) (mayT t) ⟨v124⟩).bind fun t140_2 =>
      if t140_2 = true then (if okApp 8 (out.length + [(i : Int)].length) then
        (if (decide ((i : Int) < (w.length : Int))) = true then (at_ w (i : Int)).bind fun x => (riddleref14_Step (q + 257) (mayT t) ⟨v124⟩ x).bind fun y => riddleref14_Run_l0 w tr (mayT t, s) J (q + 257) (out ++ [(i : Int)], IntKind.i64.wrap ((i : Int) + 1), y.Age)
          else riddleref14_Run_l0 w tr (mayT t, s) J (q + 257) (out ++ [(i : Int)], IntKind.i64.wrap ((i : Int) + 1), v124)) else none)
      else (if (decide ((i : Int) < (w.length : Int))) = true then (at_ w (i : Int)).bind fun x => (riddleref14_Step (q + 257) (mayT t) ⟨v124⟩ x).bind fun y => riddleref14_Run_l0 w tr (mayT t, s) J (q + 257) (out, IntKind.i64.wrap ((i : Int) + 1), y.Age)
          else riddleref14_Run_l0 w tr (mayT t, s) J (q + 257) (out, IntKind.i64.wrap ((i : Int) + 1), v124))) tr.length 0 (q + 257) age (by omega) (by omega)
    simp only [Int.natCast_zero, List.drop_zero] at h0
    have ha : (if (i : Int) ∈ tr then (trT t ⟨age⟩).Age else age) = ageAt t tr i age := rfl
    rw [ha] at h0
    refine Eq.trans h0 ?_
    rw [rready_ev, re_may]
    simp only [Option.bind_some]
    have hl := outAt_len t tr i age out ho
    have hok : okApp 8 (out.length + [(i : Int)].length) := okApp_of (by simp; omega)
    by_cases hr : reT t ⟨ageAt t tr i age⟩ = true
    · rw [if_pos hr, if_pos hok]
      exact key _ _ (by rw [List.length_append]; simp; omega) rfl (by rw [outAt, if_pos hr])
    · rw [if_neg hr]
      exact key _ _ (by omega) rfl (by rw [outAt, if_neg hr])
theorem rrun_ev (t : api_Tide) (ht : U64c t.Class) (s : api_TideState) (w tr : List Int) (hw : bytesOk w) (hwl : w.length ≤ 100000) (htl : tr.length ≤ 100000) (m : Nat) (hm : tr.length + w.length + 261 ≤ m) :
    riddleref14_Run m t s w tr = some (⟨(runR t s w tr).2⟩, (runR t s w tr).1) := by
  unfold riddleref14_Run
  obtain ⟨q, rfl⟩ : ∃ n, m = n + 257 := ⟨m - 257, by omega⟩
  rw [rmay_ev]
  simp only [Option.bind_some, jn]
  exact rrun_l0 t ht _ w tr hw hwl htl (fun v => some (⟨v.2⟩, v.1)) (w.length + 1) 0 (q + 257) [] (stT t s).Age (by omega) (by simp) (by omega)
theorem runT_step {t : api_Tide} {w tr : List Int} {d i : Nat} {out : List Int} {age : Int} (o2 : List Int) (a2 : Int) (h1 : outAt t tr i age out = o2) (h2 : (match w[i]? with | some x => (steT t ⟨ageAt t tr i age⟩ x).Age | none => ageAt t tr i age) = a2) : runT t w tr (d + 1) i out age = runT t w tr d (i + 1) o2 a2 := by
  rw [← h1, ← h2]; rfl
abbrev T0 : api_Tide := ⟨⟨0, bits .or .u64 0 8589934592, 0, 0⟩, 2⟩
theorem begun_run : runR T0 ⟨-1⟩ [120, 97, 97, 97, 98] [1] = ([3, 4], -1) := by
  have h0 : (stT T0 ⟨-1⟩).Age = -1 := by decide +kernel
  unfold runR
  rw [h0]
  refine (runT_step [] (-1) (by decide +kernel) (by decide +kernel)).trans ?_
  refine (runT_step [] 1 (by decide +kernel) (by decide +kernel)).trans ?_
  refine (runT_step [] 2 (by decide +kernel) (by decide +kernel)).trans ?_
  refine (runT_step [3] 2 (by decide +kernel) (by decide +kernel)).trans ?_
  refine (runT_step [3, 4] (-1) (by decide +kernel) (by decide +kernel)).trans ?_
  refine (runT_step [3, 4] (-1) (by decide +kernel) (by decide +kernel)).trans ?_
  rfl
theorem begun_ev (m : Nat) : riddlelaw14_begun (m + 100) = some true := by
  have ho : bits .or .u64 0 8589934592 = 8589934592 := by decide +kernel
  unfold riddlelaw14_begun tide_New
  simp only [Option.bind_some]
  rw [run_ev _ (by rw [ho]; exact ⟨⟨by decide, by decide⟩, ⟨by decide, by decide⟩, ⟨by decide, by decide⟩, ⟨by decide, by decide⟩⟩) _ _ _ (by intro x hx; simp at hx; omega) (by decide) (by decide) _ (by simp), begun_run]
  simp only [Option.bind_some]
  rw [equal_ev _ _ (by decide) _ (by simp)]
  simp
theorem runT_len (t : api_Tide) (w tr : List Int) : ∀ (d i : Nat) (out : List Int) (age : Int), out.length ≤ i → (runT t w tr d i out age).1.length ≤ i + d
  | 0, i, out, age, h => by simpa [runT] using h
  | d + 1, i, out, age, h => by
    simp only [runT]
    exact Nat.le_trans (runT_len t w tr d (i + 1) _ _ (outAt_len t tr i age out h)) (by omega)

/-- TideSteps' plain law. -/
theorem tideSteps (t : api_Tide) (s : api_TideState) (x : Int) (ht : U64c t.Class) (h0 : 0 ≤ x) (h1 : x < 256) : ∃ k, riddlelaw14_TideSteps k t s x = some true := by
  refine ⟨400, ?_⟩
  unfold riddlelaw14_TideSteps
  rw [begun_ev 300, check_ev, rcheck_ev, checkS_ev, rcheckS_ev, trigger_ev t s 395, rtrigger_ev t s 143, step_ev t ht s x h0 h1 395, rstep_ev t ht s x h0 h1 143, ready_ev t s 395, rready_ev t s 143]
  simp [tide_New]
/-- TideRuns' plain law. -/
theorem tideRuns (t : api_Tide) (s : api_TideState) (w tr : List Int) (ht : U64c t.Class) (hw : bytesOk w) : ∃ k, riddlelaw14_TideRuns k t s w tr = some true := by
  refine ⟨2000, ?_⟩
  unfold riddlelaw14_TideRuns
  by_cases hl : w.length > 300
  · rw [if_pos (by simp; omega)]
  by_cases hl2 : tr.length > 300
  · rw [if_pos (by simp; omega)]
  rw [if_neg (by simp; omega), run_ev t ht s w tr hw (by omega) (by omega) 2000 (by omega), rrun_ev t ht s w tr hw (by omega) (by omega) 2000 (by omega), begun_ev 1900]
  have hlen := runT_len t w tr (w.length + 1) 0 [] (stT t s).Age (by simp)
  simp only [Option.bind_some]
  rw [equal_ev _ _ (by unfold runR; omega) 2000 (by unfold runR; omega)]
  simp
/-- TideSmall's plain law. -/
theorem tideSmall (t : api_Tide) (s : api_TideState) (w tr : List Int) (ht : U64c t.Class) (hw : bytesOk w) : ∃ k, riddlelaw14_TideSmall k t s w tr = some true := by
  refine ⟨2000, ?_⟩
  unfold riddlelaw14_TideSmall
  rw [begun_ev 1900, check_ev, checkS_ev]
  simp only [Option.bind_some, Bool.not_true, Bool.false_eq_true, if_false]
  by_cases hb : bad t = true
  · simp [hb]
  by_cases ho : out t s = true
  · simp [hb, ho]
  by_cases hl : w.length > 300
  · have : ((w.length : Int) > 300) := by omega
    simp [hb, ho, this]
  by_cases hl2 : tr.length > 300
  · have : ((tr.length : Int) > 300) := by omega
    have h3 : ¬ ((w.length : Int) > 300) := by omega
    simp [hb, ho, this, h3]
  have h3 : ¬ ((w.length : Int) > 300) := by omega
  have h4 : ¬ ((tr.length : Int) > 300) := by omega
  have hmay : mayT t = t := by rw [mayT, if_neg hb]
  have hst : ∀ u : api_TideState, -1 ≤ (stT t u).Age ∧ (stT t u).Age ≤ max t.Least 0 := by
    intro u
    simp only [bad, Bool.or_eq_true, decide_eq_true_eq, not_or] at hb
    unfold stT out; rw [hmay]; split
    · simp; omega
    · rename_i h; simp at h; omega
  have hb' := hb
  simp only [bad, Bool.or_eq_true, decide_eq_true_eq, not_or] at hb'
  have hage : ∀ (d i : Nat) (o : List Int) (a : Int), -1 ≤ a ∧ a ≤ t.Least → -1 ≤ (runT t w tr d i o a).2 ∧ (runT t w tr d i o a).2 ≤ t.Least := by
    intro d
    induction d with
    | zero => intro i o a h; exact h
    | succ d ih =>
      intro i o a h
      simp only [runT]
      refine ih _ _ _ ?_
      have h1 : -1 ≤ ageAt t tr i a ∧ ageAt t tr i a ≤ t.Least := by
        unfold ageAt; split
        · have := tr_ge t ⟨a⟩; rw [hmay] at this; omega
        · exact h
      split
      · unfold steT
        split
        · simp; omega
        · rename_i hh
          have h2 := hst ⟨ageAt t tr i a⟩
          simp only [not_or] at hh
          rw [hmay, wrap_i64_of _ (by omega) (by omega)]
          unfold minI; simp only; split <;> omega
      · exact h1
  have hr := hage (w.length + 1) 0 [] (stT t s).Age (by have := hst s; omega)
  rw [run_ev t ht s w tr hw (by omega) (by omega) 2000 (by omega)]
  have hno : out t ⟨(runR t s w tr).2⟩ = false := by
    simp only [out, Bool.or_eq_false_iff, decide_eq_false_iff_not]; unfold runR; omega
  have hno2 : out t (trT t ⟨(runR t s w tr).2⟩) = false := by
    have := tr_ge t ⟨(runR t s w tr).2⟩
    rw [hmay] at this
    simp only [out, Bool.or_eq_false_iff, decide_eq_false_iff_not]; omega
  have htr := trigger_ev t ⟨(runR t s w tr).2⟩ 1995
  simp only [Nat.reduceAdd] at htr
  simp only [Option.bind_some, checkS_ev, hno, htr, hno2]
  simp [hb, ho, h3, h4]
end Go.Proofs.Ytombondekjflaaa
