/- YtombondekjflaaaPa: a part of the proof; see the last text for what is proved. -/
import Derived.Test.YtombondekjflaaaHa
import Derived.Test.YtombondekjflaaaAhArg
import Derived.Test.YtombondekjflaaaAhNum
set_option linter.unusedVariables false
set_option linter.unusedSimpArgs false
namespace Go.Proofs.Ytombondekjflaaa
open Go.AE

theorem wrapN (n : Nat) (h : n < 9223372036854775807) : IntKind.i64.wrap ((n : Int) + 1) = ((n + 1 : Nat) : Int) := by
  rw [wrap_i64_of _ (by omega) (by omega)]; omega
theorem at_lt {α : Type} {l : List α} {i : Nat} (h : i < l.length) : at_ l (i : Int) = some l[i] := by rw [at_nat, List.getElem?_eq_getElem h]

/-! ### slices -/
theorem index_l0 (a0 : List Int) (a1 : Int) (J : Unit → Option Int) (hl : a0.length < 9223372036854775807) : ∀ (d i m : Nat), i + d = a0.length → d < m → (∀ j < i, a0[j]? ≠ some a1) →
    ∃ r, ((r = -1 ∧ a1 ∉ a0 ∧ slices_Index_int_int_l0 a0 a1 J m (i : Int) = J ()) ∨ (0 ≤ r ∧ a1 ∈ a0 ∧ slices_Index_int_int_l0 a0 a1 J m (i : Int) = some r)) := by
  intro d
  induction d with
  | zero =>
    intro i m hi hm hn
    obtain ⟨m, rfl⟩ : ∃ n, m = n + 1 := ⟨m - 1, by omega⟩
    refine ⟨-1, .inl ⟨rfl, fun hmem => ?_, ?_⟩⟩
    · obtain ⟨j, hj, he⟩ := List.mem_iff_getElem.1 hmem
      exact hn j (by omega) (by rw [List.getElem?_eq_getElem hj, he])
    · rw [slices_Index_int_int_l0, if_neg (by simp; omega)]
  | succ d ih =>
    intro i m hi hm hn
    obtain ⟨m, rfl⟩ : ∃ n, m = n + 1 := ⟨m - 1, by omega⟩
    have hlt : i < a0.length := by omega
    by_cases he : a1 = a0[i]
    · refine ⟨i, .inr ⟨by omega, by rw [he]; exact List.getElem_mem hlt, ?_⟩⟩
      rw [slices_Index_int_int_l0, if_pos (by simpa using hlt), at_lt hlt]
      simp [he]
    · obtain ⟨r, hr⟩ := ih (i + 1) m (by omega) (by omega) (fun j hj => by
        rcases Nat.lt_or_ge j i with h | h
        · exact hn j h
        · have : j = i := by omega
          subst this
          rw [List.getElem?_eq_getElem hlt]
          intro hc; exact he (Option.some.inj hc).symm)
      have hs : slices_Index_int_int_l0 a0 a1 J (m + 1) (i : Int) = slices_Index_int_int_l0 a0 a1 J m ((i + 1 : Nat) : Int) := by
        rw [slices_Index_int_int_l0, if_pos (by simpa using hlt), at_lt hlt]
        simp only [Option.bind_some]
        rw [if_neg (by simpa using he), wrapN i (by omega)]
      exact ⟨r, by rw [hs]; exact hr⟩
theorem contains_ev (l : List Int) (x : Int) (hl : l.length < 9223372036854775807) (m : Nat) (hm : l.length < m) : slices_Contains_int_int m l x = some (decide (x ∈ l)) := by
  obtain ⟨r, hr⟩ := index_l0 l x (fun _ => some (-1)) hl l.length 0 m (by omega) hm (fun j hj => by omega)
  unfold slices_Contains_int_int slices_Index_int_int
  simp only [jn]
  rcases hr with ⟨rfl, hn, he⟩ | ⟨h0, hy, he⟩
  · simp only [Int.natCast_zero] at he
    rw [he]; simp [hn]
  · simp only [Int.natCast_zero] at he
    rw [he]; simp [hy, h0]
theorem equal_l0 (a b : List Int) (hab : a.length = b.length) (hl : a.length < 9223372036854775807) : ∀ (d i m : Nat), i + d = a.length → d < m → (∀ j < i, a[j]? = b[j]?) →
    slices_Equal_int_int_l0 a b (fun _ => some true) m (i : Int) = some (decide (a = b)) := by
  intro d
  induction d with
  | zero =>
    intro i m hi hm hn
    obtain ⟨m, rfl⟩ : ∃ n, m = n + 1 := ⟨m - 1, by omega⟩
    rw [slices_Equal_int_int_l0, if_neg (by simp; omega)]
    have : a = b := List.ext_getElem? fun j => by
      rcases Nat.lt_or_ge j i with h | h
      · exact hn j h
      · rw [List.getElem?_eq_none (by omega), List.getElem?_eq_none (by omega)]
    simp [this]
  | succ d ih =>
    intro i m hi hm hn
    obtain ⟨m, rfl⟩ : ∃ n, m = n + 1 := ⟨m - 1, by omega⟩
    have hlt : i < a.length := by omega
    have hlt2 : i < b.length := by omega
    rw [slices_Equal_int_int_l0, if_pos (by simpa using hlt), at_lt hlt]
    simp only [Option.bind_some]
    rw [at_lt hlt2]
    simp only [Option.bind_some]
    by_cases he : a[i] = b[i]
    · rw [if_neg (by simpa using he), wrapN i (by omega)]
      exact ih (i + 1) m (by omega) (by omega) (fun j hj => by
        rcases Nat.lt_or_ge j i with h | h
        · exact hn j h
        · have : j = i := by omega
          subst this
          rw [List.getElem?_eq_getElem hlt, List.getElem?_eq_getElem hlt2, he])
    · rw [if_pos (by simpa using he)]
      have : a ≠ b := fun h => he (by subst h; rfl)
      simp [this]
theorem equal_ev (a b : List Int) (hl : a.length < 9223372036854775807) (m : Nat) (hm : a.length < m) : slices_Equal_int_int m a b = some (decide (a = b)) := by
  unfold slices_Equal_int_int
  by_cases h : a.length = b.length
  · rw [if_neg (by simp [h])]
    have := equal_l0 a b h hl a.length 0 m (by omega) hm (fun j hj => by omega)
    simpa [jn] using this
  · rw [if_pos (by simpa using fun hc => h (by omega))]
    have : a ≠ b := fun hc => h (by rw [hc])
    simp [this]

/-! ### classes -/
abbrev ONES : Arr4 Int := ⟨18446744073709551615, 18446744073709551615, 18446744073709551615, 18446744073709551615⟩
theorem full_ev (m : Nat) : class_Full (m + 5) = some ONES := by kernel_rfl
theorem rfull_ev (m : Nat) : riddleref02_Full (m + 257) = some ONES := by kernel_rfl
def U64 (x : Int) : Prop := 0 ≤ x ∧ x < 18446744073709551616
def U64c (c : Arr4 Int) : Prop := U64 c.a0 ∧ U64 c.a1 ∧ U64 c.a2 ∧ U64 c.a3
theorem fdiv_u64 {w : Int} (h : U64 w) (r : Nat) : U64 (w.fdiv (2 ^ r)) := by
  obtain ⟨n, rfl⟩ := Int.eq_ofNat_of_zero_le h.1
  have h2 : ((2 : Int) ^ r) = ((2 ^ r : Nat) : Int) := by simp
  have h3 : n / 2 ^ r ≤ n := Nat.div_le_self _ _
  have h4 := h.2
  rw [h2, Int.fdiv_eq_ediv_of_nonneg _ (Int.natCast_nonneg _), ← Int.natCast_ediv]
  generalize n / 2 ^ r = m at h3 ⊢
  constructor <;> omega
theorem get4_u64 {c : Arr4 Int} (h : U64c c) (i : Int) : U64 (get4 c.a0 c.a1 c.a2 c.a3 i) := by
  unfold get4; split
  · exact h.1
  · split
    · exact h.2.1
    · split
      · exact h.2.2.1
      · exact h.2.2.2
def hasC (c : Arr4 Int) (x : Int) : Bool := ((get4 c.a0 c.a1 c.a2 c.a3 (x / 64)).fdiv (2 ^ (x % 64).toNat) % 2) == 1
theorem has_ev (c : Arr4 Int) (hc : U64c c) (x : Int) (h0 : 0 ≤ x) (h1 : x < 256) : class_Has c x = some (hasC c x) := by
  have e1 : x.fdiv (2 ^ 6) = x / 64 := by rw [Int.fdiv_eq_ediv_of_nonneg _ (by decide)]; rfl
  have e2 : bits .and .u8 x 63 = x % 64 := u8_and63 x h0 h1
  have e3 : min (x % 64).toNat IntKind.u64.bits = (x % 64).toNat := by simp only [IntKind.bits]; omega
  unfold class_Has
  rw [e1, e2, e3, if_pos (by omega), if_pos (by omega)]
  have := fdiv_u64 (get4_u64 hc (x / 64)) (x % 64).toNat
  rw [u64_and1 _ this.1 this.2]
  rfl
theorem rhas_ev (c : Arr4 Int) (hc : U64c c) (x : Int) (h0 : 0 ≤ x) (h1 : x < 256) : riddleref02_Has c x = some (hasC c x) := by
  have e1 : IntKind.u8.wrap (x.tdiv 64) = x / 64 := by
    rw [Int.tdiv_eq_ediv_of_nonneg h0]; exact wrap_u8_of _ (by omega) (by omega)
  have e2 : x.tmod 64 = x % 64 := Int.tmod_eq_emod_of_nonneg h0
  have e3 : min (x % 64).toNat IntKind.u64.bits = (x % 64).toNat := by simp only [IntKind.bits]; omega
  unfold riddleref02_Has
  rw [e1, e2, e3, if_pos (by omega), if_pos (by omega)]
  have := fdiv_u64 (get4_u64 hc (x / 64)) (x % 64).toNat
  rw [Int.tmod_eq_emod_of_nonneg this.1]
  rfl

/-! ### tides -/
def bad (t : api_Tide) : Bool := (t.Class.a0 == 0 && (t.Class.a1 == 0 && (t.Class.a2 == 0 && (t.Class.a3 == 0 && true)))) || (decide (t.Least < 0) || decide (t.Least > 1000))
def mayT (t : api_Tide) : api_Tide := if bad t = true then ⟨ONES, 0⟩ else t
def out (t : api_Tide) (s : api_TideState) : Bool := decide (s.Age < -1) || decide (s.Age > t.Least)
def stT (t : api_Tide) (s : api_TideState) : api_TideState := if out (mayT t) s = true then ⟨-1⟩ else s
def trT (t : api_Tide) (s : api_TideState) : api_TideState := if (stT t s).Age = -1 then ⟨0⟩ else stT t s
def steT (t : api_Tide) (s : api_TideState) (x : Int) : api_TideState := if (stT t s).Age = -1 ∨ hasC (mayT t).Class x = false then ⟨-1⟩ else ⟨minI (IntKind.i64.wrap ((stT t s).Age + 1)) (mayT t).Least⟩
def reT (t : api_Tide) (s : api_TideState) : Bool := (stT t s).Age == (mayT t).Least
theorem bad_may (t : api_Tide) : bad (mayT t) = false := by
  unfold mayT; split
  · rfl
  · simpa using ‹¬bad t = true›
theorem may_may (t : api_Tide) : mayT (mayT t) = mayT t := by
  rw [mayT, if_neg (by rw [bad_may]; simp)]
theorem st_st (t : api_Tide) (s : api_TideState) : stT (mayT t) s = stT t s := by simp only [stT, may_may]
theorem check_ev (t : api_Tide) : tide_Check t = some (if bad t = true then 1 else 0) := by
  unfold tide_Check bad; split <;> simp_all
theorem rcheck_ev (t : api_Tide) : riddleref14_Check t = some (if bad t = true then 1 else 0) := by
  unfold riddleref14_Check bad; split <;> simp_all
theorem checkS_ev (t : api_Tide) (s : api_TideState) : tide_CheckState t s = some (if bad t = true then 1 else if out t s = true then 1 else 0) := by
  unfold tide_CheckState
  rw [check_ev]
  simp only [Option.bind_some]
  by_cases h : bad t = true
  · simp [h]
  · simp only [h]
    simp only [out]
    by_cases h2 : s.Age < -1 <;> by_cases h3 : s.Age > t.Least <;> simp [h2, h3]
theorem rcheckS_ev (t : api_Tide) (s : api_TideState) : riddleref14_CheckState t s = some (if bad t = true then 1 else if out t s = true then 1 else 0) := by
  unfold riddleref14_CheckState
  rw [rcheck_ev]
  simp only [Option.bind_some]
  by_cases h : bad t = true
  · simp [h]
  · simp only [h]
    simp only [out]
    by_cases h2 : s.Age < -1 <;> by_cases h3 : s.Age > t.Least <;> simp [h2, h3]
theorem may_ev (t : api_Tide) (m : Nat) : tide_may (m + 5) t = some (mayT t) := by
  unfold tide_may
  rw [check_ev, full_ev]
  simp only [Option.bind_some, mayT]
  by_cases h : bad t = true <;> simp [h]
theorem state_ev (t : api_Tide) (s : api_TideState) (m : Nat) : tide_state (m + 5) t s = some (stT t s) := by
  unfold tide_state
  rw [may_ev]
  simp only [Option.bind_some]
  rw [checkS_ev, bad_may]
  simp only [Option.bind_some, tide_New, stT]
  by_cases h : out (mayT t) s = true <;> simp [h]
theorem trigger_ev (t : api_Tide) (s : api_TideState) (m : Nat) : tide_Trigger (m + 5) t s = some (trT t s) := by
  unfold tide_Trigger
  rw [state_ev]
  simp only [Option.bind_some, tide_New, trT]
  by_cases h : (stT t s).Age = -1 <;> simp [h]
theorem mayU {t : api_Tide} (h : U64c t.Class) : U64c (mayT t).Class := by
  unfold mayT; split
  · exact ⟨⟨by decide, by decide⟩, ⟨by decide, by decide⟩, ⟨by decide, by decide⟩, ⟨by decide, by decide⟩⟩
  · exact h
theorem step_ev (t : api_Tide) (ht : U64c t.Class) (s : api_TideState) (x : Int) (h0 : 0 ≤ x) (h1 : x < 256) (m : Nat) : tide_Step (m + 5) t s x = some (steT t s x) := by
  unfold tide_Step
  rw [state_ev, may_ev]
  simp only [Option.bind_some, tide_New, steT]
  rw [has_ev _ (mayU ht) x h0 h1]
  by_cases h : (stT t s).Age = -1
  · simp [h]
  · cases h2 : hasC (mayT t).Class x <;> simp [h]
theorem ready_ev (t : api_Tide) (s : api_TideState) (m : Nat) : tide_Ready (m + 5) t s = some (reT t s) := by
  unfold tide_Ready
  rw [state_ev, may_ev]
  simp only [Option.bind_some, reT]
theorem rmay_ev (t : api_Tide) (s : api_TideState) (m : Nat) : riddleref14_may (m + 257) t s = some (mayT t, stT t s) := by
  unfold riddleref14_may
  rw [rcheck_ev, rfull_ev]
  simp only [Option.bind_some, jn, mayT, stT, rcheckS_ev]
  by_cases h : bad t = true
  · simp only [h, if_true]
    have hb : bad { Class := ONES, Least := 0 } = false := rfl
    by_cases h2 : out { Class := ONES, Least := 0 } s = true <;> simp [h2, hb]
  · have h' : bad t = false := by simpa using h
    by_cases h2 : out t s = true <;> simp [h', h2]
theorem rtrigger_ev (t : api_Tide) (s : api_TideState) (m : Nat) : riddleref14_Trigger (m + 257) t s = some (trT t s) := by
  unfold riddleref14_Trigger
  rw [rmay_ev]
  simp only [Option.bind_some, trT, maxI]
  have hst : -1 ≤ (stT t s).Age := by
    unfold stT out; split
    · simp
    · rename_i h; simp at h; omega
  by_cases h : (stT t s).Age = -1
  · simp [h]
  · rw [if_neg (by omega), if_neg h]
theorem rstep_ev (t : api_Tide) (ht : U64c t.Class) (s : api_TideState) (x : Int) (h0 : 0 ≤ x) (h1 : x < 256) (m : Nat) : riddleref14_Step (m + 257) t s x = some (steT t s x) := by
  unfold riddleref14_Step
  rw [rmay_ev]
  simp only [Option.bind_some, steT]
  rw [rhas_ev _ (mayU ht) x h0 h1]
  by_cases h : (stT t s).Age = -1
  · simp [h]
  · cases h2 : hasC (mayT t).Class x <;> simp [h]
theorem rready_ev (t : api_Tide) (s : api_TideState) (m : Nat) : riddleref14_Ready (m + 257) t s = some (reT t s) := by
  unfold riddleref14_Ready
  rw [rmay_ev]
  simp only [Option.bind_some, reT]

/-! ### runs -/
def ageAt (t : api_Tide) (tr : List Int) (i : Nat) (age : Int) : Int := if (i : Int) ∈ tr then (trT t ⟨age⟩).Age else age
def outAt (t : api_Tide) (tr : List Int) (i : Nat) (age : Int) (out : List Int) : List Int := if reT t ⟨ageAt t tr i age⟩ = true then out ++ [(i : Int)] else out
def runT (t : api_Tide) (w tr : List Int) : Nat → Nat → List Int → Int → List Int × Int
  | 0, _, out, age => (out, age)
  | d + 1, i, out, age => runT t w tr d (i + 1) (outAt t tr i age out) (match w[i]? with | some x => (steT t ⟨ageAt t tr i age⟩ x).Age | none => ageAt t tr i age)
def bytesOk (w : List Int) : Prop := ∀ x ∈ w, 0 ≤ x ∧ x < 256
theorem okApp_of {n : Nat} (h : n ≤ 1000000) : okApp 8 n := by
  have : 1000000 ≤ maxLen := by decide
  exact ⟨by omega, by omega⟩
theorem outAt_len (t : api_Tide) (tr : List Int) (i : Nat) (age : Int) (out : List Int) (h : out.length ≤ i) : (outAt t tr i age out).length ≤ i + 1 := by
  unfold outAt; split
  · simp; omega
  · omega
theorem run_l0 (t : api_Tide) (ht : U64c t.Class) (w tr : List Int) (hw : bytesOk w) (hwl : w.length ≤ 100000) (htl : tr.length ≤ 100000) (J : List Int × Int → Option (api_TideState × List Int)) :
    ∀ (d i m : Nat) (out : List Int) (age : Int), i + d = w.length + 1 → out.length ≤ i → tr.length + 6 + d ≤ m → tide_Run_l0 t w tr J m (out, (i : Int), age) = J (runT t w tr d i out age) := by
  intro d
  induction d with
  | zero =>
    intro i m out age hi ho hm
    obtain ⟨m, rfl⟩ : ∃ n, m = n + 1 := ⟨m - 1, by omega⟩
    have : IntKind.i64.wrap ((w.length : Int) + 1) = ((w.length + 1 : Nat) : Int) := wrapN _ (by omega)
    rw [tide_Run_l0, this, if_neg (by simp; omega)]
    rfl
  | succ d ih =>
    intro i m out age hi ho hm
    obtain ⟨m, rfl⟩ : ∃ n, m = n + 1 := ⟨m - 1, by omega⟩
    obtain ⟨q, rfl⟩ : ∃ n, m = n + 5 := ⟨m - 5, by omega⟩
    have hwr : IntKind.i64.wrap ((w.length : Int) + 1) = ((w.length + 1 : Nat) : Int) := wrapN _ (by omega)
    have key : ∀ (age2 : Int) (out2 : List Int), out2.length ≤ i + 1 → age2 = ageAt t tr i age → out2 = outAt t tr i age out →
        (if (decide ((i : Int) < (w.length : Int))) = true then (at_ w (i : Int)).bind fun x => (tide_Step (q + 5) t ⟨age2⟩ x).bind fun y => tide_Run_l0 t w tr J (q + 5) (out2, IntKind.i64.wrap ((i : Int) + 1), y.Age)
          else tide_Run_l0 t w tr J (q + 5) (out2, IntKind.i64.wrap ((i : Int) + 1), age2)) = J (runT t w tr (d + 1) i out age) := by
      intro age2 out2 hlen ha hou
      rw [wrapN i (by omega)]
      by_cases hlt : i < w.length
      · rw [if_pos (by simpa using hlt), at_lt hlt]
        simp only [Option.bind_some]
        have hb := hw w[i] (List.getElem_mem hlt)
        rw [step_ev t ht _ _ hb.1 hb.2]
        simp only [Option.bind_some]
        rw [ih (i + 1) (q + 5) out2 _ (by omega) hlen (by omega)]
        simp only [runT, List.getElem?_eq_getElem hlt, ha, hou]
      · rw [if_neg (by simpa using hlt)]
        rw [ih (i + 1) (q + 5) out2 _ (by omega) hlen (by omega)]
        simp only [runT, List.getElem?_eq_none (Nat.le_of_not_lt hlt), ha, hou]
    rw [tide_Run_l0, hwr, if_pos (by simp; omega), contains_ev tr (i : Int) (by omega) (q + 5) (by omega)]
    simp only [Option.bind_some, jn, ready_ev, trigger_ev]
    have hl := outAt_len t tr i age out ho
    have hok : okApp 8 (out.length + [(i : Int)].length) := okApp_of (by simp; omega)
    by_cases hc : (i : Int) ∈ tr
    · have ha : (trT t ⟨age⟩).Age = ageAt t tr i age := by rw [ageAt, if_pos hc]
      simp only [hc, decide_true, if_true]
      rw [ha]
      by_cases hr : reT t ⟨ageAt t tr i age⟩ = true
      · rw [if_pos hr, if_pos hok]
        exact key _ _ (by simpa [outAt, hr] using hl) rfl (by rw [outAt, if_pos hr])
      · rw [if_neg hr]
        exact key _ _ (by simpa [outAt, hr] using hl) rfl (by rw [outAt, if_neg hr])
    · have ha : age = ageAt t tr i age := by rw [ageAt, if_neg hc]
      simp only [hc, decide_false, Bool.false_eq_true, if_false]
      rw [← ha] at key
      by_cases hr : reT t ⟨age⟩ = true
      · rw [if_pos hr, if_pos hok]
        exact key _ _ (by rw [List.length_append]; simp; omega) rfl (by rw [outAt, ← ha, if_pos hr])
      · rw [if_neg hr]
        exact key _ _ (by omega) rfl (by rw [outAt, ← ha, if_neg hr])
def runR (t : api_Tide) (s : api_TideState) (w tr : List Int) : List Int × Int := runT t w tr (w.length + 1) 0 [] (stT t s).Age
theorem run_ev (t : api_Tide) (ht : U64c t.Class) (s : api_TideState) (w tr : List Int) (hw : bytesOk w) (hwl : w.length ≤ 100000) (htl : tr.length ≤ 100000) (m : Nat) (hm : tr.length + w.length + 7 ≤ m) :
    tide_Run m t s w tr = some (⟨(runR t s w tr).2⟩, (runR t s w tr).1) := by
  unfold tide_Run
  obtain ⟨q, rfl⟩ : ∃ n, m = n + 5 := ⟨m - 5, by omega⟩
  rw [state_ev]
  simp only [Option.bind_some, jn]
  have := run_l0 t ht w tr hw hwl htl (fun v => some (⟨v.2⟩, v.1)) (w.length + 1) 0 (q + 5) [] (stT t s).Age (by omega) (by simp) (by omega)
  exact this
end Go.Proofs.Ytombondekjflaaa
set_option linter.unusedVariables false
set_option linter.unusedSimpArgs false
set_option maxRecDepth 100000
namespace Go.Proofs.Ytombondekjflaaa
open Go.AE

theorem st_may (t : api_Tide) : mayT (mayT t) = mayT t := may_may t
theorem tr_may (t : api_Tide) (s : api_TideState) : trT (mayT t) s = trT t s := by simp only [trT, st_st]
theorem re_may (t : api_Tide) (s : api_TideState) : reT (mayT t) s = reT t s := by simp only [reT, st_st, may_may]
theorem ste_may (t : api_Tide) (s : api_TideState) (x : Int) : steT (mayT t) s x = steT t s x := by simp only [steT, st_st, may_may]
theorem tr_ge (t : api_Tide) (s : api_TideState) : 0 ≤ (trT t s).Age ∧ ((trT t s).Age ≤ (mayT t).Least) := by
  have hm := bad_may t
  simp only [bad, Bool.or_eq_false_iff, decide_eq_false_iff_not] at hm
  unfold trT stT out
  by_cases h : (decide (s.Age < -1) || decide (s.Age > (mayT t).Least)) = true
  · simp [h]; omega
  · simp only [h]
    simp at h
    by_cases h2 : s.Age = -1
    · simp [h2]; omega
    · simp only [Bool.false_eq_true, if_false, h2]
      omega
theorem tr_tr (t : api_Tide) (s : api_TideState) : trT t ⟨(trT t s).Age⟩ = trT t s := by
  have h := tr_ge t s
  have h2 : out (mayT t) ⟨(trT t s).Age⟩ = false := by
    simp only [out, Bool.or_eq_false_iff, decide_eq_false_iff_not]; omega
  generalize trT t s = u at h h2 ⊢
  obtain ⟨a⟩ := u
  simp only at h h2 ⊢
  unfold trT stT
  rw [h2]
  simp only [Bool.false_eq_true, if_false]
  rw [if_neg (by omega)]
theorem rrun_l1 (t : api_Tide) (s : api_TideState) (tr : List Int) (x : Int) (htl : tr.length ≤ 100000) (J : Int → Option (api_TideState × List Int)) : ∀ (d i m : Nat) (age : Int), i + d = tr.length → 258 + d ≤ m →
    riddleref14_Run_l1 tr (mayT t, s) x J m ((i : Int), age) = J (if x ∈ tr.drop i then (trT t ⟨age⟩).Age else age) := by
  intro d
  induction d with
  | zero =>
    intro i m age hi hm
    obtain ⟨m, rfl⟩ : ∃ n, m = n + 1 := ⟨m - 1, by omega⟩
    rw [riddleref14_Run_l1, if_neg (by simp; omega), List.drop_eq_nil_of_le (by omega)]
    simp
  | succ d ih =>
    intro i m age hi hm
    obtain ⟨m, rfl⟩ : ∃ n, m = n + 1 := ⟨m - 1, by omega⟩
    obtain ⟨q, rfl⟩ : ∃ n, m = n + 257 := ⟨m - 257, by omega⟩
    have hlt : i < tr.length := by omega
    rw [riddleref14_Run_l1, if_pos (by simpa using hlt), at_lt hlt]
    simp only [Option.bind_some]
    rw [wrapN i (by omega), List.drop_eq_getElem_cons hlt]
    by_cases he : tr[i] = x
    · rw [if_pos (by simpa using he), rtrigger_ev]
      simp only [Option.bind_some]
      rw [ih (i + 1) _ _ (by omega) (by omega), tr_may]
      have h1 : x ∈ tr[i] :: tr.drop (i + 1) := by rw [he]; exact List.mem_cons_self
      rw [if_pos h1]
      split
      · rw [tr_tr]
      · rfl
    · rw [if_neg (by simpa using he), ih (i + 1) _ _ (by omega) (by omega)]
      have h1 : x ∈ tr[i] :: tr.drop (i + 1) ↔ x ∈ tr.drop (i + 1) := by
        rw [List.mem_cons]
        exact ⟨fun h => h.resolve_left (fun h => he h.symm), .inr⟩
      simp only [h1]
theorem rrun_l0 (t : api_Tide) (ht : U64c t.Class) (s : api_TideState) (w tr : List Int) (hw : bytesOk w) (hwl : w.length ≤ 100000) (htl : tr.length ≤ 100000) (J : List Int × Int → Option (api_TideState × List Int)) :
    ∀ (d i m : Nat) (out : List Int) (age : Int), i + d = w.length + 1 → out.length ≤ i → tr.length + 260 + d ≤ m → riddleref14_Run_l0 w tr (mayT t, s) J m (out, (i : Int), age) = J (runT t w tr d i out age) := by
  intro d
  induction d with
  | zero =>
    intro i m out age hi ho hm
    obtain ⟨m, rfl⟩ : ∃ n, m = n + 1 := ⟨m - 1, by omega⟩
    rw [riddleref14_Run_l0, if_neg (by simp; omega)]
    rfl
  | succ d ih =>
    intro i m out age hi ho hm
    obtain ⟨m, rfl⟩ : ∃ n, m = n + 1 := ⟨m - 1, by omega⟩
    obtain ⟨q, rfl⟩ : ∃ n, m = n + 257 := ⟨m - 257, by omega⟩
    have key : ∀ (age2 : Int) (out2 : List Int), out2.length ≤ i + 1 → age2 = ageAt t tr i age → out2 = outAt t tr i age out →
        (if (decide ((i : Int) < (w.length : Int))) = true then (at_ w (i : Int)).bind fun x => (riddleref14_Step (q + 257) (mayT t) ⟨age2⟩ x).bind fun y => riddleref14_Run_l0 w tr (mayT t, s) J (q + 257) (out2, IntKind.i64.wrap ((i : Int) + 1), y.Age)
          else riddleref14_Run_l0 w tr (mayT t, s) J (q + 257) (out2, IntKind.i64.wrap ((i : Int) + 1), age2)) = J (runT t w tr (d + 1) i out age) := by
      intro age2 out2 hlen ha hou
      rw [wrapN i (by omega)]
      by_cases hlt : i < w.length
      · rw [if_pos (by simpa using hlt), at_lt hlt]
        simp only [Option.bind_some]
        have hb := hw w[i] (List.getElem_mem hlt)
        rw [rstep_ev (mayT t) (mayU ht) _ _ hb.1 hb.2, ste_may]
        simp only [Option.bind_some]
        rw [ih (i + 1) (q + 257) out2 _ (by omega) hlen (by omega)]
        simp only [runT, List.getElem?_eq_getElem hlt, ha, hou]
      · rw [if_neg (by simpa using hlt)]
        rw [ih (i + 1) (q + 257) out2 _ (by omega) hlen (by omega)]
        simp only [runT, List.getElem?_eq_none (Nat.le_of_not_lt hlt), ha, hou]
    rw [riddleref14_Run_l0, if_pos (by simp; omega)]
    simp only [jn]
    have h0 := rrun_l1 t s tr (i : Int) htl (fun v124 => (riddleref14_Ready (q + 257) (mayT t) ⟨v124⟩).bind fun t140_2 =>
      if t140_2 = true then (if okApp 8 (out.length + [(i : Int)].length) then
        (if (decide ((i : Int) < (w.length : Int))) = true then (at_ w (i : Int)).bind fun x => (riddleref14_Step (q + 257) (mayT t) ⟨v124⟩ x).bind fun y => riddleref14_Run_l0 w tr (mayT t, s) J (q + 257) (out ++ [(i : Int)], IntKind.i64.wrap ((i : Int) + 1), y.Age)
          else riddleref14_Run_l0 w tr (mayT t, s) J (q + 257) (out ++ [(i : Int)], IntKind.i64.wrap ((i : Int) + 1), v124)) else none)
      else (if (decide ((i : Int) < (w.length : Int))) = true then (at_ w (i : Int)).bind fun x => (riddleref14_Step (q + 257) (mayT t) ⟨v124⟩ x).bind fun y => riddleref14_Run_l0 w tr (mayT t, s) J (q + 257) (out, IntKind.i64.wrap ((i : Int) + 1), y.Age)
          else riddleref14_Run_l0 w tr (mayT t, s) J (q + 257) (out, IntKind.i64.wrap ((i : Int) + 1), v124))) tr.length 0 (q + 257) age (by omega) (by omega)
    simp only [Int.natCast_zero, List.drop_zero] at h0
    have ha : (if (i : Int) ∈ tr then (trT t ⟨age⟩).Age else age) = ageAt t tr i age := rfl
    rw [ha] at h0
    refine Eq.trans h0 ?_
    rw [rready_ev, re_may]
    simp only [Option.bind_some]
    have hl := outAt_len t tr i age out ho
    have hok : okApp 8 (out.length + [(i : Int)].length) := okApp_of (by simp; omega)
    by_cases hr : reT t ⟨ageAt t tr i age⟩ = true
    · rw [if_pos hr, if_pos hok]
      exact key _ _ (by rw [List.length_append]; simp; omega) rfl (by rw [outAt, if_pos hr])
    · rw [if_neg hr]
      exact key _ _ (by omega) rfl (by rw [outAt, if_neg hr])
theorem rrun_ev (t : api_Tide) (ht : U64c t.Class) (s : api_TideState) (w tr : List Int) (hw : bytesOk w) (hwl : w.length ≤ 100000) (htl : tr.length ≤ 100000) (m : Nat) (hm : tr.length + w.length + 261 ≤ m) :
    riddleref14_Run m t s w tr = some (⟨(runR t s w tr).2⟩, (runR t s w tr).1) := by
  unfold riddleref14_Run
  obtain ⟨q, rfl⟩ : ∃ n, m = n + 257 := ⟨m - 257, by omega⟩
  rw [rmay_ev]
  simp only [Option.bind_some, jn]
  exact rrun_l0 t ht _ w tr hw hwl htl (fun v => some (⟨v.2⟩, v.1)) (w.length + 1) 0 (q + 257) [] (stT t s).Age (by omega) (by simp) (by omega)
theorem runT_step {t : api_Tide} {w tr : List Int} {d i : Nat} {out : List Int} {age : Int} (o2 : List Int) (a2 : Int) (h1 : outAt t tr i age out = o2) (h2 : (match w[i]? with | some x => (steT t ⟨ageAt t tr i age⟩ x).Age | none => ageAt t tr i age) = a2) : runT t w tr (d + 1) i out age = runT t w tr d (i + 1) o2 a2 := by
  rw [← h1, ← h2]; rfl
abbrev T0 : api_Tide := ⟨⟨0, bits .or .u64 0 8589934592, 0, 0⟩, 2⟩
theorem begun_run : runR T0 ⟨-1⟩ [120, 97, 97, 97, 98] [1] = ([3, 4], -1) := by
  have h0 : (stT T0 ⟨-1⟩).Age = -1 := by decide +kernel
  unfold runR
  rw [h0]
  refine (runT_step [] (-1) (by decide +kernel) (by decide +kernel)).trans ?_
  refine (runT_step [] 1 (by decide +kernel) (by decide +kernel)).trans ?_
  refine (runT_step [] 2 (by decide +kernel) (by decide +kernel)).trans ?_
  refine (runT_step [3] 2 (by decide +kernel) (by decide +kernel)).trans ?_
  refine (runT_step [3, 4] (-1) (by decide +kernel) (by decide +kernel)).trans ?_
  refine (runT_step [3, 4] (-1) (by decide +kernel) (by decide +kernel)).trans ?_
  rfl
theorem begun_ev (m : Nat) : riddlelaw14_begun (m + 100) = some true := by
  have ho : bits .or .u64 0 8589934592 = 8589934592 := by decide +kernel
  unfold riddlelaw14_begun tide_New
  simp only [Option.bind_some]
  rw [run_ev _ (by rw [ho]; exact ⟨⟨by decide, by decide⟩, ⟨by decide, by decide⟩, ⟨by decide, by decide⟩, ⟨by decide, by decide⟩⟩) _ _ _ (by intro x hx; simp at hx; omega) (by decide) (by decide) _ (by simp), begun_run]
  simp only [Option.bind_some]
  rw [equal_ev _ _ (by decide) _ (by simp)]
  simp
theorem runT_len (t : api_Tide) (w tr : List Int) : ∀ (d i : Nat) (out : List Int) (age : Int), out.length ≤ i → (runT t w tr d i out age).1.length ≤ i + d
  | 0, i, out, age, h => by simpa [runT] using h
  | d + 1, i, out, age, h => by
    simp only [runT]
    exact Nat.le_trans (runT_len t w tr d (i + 1) _ _ (outAt_len t tr i age out h)) (by omega)

/-- TideSteps' plain law. -/
theorem tideSteps (t : api_Tide) (s : api_TideState) (x : Int) (ht : U64c t.Class) (h0 : 0 ≤ x) (h1 : x < 256) : ∃ k, riddlelaw14_TideSteps k t s x = some true := by
  refine ⟨400, ?_⟩
  unfold riddlelaw14_TideSteps
  rw [begun_ev 300, check_ev, rcheck_ev, checkS_ev, rcheckS_ev, trigger_ev t s 395, rtrigger_ev t s 143, step_ev t ht s x h0 h1 395, rstep_ev t ht s x h0 h1 143, ready_ev t s 395, rready_ev t s 143]
  simp [tide_New]
/-- TideRuns' plain law. -/
theorem tideRuns (t : api_Tide) (s : api_TideState) (w tr : List Int) (ht : U64c t.Class) (hw : bytesOk w) : ∃ k, riddlelaw14_TideRuns k t s w tr = some true := by
  refine ⟨2000, ?_⟩
  unfold riddlelaw14_TideRuns
  by_cases hl : w.length > 300
  · rw [if_pos (by simp; omega)]
  by_cases hl2 : tr.length > 300
  · rw [if_pos (by simp; omega)]
  rw [if_neg (by simp; omega), run_ev t ht s w tr hw (by omega) (by omega) 2000 (by omega), rrun_ev t ht s w tr hw (by omega) (by omega) 2000 (by omega), begun_ev 1900]
  have hlen := runT_len t w tr (w.length + 1) 0 [] (stT t s).Age (by simp)
  simp only [Option.bind_some]
  rw [equal_ev _ _ (by unfold runR; omega) 2000 (by unfold runR; omega)]
  simp
/-- TideSmall's plain law. -/
theorem tideSmall (t : api_Tide) (s : api_TideState) (w tr : List Int) (ht : U64c t.Class) (hw : bytesOk w) : ∃ k, riddlelaw14_TideSmall k t s w tr = some true := by
  refine ⟨2000, ?_⟩
  unfold riddlelaw14_TideSmall
  rw [begun_ev 1900, check_ev, checkS_ev]
  simp only [Option.bind_some, Bool.not_true, Bool.false_eq_true, if_false]
  by_cases hb : bad t = true
  · simp [hb]
  by_cases ho : out t s = true
  · simp [hb, ho]
  by_cases hl : w.length > 300
  · have : ((w.length : Int) > 300) := by omega
    simp [hb, ho, this]
  by_cases hl2 : tr.length > 300
  · have : ((tr.length : Int) > 300) := by omega
    have h3 : ¬ ((w.length : Int) > 300) := by omega
    simp [hb, ho, this, h3]
  have h3 : ¬ ((w.length : Int) > 300) := by omega
  have h4 : ¬ ((tr.length : Int) > 300) := by omega
  have hmay : mayT t = t := by rw [mayT, if_neg hb]
  have hst : ∀ u : api_TideState, -1 ≤ (stT t u).Age ∧ (stT t u).Age ≤ max t.Least 0 := by
    intro u
    simp only [bad, Bool.or_eq_true, decide_eq_true_eq, not_or] at hb
    unfold stT out; rw [hmay]; split
    · simp; omega
    · rename_i h; simp at h; omega
  have hb' := hb
  simp only [bad, Bool.or_eq_true, decide_eq_true_eq, not_or] at hb'
  have hage : ∀ (d i : Nat) (o : List Int) (a : Int), -1 ≤ a ∧ a ≤ t.Least → -1 ≤ (runT t w tr d i o a).2 ∧ (runT t w tr d i o a).2 ≤ t.Least := by
    intro d
    induction d with
    | zero => intro i o a h; exact h
    | succ d ih =>
      intro i o a h
      simp only [runT]
      refine ih _ _ _ ?_
      have h1 : -1 ≤ ageAt t tr i a ∧ ageAt t tr i a ≤ t.Least := by
        unfold ageAt; split
        · have := tr_ge t ⟨a⟩; rw [hmay] at this; omega
        · exact h
      split
      · unfold steT
        split
        · simp; omega
        · rename_i hh
          have h2 := hst ⟨ageAt t tr i a⟩
          simp only [not_or] at hh
          rw [hmay, wrap_i64_of _ (by omega) (by omega)]
          unfold minI; simp only; split <;> omega
      · exact h1
  have hr := hage (w.length + 1) 0 [] (stT t s).Age (by have := hst s; omega)
  rw [run_ev t ht s w tr hw (by omega) (by omega) 2000 (by omega)]
  have hno : out t ⟨(runR t s w tr).2⟩ = false := by
    simp only [out, Bool.or_eq_false_iff, decide_eq_false_iff_not]; unfold runR; omega
  have hno2 : out t (trT t ⟨(runR t s w tr).2⟩) = false := by
    have := tr_ge t ⟨(runR t s w tr).2⟩
    rw [hmay] at this
    simp only [out, Bool.or_eq_false_iff, decide_eq_false_iff_not]; omega
  have htr := trigger_ev t ⟨(runR t s w tr).2⟩ 1995
  simp only [Nat.reduceAdd] at htr
  simp only [Option.bind_some, checkS_ev, hno, htr, hno2]
  simp [hb, ho, h3, h4]
end Go.Proofs.Ytombondekjflaaa
