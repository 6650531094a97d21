/- YtegjbjnmedgdoaaDoorPe: a part of the proof; see the last text for what is proved. -/
import Derived.Test.YtegjbjnmedgdoaaDoorPc
set_option linter.unusedVariables false
set_option linter.unusedSimpArgs false
/- Chapter 1, part e: the first number, all numbers. -/
namespace Go.Proofs.YtegjbjnmedgdoaaDoor
open Go.AE

/-! ### the lowest bit -/
theorem least_ex (p : Nat → Bool) : ∀ n, p n = true → ∃ t, p t = true ∧ ∀ j < t, p j = false := by
  intro n
  induction n using Nat.strongRecOn with
  | ind n ih =>
    intro h
    by_cases hj : ∃ j, j < n ∧ p j = true
    · obtain ⟨j, h1, h2⟩ := hj
      exact ih j h1 h2
    · exact ⟨n, h, fun j h1 => by
        cases h2 : p j
        · rfl
        · exact absurd ⟨j, h1, h2⟩ hj⟩
theorem low_ex {w : Nat} (h : w ≠ 0) : ∃ t, w.testBit t = true ∧ ∀ j < t, w.testBit j = false := by
  obtain ⟨n, hn⟩ := Nat.exists_testBit_of_ne_zero h
  exact least_ex _ n hn
theorem low_and {w t : Nat} (hw : w < 18446744073709551616) (ht : w.testBit t = true) (hl : ∀ j < t, w.testBit j = false) : w &&& (18446744073709551616 - w) = 2 ^ t := by
  have hm : w % 2 ^ t = 0 := by
    apply Nat.eq_of_testBit_eq
    intro j
    rw [Nat.testBit_mod_two_pow]
    by_cases hj : j < t
    · simp [hl j hj]
    · simp [hj]
  have hP : 0 < 2 ^ t := Nat.two_pow_pos _
  obtain ⟨u, hu⟩ : ∃ u, w = 2 ^ t * u := ⟨w / 2 ^ t, by have := Nat.div_add_mod w (2 ^ t); omega⟩
  have hdiv : w / 2 ^ t = u := by rw [hu]; exact Nat.mul_div_cancel_left _ hP
  have hodd : u % 2 = 1 := by
    have : (w / 2 ^ t).testBit 0 = w.testBit (0 + t) := by rw [Nat.testBit_div_two_pow]
    rw [hdiv, Nat.zero_add, ht, Nat.testBit_zero] at this
    simpa using this
  obtain ⟨v, rfl⟩ : ∃ v, u = v + 1 := ⟨u - 1, by omega⟩
  have hdiv1 : (w - 1) / 2 ^ t = v := by
    rw [hu]
    generalize 2 ^ t = P at hP
    apply Nat.div_eq_of_lt_le
    · rw [Nat.mul_add, Nat.mul_comm v P]; omega
    · rw [Nat.mul_comm (v + 1) P, Nat.mul_add]; omega
  have h0 : w ≠ 0 := by intro h; rw [h] at ht; simp at ht
  have e : 18446744073709551616 - w = 2 ^ 64 - ((w - 1) + 1) := by have : (2 : Nat) ^ 64 = 18446744073709551616 := by decide
                                                                   omega
  apply Nat.eq_of_testBit_eq
  intro j
  have hlt : w - 1 < 2 ^ 64 := by have : (2 : Nat) ^ 64 = 18446744073709551616 := by decide
                                  omega
  rw [Nat.testBit_and, e, Nat.testBit_two_pow_sub_succ hlt, Nat.testBit_two_pow]
  by_cases h1 : j < t
  · rw [hl j h1]
    have : ¬ t = j := by omega
    simp [this]
  · obtain ⟨i, rfl⟩ : ∃ i, j = i + t := ⟨j - t, by omega⟩
    rw [← Nat.testBit_div_two_pow (x := w), ← Nat.testBit_div_two_pow (x := w - 1), hdiv, hdiv1]
    cases i with
    | zero =>
      have ht64 : t < 64 := by
        rcases Nat.lt_or_ge t 64 with h | h
        · exact h
        · rw [bit_out hw h] at ht; cases ht
      rw [Nat.testBit_zero, Nat.testBit_zero]
      have h2 : ¬ v % 2 = 1 := by omega
      simp [hodd, h2, ht64]
    | succ i =>
      rw [Nat.testBit_succ, Nat.testBit_succ, show (v + 1) / 2 = v / 2 by omega]
      have : ¬ t = i + 1 + t := by omega
      simp only [this, decide_false]
      cases (v / 2).testBit i <;> simp
theorem tz_tab : ∀ t : Fin 64, at_ tab0 ((IntKind.u64.wrap (((2 ^ t.val : Nat) : Int) * 285870213051353865)).fdiv (2 ^ 58)) = some (t.val : Int) := by decide +kernel
theorem tz_ev {w t : Nat} (hw : w < 18446744073709551616) (ht : w.testBit t = true) (hl : ∀ j < t, w.testBit j = false) : bits_TrailingZeros64 (w : Int) = some (t : Int) := by
  have h0 : w ≠ 0 := by intro h; rw [h] at ht; simp at ht
  have ht64 : t < 64 := by
    rcases Nat.lt_or_ge t 64 with h | h
    · exact h
    · rw [bit_out hw h] at ht; cases ht
  have e : IntKind.u64.wrap (0 - (w : Int)) = ((18446744073709551616 - w : Nat) : Int) := by rw [IntKind.wrap_u64]; omega
  unfold bits_TrailingZeros64
  rw [if_neg (by simpa using h0), e, u64_and_nat _ _ hw (by omega), low_and hw ht hl, tz_tab ⟨t, ht64⟩, Option.bind_some, wrap_i64_of _ (by simp only; omega) (by simp only; omega)]

/-! ### the first number from one on -/
def FirstR (p : Nat → Bool) (f : Nat) (r : Int × Bool) : Prop :=
  (∃ n : Nat, r = ((n : Int), true) ∧ f ≤ n ∧ p n = true ∧ ∀ m, f ≤ m → m < n → p m = false) ∨ (r = (0, false) ∧ ∀ m, f ≤ m → p m = false)
theorem FirstR.uniq {p : Nat → Bool} {f : Nat} {r r' : Int × Bool} (h : FirstR p f r) (h' : FirstR p f r') : r = r' := by
  rcases h with ⟨n, rfl, h1, h2, h3⟩ | ⟨rfl, h1⟩ <;> rcases h' with ⟨n', rfl, h1', h2', h3'⟩ | ⟨rfl, h1'⟩
  · rcases Nat.lt_trichotomy n n' with h | h | h
    · rw [h3' n h1 h] at h2; cases h2
    · rw [h]
    · rw [h3 n' h1' h] at h2'; cases h2'
  · rw [h1' n h1] at h2; cases h2
  · rw [h1 n' h1'] at h2'; cases h2'
  · rfl
theorem mask_tb {w r : Nat} (j : Nat) : (w / 2 ^ r * 2 ^ r).testBit j = (w.testBit j && decide (r ≤ j)) := by
  rw [Nat.testBit_mul_two_pow]
  by_cases h : r ≤ j
  · rw [Nat.testBit_div_two_pow, show j - r + r = j by omega]; simp [h]
  · simp [h]
theorem first_l0 {b : api_Bits} {N : Nat} {p : Nat → Bool} (h : Is b N p) (f : Nat) (a1 : Int) (hf : maxI a1 0 = (f : Int)) (hf2 : f < 9223372036854775808) : ∀ (d i m : Nat), i + d = b.Words.length → d < m → f / 64 ≤ i → (∀ n, f ≤ n → n < 64 * i → p n = false) →
    ∃ r, bits_First_l0 b a1 (fun _ => some (0, false)) m (i : Int) = some r ∧ FirstR p f r := by
  have h1 := h.len; have h2 := h.le
  intro d
  induction d with
  | zero =>
    intro i m hi hm h3 h4
    obtain ⟨m, rfl⟩ : ∃ n, m = n + 1 := ⟨m - 1, by omega⟩
    refine ⟨(0, false), by rw [bits_First_l0, if_neg (by simp; omega)], .inr ⟨rfl, fun n hn => ?_⟩⟩
    rcases Nat.lt_or_ge n (64 * i) with h5 | h5
    · exact h4 n hn h5
    · exact h.hi n (by omega)
  | succ d ih =>
    intro i m hi hm h3 h4
    obtain ⟨m, rfl⟩ : ∃ n, m = n + 1 := ⟨m - 1, by omega⟩
    have hw := wd_lt h.u i
    let v : Nat := if i = f / 64 then wd b.Words i / 2 ^ (f % 64) * 2 ^ (f % 64) else wd b.Words i
    have hv : v < 18446744073709551616 := by
      show (if i = f / 64 then wd b.Words i / 2 ^ (f % 64) * 2 ^ (f % 64) else wd b.Words i) < _
      split
      · exact Nat.lt_of_le_of_lt (Nat.div_mul_le_self _ _) hw
      · exact hw
    have hvt : ∀ j < 64, v.testBit j = (p (64 * i + j) && decide (f ≤ 64 * i + j)) := fun j hj => by
      rw [← h.tb, tb_at _ _ _ hj]
      show (if i = f / 64 then wd b.Words i / 2 ^ (f % 64) * 2 ^ (f % 64) else wd b.Words i).testBit j = _
      split
      · rw [mask_tb]; congr 1; rw [decide_eq_decide]; omega
      · have : f ≤ 64 * i + j := by omega
        simp [this]
    have hbody : bits_First_l0 b a1 (fun _ => some (0, false)) (m + 1) (i : Int) = (if (((v : Nat) : Int) != 0) = true then (bits_TrailingZeros64 (v : Int)).bind fun t => some ((IntKind.i64.wrap ((IntKind.i64.wrap (64 * (i : Int))) + t)), true) else bits_First_l0 b a1 (fun _ => some (0, false)) m ((i + 1 : Nat) : Int)) := by
      have hmod : ((f : Int)).tmod 64 = ((f % 64 : Nat) : Int) := tmod_nat f
      have hdiv : IntKind.i64.wrap ((f : Int).tdiv 64) = ((f / 64 : Nat) : Int) := by
        have : (f : Int).tdiv 64 = ((f / 64 : Nat) : Int) := by rw [Int.tdiv_eq_ediv_of_nonneg (by omega)]; omega
        rw [this, wrap_i64_of _ (by omega) (by omega)]
      rw [bits_First_l0, if_pos (by simp; omega), at_wd h.u (by omega), Option.bind_some, hf, hmod, hdiv, wrapN i (by omega), min64 _ (by omega), fdiv_nat]
      simp only [jn]
      by_cases hc : i = f / 64
      · have e : ((wd b.Words i / 2 ^ (f % 64) : Nat) : Int) * 2 ^ (f % 64) = ((v : Nat) : Int) := by
          show _ = (((if i = f / 64 then wd b.Words i / 2 ^ (f % 64) * 2 ^ (f % 64) else wd b.Words i) : Nat) : Int)
          rw [if_pos hc]; simp
        rw [if_pos (by simp; omega), if_pos (by omega), e, wrap_u64_nat _ hv]
      · have e : wd b.Words i = v := by
          show _ = if i = f / 64 then wd b.Words i / 2 ^ (f % 64) * 2 ^ (f % 64) else wd b.Words i
          rw [if_neg hc]
        have hc' : ¬ ((i : Int) = ((f / 64 : Nat) : Int)) := by omega
        rw [if_neg (by simpa using hc'), e]
    rw [hbody]
    by_cases hz : v = 0
    · rw [if_neg (by rw [hz]; simp)]
      refine ih (i + 1) m (by omega) (by omega) (by omega) (fun n hn hlt => ?_)
      rcases Nat.lt_or_ge n (64 * i) with h5 | h5
      · exact h4 n hn h5
      · have := hvt (n - 64 * i) (by omega)
        rw [hz, show 64 * i + (n - 64 * i) = n by omega] at this
        simpa [hn] using this.symm
    · obtain ⟨t, ht, hl⟩ := low_ex hz
      have ht64 : t < 64 := by
        rcases Nat.lt_or_ge t 64 with h | h
        · exact h
        · rw [bit_out hv h] at ht; cases ht
      have h5 := hvt t ht64
      rw [ht] at h5
      have h6 : p (64 * i + t) = true ∧ f ≤ 64 * i + t := by simpa using h5.symm
      rw [if_pos (by simpa using hz), tz_ev hv ht hl, Option.bind_some]
      refine ⟨_, rfl, .inl ⟨64 * i + t, ?_, h6.2, h6.1, fun m hm hlt => ?_⟩⟩
      · have : IntKind.i64.wrap (IntKind.i64.wrap (64 * (i : Int)) + (t : Int)) = ((64 * i + t : Nat) : Int) := by
          rw [wrap_i64_of (64 * (i : Int)) (by omega) (by omega), wrap_i64_of _ (by omega) (by omega)]; omega
        rw [this]
      · rcases Nat.lt_or_ge m (64 * i) with h7 | h7
        · exact h4 m hm h7
        · have := hvt (m - 64 * i) (by omega)
          rw [hl _ (by omega), show 64 * i + (m - 64 * i) = m by omega] at this
          simpa [hm] using this.symm
theorem maxI_nat (a : Int) : maxI a 0 = ((a.toNat : Nat) : Int) := by unfold maxI; split <;> omega
theorem first_is {b : api_Bits} {N : Nat} {p : Nat → Bool} (h : Is b N p) (a : Int) (ha : a < 9223372036854775808) (k : Nat) (hk : 200 < k) : ∃ r, bits_First k b a = some r ∧ FirstR p a.toNat r := by
  unfold bits_First
  have h1 := h.len; have h2 := h.le
  rw [check_ev b h.u h.wf.2, if_pos h.ok, Option.bind_some, if_neg (by simp)]
  simp only [jn]
  have hd : IntKind.i64.wrap ((maxI a 0).tdiv 64) = ((a.toNat / 64 : Nat) : Int) := by
    rw [maxI_nat]
    have : ((a.toNat : Nat) : Int).tdiv 64 = ((a.toNat / 64 : Nat) : Int) := by rw [Int.tdiv_eq_ediv_of_nonneg (by omega)]; omega
    rw [this, wrap_i64_of _ (by omega) (by omega)]
  rw [hd]
  by_cases hb : a.toNat / 64 ≤ b.Words.length
  · exact first_l0 h a.toNat a (maxI_nat a) (by omega) (b.Words.length - a.toNat / 64) (a.toNat / 64) k (by omega) (by omega) (Nat.le_refl _) (fun n h3 h4 => by omega)
  · refine ⟨(0, false), ?_, .inr ⟨rfl, fun m hm => h.hi m (by omega)⟩⟩
    obtain ⟨m, rfl⟩ : ∃ n, k = n + 1 := ⟨k - 1, by omega⟩
    rw [bits_First_l0, if_neg (by simp; omega)]
theorem first_bad {b : api_Bits} (hb : WF b) (h : ¬ okB b = true) (a : Int) (k : Nat) : bits_First k b a = some (0, false) := by
  unfold bits_First
  rw [check_ev b hb.1 hb.2, if_neg h, Option.bind_some, if_pos (by simp)]
theorem pp_bad {b : api_Bits} (h : ¬ okB b = true) (n : Nat) : pp b n = false := by unfold pp mayB; rw [if_neg h]; exact tb_out (by simp)
theorem First_ev (b : api_Bits) (hb : WF b) (a : Int) (ha : a < 9223372036854775808) (k : Nat) (hk : 200 < k) : ∃ r, bits_First k b a = some r ∧ FirstR (pp b) a.toNat r := by
  by_cases h : okB b = true
  · have hi := may_is b hb.1
    rw [show mayB b = b by unfold mayB; rw [if_pos h]] at hi
    exact first_is hi a ha k hk
  · exact ⟨(0, false), first_bad hb h a k, .inr ⟨rfl, fun m _ => pp_bad h m⟩⟩
/-! ### all numbers -/
def lst (p : Nat → Bool) (N : Nat) : Nat → Nat → List Int
  | 0, _ => []
  | d + 1, i => if i < N ∧ p i = true then (i : Int) :: lst p N d (i + 1) else lst p N d (i + 1)
theorem lst_end (p : Nat → Bool) (N : Nat) : ∀ d i, N ≤ i → lst p N d i = [] := by
  intro d
  induction d with
  | zero => intro i h; rfl
  | succ d ih => intro i h; rw [lst, if_neg (by omega), ih _ (by omega)]
theorem lst_stop (p : Nat → Bool) (N : Nat) : ∀ d i, (∀ m, i ≤ m → p m = false) → lst p N d i = [] := by
  intro d
  induction d with
  | zero => intro i h; rfl
  | succ d ih => intro i h; rw [lst, if_neg (by rw [h i (Nat.le_refl _)]; simp), ih _ (fun m hm => h m (by omega))]
theorem lst_more (p : Nat → Bool) (N : Nat) : ∀ d e i, N ≤ i + d → N ≤ i + e → lst p N d i = lst p N e i := by
  intro d
  induction d with
  | zero => intro e i h1 h2; rw [lst_end p N e i (by omega)]; rfl
  | succ d ih =>
    intro e i h1 h2
    cases e with
    | zero => rw [lst_end p N _ i (by omega)]; rfl
    | succ e => rw [lst, lst, ih e (i + 1) (by omega) (by omega)]
theorem lst_skip (p : Nat → Bool) (N : Nat) : ∀ g d i, (∀ m, i ≤ m → m < i + g → p m = false) → lst p N (d + g) i = lst p N d (i + g) := by
  intro g
  induction g with
  | zero => intro d i h; rfl
  | succ g ih =>
    intro d i h
    rw [show d + (g + 1) = (d + g) + 1 by omega, lst, if_neg (by rw [h i (Nat.le_refl _) (by omega)]; simp), ih d (i + 1) (fun m h1 h2 => h m (by omega) (by omega)), show i + 1 + g = i + (g + 1) by omega]
theorem lst_mem (p : Nat → Bool) (N : Nat) : ∀ d i x, x ∈ lst p N d i ↔ ∃ n : Nat, x = n ∧ i ≤ n ∧ n < i + d ∧ n < N ∧ p n = true := by
  intro d
  induction d with
  | zero => intro i x; simp [lst]; omega
  | succ d ih =>
    intro i x
    rw [lst]
    by_cases h : i < N ∧ p i = true
    · rw [if_pos h, List.mem_cons, ih]
      constructor
      · rintro (rfl | ⟨n, h1, h2, h3, h4⟩)
        · exact ⟨i, rfl, by omega, by omega, h⟩
        · exact ⟨n, h1, by omega, by omega, h4⟩
      · rintro ⟨n, h1, h2, h3, h4⟩
        rcases Nat.lt_or_ge i n with h5 | h5
        · exact .inr ⟨n, h1, by omega, by omega, h4⟩
        · have : n = i := by omega
          subst this; exact .inl h1
    · rw [if_neg h, ih]
      constructor
      · rintro ⟨n, h1, h2, h3, h4⟩; exact ⟨n, h1, by omega, by omega, h4⟩
      · rintro ⟨n, h1, h2, h3, h4⟩
        rcases Nat.lt_or_ge i n with h5 | h5
        · exact ⟨n, h1, by omega, by omega, h4⟩
        · have : n = i := by omega
          subst this; exact absurd h4 h
theorem lst_len (p : Nat → Bool) (N : Nat) : ∀ d i, (lst p N d i).length ≤ d := by
  intro d
  induction d with
  | zero => intro i; simp [lst]
  | succ d ih =>
    intro i; rw [lst]; split
    · have := ih (i + 1); simp; omega
    · have := ih (i + 1); omega
/-- All numbers of a set, rising. -/
def al (p : Nat → Bool) (N : Nat) : List Int := lst p N N 0
theorem first_lst {p : Nat → Bool} {N f : Nat} {r : Int × Bool} (hN : ∀ n, N ≤ n → p n = false) (h : FirstR p f r) (d : Nat) (hd : N ≤ f + d) :
    (r = (0, false) ∧ lst p N d f = []) ∨ ∃ n : Nat, r = ((n : Int), true) ∧ f ≤ n ∧ n < N ∧ p n = true ∧ ∃ e, N ≤ n + 1 + e ∧ e < d ∧ lst p N d f = (n : Int) :: lst p N e (n + 1) := by
  rcases h with ⟨n, rfl, h1, h2, h3⟩ | ⟨rfl, h1⟩
  · have hn : n < N := by
      rcases Nat.lt_or_ge n N with h | h
      · exact h
      · rw [hN n h] at h2; cases h2
    refine .inr ⟨n, rfl, h1, hn, h2, d - (n - f) - 1, by omega, by omega, ?_⟩
    have e := lst_skip p N (n - f) (d - (n - f)) f (fun m h4 h5 => h3 m h4 (by omega))
    rw [show d - (n - f) + (n - f) = d by omega, show f + (n - f) = n by omega] at e
    rw [e]
    obtain ⟨c, hc⟩ : ∃ c, d - (n - f) = c + 1 := ⟨d - (n - f) - 1, by omega⟩
    rw [hc, lst, if_pos ⟨hn, h2⟩]; rfl
  · exact .inl ⟨rfl, lst_stop p N d f h1⟩
theorem all_l0 {b : api_Bits} {N : Nat} {p : Nat → Bool} (h : Is b N p) : ∀ (d f m : Nat) (r : Int × Bool), N ≤ f + d → d + 300 < m → FirstR p f r → bits_All_1_v1_l0 b m (r.1, r.2) = some (lst p N d f) := by
  have hle := h.le
  intro d
  induction d using Nat.strongRecOn with
  | ind d ih =>
    intro f m r h1 h2 h3
    obtain ⟨m, rfl⟩ : ∃ n, m = n + 1 := ⟨m - 1, by omega⟩
    rcases first_lst h.hi h3 d h1 with ⟨rfl, h4⟩ | ⟨n, rfl, h4, h5, h6, e, h7, h8, h9⟩
    · rw [bits_All_1_v1_l0, if_neg (by simp), h4]
    · obtain ⟨r', e1, e2⟩ := first_is h ((n + 1 : Nat) : Int) (by omega) m (by omega)
      rw [bits_All_1_v1_l0, if_pos rfl, wrapN n (by omega), e1, Option.bind_some, ih e h8 (n + 1) m r' h7 (by omega) e2, h9]
      rfl
theorem all_is {b : api_Bits} {N : Nat} {p : Nat → Bool} (h : Is b N p) (k : Nat) (hk : 9000 < k) : bits_All b = some b ∧ bits_All_1_v1 k b = some (al p N) := by
  have hle := h.le
  obtain ⟨r, e1, e2⟩ := first_is h 0 (by decide) k (by omega)
  refine ⟨by unfold bits_All; rw [own_ev b h.u h.wf.2, h.may]; rfl, ?_⟩
  unfold bits_All_1_v1
  rw [e1, Option.bind_some]
  exact all_l0 h N 0 k r (by omega) (by omega) e2
theorem okApp8 {n : Nat} (h : n ≤ 100000) : okApp 8 n := by unfold okApp maxLen; omega
theorem meet_first {p : Nat → Bool} {N : Nat} {r : Int × Bool} (hN : ∀ n, N ≤ n → p n = false) (h : FirstR p 0 r) : r.2 = decide ((((al p N).length : Nat) : Int) > 0) := by
  unfold al
  rcases first_lst hN h N (by omega) with ⟨rfl, h4⟩ | ⟨n, rfl, h4, h5, h6, e, h7, h8, h9⟩
  · rw [h4]; rfl
  · rw [h9]; simp

/-! ### the law of two sets -/
theorem Is.pq {b : api_Bits} {N : Nat} {p : Nat → Bool} (h : Is b N p) : YtegjbjnmedgdoaaDoor.pp b = p := funext fun n => h.pp n
end Go.Proofs.YtegjbjnmedgdoaaDoor
set_option linter.unusedVariables false
set_option linter.unusedSimpArgs false
/- Chapter 1, part f: the laws of sets; shifted there and back. -/
namespace Go.Proofs.YtegjbjnmedgdoaaDoor
open Go.AE

theorem Or_is {a b : api_Bits} {N : Nat} {p q : Nat → Bool} (ha : Is a N p) (hb : Is b N q) (k : Nat) (hk : 9000 < k) : ∃ c, bits_Or k a b = some c ∧ Is c N (fun n => p n || q n) := by
  obtain ⟨c, h1, h2⟩ := Or_ev a b ha.wf hb.wf k hk
  rw [ha.nN, ha.pq, hb.pq] at h2
  refine ⟨c, h1, h2.congr fun n => ?_⟩
  rcases Nat.lt_or_ge n N with h | h
  · simp [h]
  · rw [hb.hi n h]; simp
theorem And_is {a b : api_Bits} {N : Nat} {p q : Nat → Bool} (ha : Is a N p) (hb : Is b N q) (k : Nat) (hk : 9000 < k) : ∃ c, bits_And k a b = some c ∧ Is c N (fun n => p n && q n) := by
  obtain ⟨c, h1, h2⟩ := And_ev a b ha.wf hb.wf k hk
  rw [ha.nN, ha.pq, hb.pq] at h2
  exact ⟨c, h1, h2⟩
theorem meet_no {a b : api_Bits} {N : Nat} {p q : Nat → Bool} (ha : Is a N p) (hb : Is b N q) (h : ∀ n, (p n && q n) = false) (k : Nat) (hk : 9000 < k) : bits_Meet k a b = some false := by
  obtain ⟨c, h1, h2⟩ := And_is ha hb k hk
  obtain ⟨r, h3, h4⟩ := first_is h2 0 (by decide) k (by omega)
  unfold bits_Meet
  rw [h1, Option.bind_some, h3, Option.bind_some]
  rcases h4 with ⟨n, rfl, _, h5, _⟩ | ⟨rfl, _⟩
  · have h5' : (p n && q n) = true := h5
    rw [h n] at h5'; cases h5'
  · rfl
/-! ### shifted -/
def shp (N : Nat) (p : Nat → Bool) (a : Int) (n : Nat) : Bool := decide (n < N ∧ 0 ≤ (n : Int) - a) && p ((n : Int) - a).toNat
theorem al_mem (p : Nat → Bool) (N : Nat) (x : Int) : x ∈ al p N ↔ ∃ n : Nat, x = n ∧ n < N ∧ p n = true := by
  unfold al; rw [lst_mem]
  constructor
  · rintro ⟨n, h1, h2, h3, h4, h5⟩; exact ⟨n, h1, h4, h5⟩
  · rintro ⟨n, h1, h2, h3⟩; exact ⟨n, h1, by omega, by omega, h2, h3⟩
/-! ### there and back -/
theorem lst_filter (p : Nat → Bool) (N : Nat) (g : Int → Bool) : ∀ d i, (lst p N d i).filter g = lst (fun n => p n && g (n : Int)) N d i := by
  intro d
  induction d with
  | zero => intro i; rfl
  | succ d ih =>
    intro i
    rw [lst, lst]
    by_cases h1 : i < N ∧ p i = true
    · rw [if_pos h1, List.filter_cons, ih]
      by_cases h2 : g (i : Int) = true
      · rw [if_pos h2, if_pos ⟨h1.1, by rw [h1.2, h2]; rfl⟩]
      · rw [if_neg h2, if_neg (by simp [h2])]
    · rw [if_neg h1, ih, if_neg (fun h => h1 ⟨h.1, by simp at h; exact h.2.1⟩)]
theorem lst_congr (p q : Nat → Bool) (N : Nat) (h : ∀ n, n < N → p n = q n) : ∀ d i, lst p N d i = lst q N d i := by
  intro d
  induction d with
  | zero => intro i; rfl
  | succ d ih =>
    intro i
    rw [lst, lst, ih]
    by_cases h1 : i < N
    · rw [h i h1]
    · simp [h1]
theorem shp_back (N : Nat) (p : Nat → Bool) (hp : ∀ n, N ≤ n → p n = false) (a : Int) (n : Nat) (h : n < N) : shp N (shp N p a) (-a) n = (p n && decide (0 ≤ (n : Int) + a ∧ (n : Int) + a < N)) := by
  unfold shp
  rw [Bool.eq_iff_iff]
  simp only [Bool.and_eq_true, decide_eq_true_eq]
  constructor
  · rintro ⟨⟨h1, h2⟩, ⟨h3, h4⟩, h5⟩
    rw [show (((((n : Int) - -a).toNat : Nat) : Int) - a).toNat = n by omega] at h5
    exact ⟨h5, by omega, by omega⟩
  · rintro ⟨h1, h2, h3⟩
    refine ⟨⟨h, by omega⟩, ⟨by omega, by omega⟩, ?_⟩
    rw [show (((((n : Int) - -a).toNat : Nat) : Int) - a).toNat = n by omega]; exact h1
end Go.Proofs.YtegjbjnmedgdoaaDoor
