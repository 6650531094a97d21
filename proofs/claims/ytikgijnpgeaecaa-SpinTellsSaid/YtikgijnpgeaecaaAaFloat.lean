/- YtikgijnpgeaecaaAaFloat: a part of the proof; see the last text for what is proved. -/
import GoSem.Core.Float
import GoSem.Op.Unary
set_option exponentiation.threshold 2000
set_option linter.unusedVariables false
set_option linter.unusedSimpArgs false
set_option maxRecDepth 100000
namespace Go.AE
open Ieee

def IsF (b : Nat) (n : Int) : Prop := ∃ s m p, double.read b = .number s m p ∧ -1074 ≤ p ∧ signed s m (p + 1074).toNat = n * 2 ^ 1074

theorem signed_eq (s : Bool) (m u : Nat) : signed s m u = if s then -((m * 2 ^ u : Nat) : Int) else ((m * 2 ^ u : Nat) : Int) := by
  unfold signed; rw [Nat.shiftLeft_eq]
theorem dbl_fb : double.fractionBits = 52 := rfl
theorem dbl_lp : double.leastPlace = -1074 := by decide
theorem dbl_bin : double.binade = 2 ^ 52 := rfl
theorem dbl_sw : double.signWeight = 2 ^ 63 := rfl
theorem dbl_inf : double.infRung = 2047 * 2 ^ 52 := by decide

theorem cut0 (neg : Bool) (n : Nat) : Toward.even.cut neg n 0 = n := by
  unfold Toward.cut
  simp only [Nat.zero_min, Nat.shiftLeft_zero, Nat.div_one, Nat.mod_one]
  simp
theorem cut_div (neg : Bool) (k d : Nat) (hk : 0 < k) : Toward.even.cut neg (k * 2 ^ d) d = k := by
  have hl : d ≤ (k * 2 ^ d).log2 := by
    rw [Nat.le_log2 (by have := Nat.two_pow_pos d; exact Nat.ne_of_gt (Nat.mul_pos hk this))]
    exact Nat.le_mul_of_pos_left _ hk
  have hp := Nat.two_pow_pos d
  unfold Toward.cut
  have hm : min d ((k * 2 ^ d).log2 + 2) = d := by omega
  rw [hm, Nat.shiftLeft_eq, Nat.one_mul]
  simp only [Nat.mul_mod_left, Nat.mul_div_cancel _ hp]
  have h1 : decide (2 ^ d < 2 * 0) = false := by simp
  have h2 : (2 ^ d == 2 * 0) = false := by
    rw [beq_eq_false_iff_ne]; omega
  rw [h1, h2]; rfl

theorem read_word (s : Bool) (e k : Nat) (he : e < 2046) (h1 : 2 ^ 52 ≤ k) (h2 : k < 2 ^ 53) : double.read (double.word s (e * 2 ^ 52 + k)) = .number s k (-1074 + (e : Int)) := by
  have hr : e * 2 ^ 52 + k < 2047 * 2 ^ 52 := by omega
  have h63 : (2047 * 2 ^ 52 : Nat) < 2 ^ 63 := by decide
  have hneg : (double.word s (e * 2 ^ 52 + k)) / 2 ^ 63 % 2 = s.toNat := by
    unfold Format.word; rw [dbl_sw]
    cases s
    · simp only [Bool.false_eq_true, if_false, Bool.toNat_false]; omega
    · simp only [if_true, Bool.toNat_true]; omega
  have hrung : (double.word s (e * 2 ^ 52 + k)) % 2 ^ 63 = e * 2 ^ 52 + k := by
    unfold Format.word; rw [dbl_sw]
    cases s
    · simp only [Bool.false_eq_true, if_false]; omega
    · simp only [if_true]; omega
  unfold Format.read
  simp only [dbl_sw, hneg, hrung, dbl_bin, dbl_inf, dbl_lp]
  rw [if_neg (by omega), if_pos (by omega)]
  congr 1
  · cases s <;> rfl
  · omega
  · omega

theorem read_zero (s : Bool) : double.read (double.word s 0) = .number s 0 (-1074) := by cases s <;> decide

theorem log2_mul (m : Nat) (hm : m ≠ 0) : ∀ k, (m * 2 ^ k).log2 = m.log2 + k
  | 0 => by simp
  | k + 1 => by
    rw [Nat.pow_succ, ← Nat.mul_assoc, Nat.mul_comm, Nat.log2_two_mul (by have := Nat.two_pow_pos k; exact Nat.ne_of_gt (Nat.mul_pos (by omega) this)), log2_mul m hm k]; omega
theorem write_whole (s : Bool) (m : Nat) (p : Int) (hp : -1074 ≤ p) (N : Nat) (h : m * 2 ^ (p + 1074).toNat = N * 2 ^ 1074) (hN : N < 2 ^ 53) :
    ∃ k q, double.read (double.nearest s m p) = .number s k q ∧ -1074 ≤ q ∧ k * 2 ^ (q + 1074).toNat = N * 2 ^ 1074 := by
  unfold Format.nearest
  by_cases hm : m = 0
  · subst hm
    rw [if_pos rfl, read_zero]
    exact ⟨0, -1074, rfl, by omega, by rw [Nat.zero_mul] at h ⊢; exact h⟩
  · rw [if_neg hm]
    have hm0 : 0 < m := by omega
    have hN0 : 0 < N := by
      rcases Nat.eq_zero_or_pos N with h0 | h0
      · subst h0
        rw [Nat.zero_mul] at h
        have := Nat.mul_pos hm0 (Nat.two_pow_pos (p + 1074).toNat)
        omega
      · exact h0
    -- the place of the first digit
    have hlog : m.log2 + (p + 1074).toNat = N.log2 + 1074 := by
      rw [← log2_mul m (by omega), ← log2_mul N (by omega), h]
    have hL : N.log2 < 53 := (Nat.log2_lt (by omega)).2 hN
    have hlast : max (p + (m.log2 : Int) - ((52 : Nat) : Int)) (-1074) = (N.log2 : Int) - 52 := by omega
    simp only [dbl_fb, dbl_lp, hlast, dbl_bin, dbl_inf]
    -- what is kept
    have key : ∃ k, k = N * 2 ^ (52 - N.log2) ∧ Toward.even.cut s (m <<< (p - ((N.log2 : Int) - 52)).toNat) (((N.log2 : Int) - 52) - p).toNat = k := by
      refine ⟨_, rfl, ?_⟩
      by_cases hc : (N.log2 : Int) - 52 ≤ p
      · have e1 : (((N.log2 : Int) - 52) - p).toNat = 0 := by omega
        rw [e1, cut0, Nat.shiftLeft_eq]
        have e2 : (p + 1074).toNat = (p - ((N.log2 : Int) - 52)).toNat + (1074 + N.log2 - 52) := by omega
        have e3 : (1074 : Nat) = (52 - N.log2) + (1074 + N.log2 - 52) := by omega
        rw [e2, Nat.pow_add, ← Nat.mul_assoc] at h
        have h' : m * 2 ^ (p - ((N.log2 : Int) - 52)).toNat * 2 ^ (1074 + N.log2 - 52) = N * 2 ^ (52 - N.log2) * 2 ^ (1074 + N.log2 - 52) := by
          rw [h, Nat.mul_assoc N, ← Nat.pow_add, ← e3]
        exact Nat.eq_of_mul_eq_mul_right (Nat.two_pow_pos _) h'
      · have e1 : (p - ((N.log2 : Int) - 52)).toNat = 0 := by omega
        rw [e1, Nat.shiftLeft_zero]
        have e2 : (1074 : Nat) = (52 - N.log2) + ((((N.log2 : Int) - 52) - p).toNat + (p + 1074).toNat) := by omega
        have h' : m * 2 ^ (p + 1074).toNat = N * 2 ^ (52 - N.log2) * 2 ^ (((N.log2 : Int) - 52) - p).toNat * 2 ^ (p + 1074).toNat := by
          rw [h, Nat.mul_assoc, Nat.mul_assoc, ← Nat.pow_add, ← Nat.pow_add, ← e2]
        rw [Nat.eq_of_mul_eq_mul_right (Nat.two_pow_pos _) h']
        exact cut_div s _ _ (Nat.mul_pos hN0 (Nat.two_pow_pos _))
    obtain ⟨k, hk, hcut⟩ := key
    have k1 : 2 ^ 52 ≤ k := by
      have h1 : 2 ^ N.log2 ≤ N := Nat.log2_self_le (by omega)
      have h2 : 2 ^ N.log2 * 2 ^ (52 - N.log2) ≤ N * 2 ^ (52 - N.log2) := Nat.mul_le_mul_right _ h1
      rw [← Nat.pow_add, show N.log2 + (52 - N.log2) = 52 by omega] at h2
      omega
    have k2 : k < 2 ^ 53 := by
      have h1 : N < 2 ^ (N.log2 + 1) := Nat.lt_log2_self
      have h2 : N * 2 ^ (52 - N.log2) < 2 ^ (N.log2 + 1) * 2 ^ (52 - N.log2) := Nat.mul_lt_mul_of_pos_right h1 (Nat.two_pow_pos _)
      rw [← Nat.pow_add, show N.log2 + 1 + (52 - N.log2) = 53 by omega] at h2
      omega
    have he : ((N.log2 : Int) - 52 - -1074).toNat = N.log2 + 1022 := by omega
    rw [hcut, he, Nat.min_eq_left (by omega), read_word s _ k (by omega) k1 k2]
    refine ⟨k, -1074 + ((N.log2 + 1022 : Nat) : Int), rfl, by omega, ?_⟩
    have e4 : (-1074 + ((N.log2 + 1022 : Nat) : Int) + 1074).toNat = N.log2 + 1022 := by omega
    rw [e4, hk, Nat.mul_assoc, ← Nat.pow_add]
    congr 2; omega

theorem isF_write (s : Bool) (m : Nat) (p : Int) (hp : -1074 ≤ p) (n : Int) (h : signed s m (p + 1074).toNat = n * 2 ^ 1074) (h1 : -9007199254740992 < n) (h2 : n < 9007199254740992) : IsF (double.write (.number s m p)) n := by
  have hz : (0 : Int) < 2 ^ 1074 := Int.pow_pos (by decide)
  rw [signed_eq] at h
  have hN : m * 2 ^ (p + 1074).toNat = n.natAbs * 2 ^ 1074 := by
    have e : (n * 2 ^ 1074).natAbs = n.natAbs * 2 ^ 1074 := by rw [Int.natAbs_mul, Int.natAbs_pow]; rfl
    rw [← e, ← h]
    split
    · rw [Int.natAbs_neg]; rfl
    · rfl
  obtain ⟨k, q, e1, e2, e3⟩ := write_whole s m p hp n.natAbs hN (by omega)
  refine ⟨s, k, q, e1, e2, ?_⟩
  rw [signed_eq, e3, ← hN]
  exact h
theorem isF_nearest (n : Int) (h1 : -9007199254740992 < n) (h2 : n < 9007199254740992) : IsF (FloatKind.nearest .f64 n) n := by
  unfold FloatKind.nearest FloatKind.encode FloatKind.format
  refine isF_write _ _ 0 (by decide) n ?_ h1 h2
  rw [signed_eq]
  by_cases h : n < 0
  · simp only [h, decide_true, if_true]
    rw [show ((0 : Int) + 1074).toNat = 1074 from rfl, Int.natCast_mul, ← Int.neg_mul]
    congr 1
    omega
  · simp only [h, decide_false, Bool.false_eq_true, if_false]
    rw [show ((0 : Int) + 1074).toNat = 1074 from rfl, Int.natCast_mul]
    congr 1
    omega
theorem signed_add (s : Bool) (m a b : Nat) : signed s m (a + b) = signed s m a * 2 ^ b := by
  rw [signed_eq, signed_eq]
  split
  · rw [Nat.pow_add, ← Nat.mul_assoc, Int.natCast_mul, ← Int.neg_mul]; simp
  · rw [Nat.pow_add, ← Nat.mul_assoc, Int.natCast_mul]; simp
theorem isF_sum {x y : Nat} {m n : Int} (hx : IsF x m) (hy : IsF y n) (h1 : -9007199254740992 < m + n) (h2 : m + n < 9007199254740992) : ∃ r, double.add x y = some r ∧ IsF r (m + n) := by
  obtain ⟨s, a, i, ex, hi, vx⟩ := hx
  obtain ⟨t, b, j, ey, hj, vy⟩ := hy
  refine ⟨_, by unfold Format.add; rw [ex, ey]; rfl, ?_⟩
  refine isF_write _ _ _ (by omega) _ ?_ h1 h2
  have e1 : (i + 1074).toNat = (i - min i j).toNat + (min i j + 1074).toNat := by omega
  have e2 : (j + 1074).toNat = (j - min i j).toNat + (min i j + 1074).toNat := by omega
  rw [e1, signed_add] at vx
  rw [e2, signed_add] at vy
  rw [Int.add_mul, ← vx, ← vy, ← Int.add_mul]
  generalize signed s a (i - min i j).toNat + signed t b (j - min i j).toNat = T
  rw [signed_eq]
  have e3 : ((T.natAbs * 2 ^ (min i j + 1074).toNat : Nat) : Int) = (T.natAbs : Int) * 2 ^ (min i j + 1074).toNat := by rw [Int.natCast_mul]; simp
  rw [e3]
  by_cases h0 : T = 0
  · subst h0; simp
  · rw [if_neg h0]
    by_cases hn : T < 0
    · simp only [hn, decide_true, if_true]
      rw [← Int.neg_mul]; congr 1; omega
    · simp only [hn, decide_false, Bool.false_eq_true, if_false]
      congr 1; omega
theorem isF_order {x y : Nat} {m n : Int} (hx : IsF x m) (hy : IsF y n) : double.order x y = some (compare m n) := by
  obtain ⟨s, a, i, ex, hi, vx⟩ := hx
  obtain ⟨t, b, j, ey, hj, vy⟩ := hy
  unfold Format.order
  rw [ex, ey]
  have e1 : (i + 1074).toNat = (i - min i j).toNat + (min i j + 1074).toNat := by omega
  have e2 : (j + 1074).toNat = (j - min i j).toNat + (min i j + 1074).toNat := by omega
  rw [e1, signed_add] at vx
  rw [e2, signed_add] at vy
  simp only [Datum.order]
  congr 1
  generalize signed s a (i - min i j).toNat = A at vx
  generalize signed t b (j - min i j).toNat = B at vy
  have hc : (0 : Int) < 2 ^ (min i j + 1074).toNat := Int.pow_pos (by decide)
  have hd : (0 : Int) < 2 ^ 1074 := Int.pow_pos (by decide)
  generalize (2 : Int) ^ (min i j + 1074).toNat = c at *
  generalize (2 : Int) ^ 1074 = d at *
  have l1 : A < B ↔ m < n := by
    rw [← Int.mul_lt_mul_right hc, vx, vy, Int.mul_lt_mul_right hd]
  have l2 : B < A ↔ n < m := by
    rw [← Int.mul_lt_mul_right hc, vx, vy, Int.mul_lt_mul_right hd]
  rcases Int.lt_trichotomy m n with h | h | h
  · rw [Int.compare_eq_lt.2 h, Int.compare_eq_lt.2 (l1.2 h)]
  · subst h
    have : A = B := by
      have := mt l1.1 (by omega); have := mt l2.1 (by omega); omega
    subst this
    rw [Int.compare_eq_eq.2 rfl, Int.compare_eq_eq.2 rfl]
  · rw [Int.compare_eq_gt.2 h, Int.compare_eq_gt.2 (l2.2 h)]

theorem read_flip {x : Nat} {s : Bool} {m : Nat} {p : Int} (h : double.read x = .number s m p) : double.read (x ^^^ 2 ^ 63) = .number (!s) m p := by
  have h1 : (x ^^^ 2 ^ 63) % 2 ^ 63 = x % 2 ^ 63 := by rw [Nat.xor_mod_two_pow, Nat.mod_self, Nat.xor_zero]
  have h2 : ((x ^^^ 2 ^ 63) / 2 ^ 63 % 2 == 1) = !(x / 2 ^ 63 % 2 == 1) := by
    have e : (x ^^^ 2 ^ 63) / 2 ^ 63 % 2 = (x / 2 ^ 63 % 2) ^^^ 1 := by
      have e1 : (x ^^^ 2 ^ 63) / 2 ^ 63 = (x / 2 ^ 63) ^^^ 1 := by
        apply Nat.eq_of_testBit_eq
        intro i
        rw [Nat.testBit_div_two_pow, Nat.testBit_xor, Nat.testBit_xor, Nat.testBit_div_two_pow, Nat.testBit_two_pow]
        congr 1
        rw [show (1 : Nat) = 2 ^ 0 from rfl, Nat.testBit_two_pow]
        congr 1
        apply propext
        omega
      rw [e1]
      have := Nat.xor_mod_two_pow (a := x / 2 ^ 63) (b := 1) (n := 1)
      simpa using this
    rw [e]
    have : x / 2 ^ 63 % 2 < 2 := Nat.mod_lt _ (by decide)
    rcases (by omega : x / 2 ^ 63 % 2 = 0 ∨ x / 2 ^ 63 % 2 = 1) with h | h <;> rw [h] <;> rfl
  have h1' : (x ^^^ 2 ^ 63) % double.signWeight = x % double.signWeight := h1
  have h2' : ((x ^^^ 2 ^ 63) / double.signWeight % 2 == 1) = !(x / double.signWeight % 2 == 1) := h2
  unfold Format.read at h ⊢
  simp only [h1', h2'] at h ⊢
  clear h1 h2 h1' h2'
  by_cases hc : x % double.signWeight < double.binade
  · rw [if_pos hc] at h ⊢
    simp only [Datum.number.injEq] at h ⊢
    exact ⟨by rw [h.1], h.2⟩
  · rw [if_neg hc] at h ⊢
    by_cases hd : x % double.signWeight < double.infRung
    · rw [if_pos hd] at h ⊢
      simp only [Datum.number.injEq] at h ⊢
      exact ⟨by rw [h.1], h.2⟩
    · rw [if_neg hd] at h
      by_cases he : x % double.signWeight = double.infRung
      · rw [if_pos he] at h; cases h
      · rw [if_neg he] at h; cases h
theorem signed_not (s : Bool) (m u : Nat) : signed (!s) m u = - signed s m u := by
  rw [signed_eq, signed_eq]; cases s <;> simp
theorem isF_neg {x : Nat} {n : Int} (h : IsF x n) : IsF (Op.negFloat .f64 x) (-n) := by
  obtain ⟨s, m, p, h1, h2, h3⟩ := h
  refine ⟨!s, m, p, read_flip h1, h2, ?_⟩
  rw [signed_not, h3, Int.neg_mul]
theorem isF_sub {x y : Nat} {m n : Int} (hx : IsF x m) (hy : IsF y n) (h1 : -9007199254740992 < m - n) (h2 : m - n < 9007199254740992) : ∃ r, double.sub x y = some r ∧ IsF r (m - n) := by
  have e : double.sub x y = double.add x (y ^^^ 2 ^ 63) := by
    obtain ⟨s, a, i, ey, _⟩ := hy
    unfold Format.sub Format.add
    rw [read_flip ey, ey]; rfl
  rw [e, Int.sub_eq_add_neg]
  exact isF_sum hx (isF_neg hy) (by omega) (by omega)
theorem cut_zero (neg : Bool) (k d : Nat) : Toward.zero.cut neg (k * 2 ^ d) d = k := by
  have hp := Nat.two_pow_pos d
  unfold Toward.cut
  rcases Nat.eq_zero_or_pos k with rfl | hk
  · simp
  · have hl : d ≤ (k * 2 ^ d).log2 := by
      rw [Nat.le_log2 (Nat.ne_of_gt (Nat.mul_pos hk hp))]
      exact Nat.le_mul_of_pos_left _ hk
    have hm : min d ((k * 2 ^ d).log2 + 2) = d := by omega
    rw [hm, Nat.shiftLeft_eq, Nat.one_mul]
    simp only [Nat.mul_div_cancel _ hp]
    rfl
theorem isF_toInt {x : Nat} {n : Int} (h : IsF x n) : (FloatKind.decode .f64 x).toInt .zero = some n := by
  obtain ⟨s, m, p, h1, h2, h3⟩ := h
  have hz : (0 : Int) < 2 ^ 1074 := Int.pow_pos (by decide)
  have hd : FloatKind.decode .f64 x = .number s m p := h1
  rw [hd]
  unfold Datum.toInt Datum.integral
  simp only
  -- what is left is the whole number
  have key : ∀ k : Nat, k * 2 ^ 1074 = m * 2 ^ (p + 1074).toNat → signed s k 0 = n := by
    intro k hk
    have : signed s k 0 * 2 ^ 1074 = n * 2 ^ 1074 := by
      rw [← h3, signed_eq, signed_eq, Nat.pow_zero, Nat.mul_one]
      have e : ((k : Nat) : Int) * 2 ^ 1074 = ((m * 2 ^ (p + 1074).toNat : Nat) : Int) := by rw [← hk, Int.natCast_mul]; simp
      split
      · rw [Int.neg_mul, e]
      · exact e
    exact Int.eq_of_mul_eq_mul_right (Int.ne_of_gt hz) this
  refine congrArg some ?_
  apply key
  by_cases hp : 0 ≤ p
  · have e1 : (-p).toNat = 0 := by omega
    have e2 := cut_zero s (m <<< p.toNat) 0
    rw [Nat.pow_zero, Nat.mul_one] at e2
    rw [e1, e2, Nat.shiftLeft_eq, Nat.mul_assoc, ← Nat.pow_add]
    congr 2; omega
  · have e1 : p.toNat = 0 := by omega
    have hN : m * 2 ^ (p + 1074).toNat = n.natAbs * 2 ^ 1074 := by
      have e : (n * 2 ^ 1074).natAbs = n.natAbs * 2 ^ 1074 := by rw [Int.natAbs_mul, Int.natAbs_pow]; rfl
      rw [← e, ← h3, signed_eq]
      split
      · rw [Int.natAbs_neg]; rfl
      · rfl
    have hm : m = n.natAbs * 2 ^ (-p).toNat := by
      have e3 : (1074 : Nat) = (-p).toNat + (p + 1074).toNat := by omega
      have e5 : n.natAbs * 2 ^ 1074 = n.natAbs * 2 ^ (-p).toNat * 2 ^ (p + 1074).toNat := by rw [Nat.mul_assoc, ← Nat.pow_add, ← e3]
      rw [e5] at hN
      exact Nat.eq_of_mul_eq_mul_right (Nat.two_pow_pos _) hN
    rw [e1, Nat.shiftLeft_zero, hN]
    congr 1
    rw [hm]
    exact cut_zero s _ _
end Go.AE
