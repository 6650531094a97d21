/- YtfejcecgnonabaaDoorQa: a part of the proof; see the last text for what is proved. -/
import Derived.Test.YtfejcecgnonabaaDoorJc
import Derived.Test.YtfejcecgnonabaaDoorAbArg
import Derived.Test.YtfejcecgnonabaaDoorAbNum
import Derived.Laws.BitsAllLaws
set_option linter.unusedVariables false
set_option linter.unusedSimpArgs false
/- Chapter 1, part a: words, and one bit of them. -/
namespace Go.Proofs.YtfejcecgnonabaaDoor
open Go.AE

theorem wrapN (n : Nat) (h : n < 9223372036854775807) : IntKind.i64.wrap ((n : Int) + 1) = ((n + 1 : Nat) : Int) := by
  rw [wrap_i64_of _ (by omega) (by omega)]; omega
theorem at_lt {α : Type} {l : List α} {i : Nat} (h : i < l.length) : at_ l (i : Int) = some l[i] := by rw [at_nat, List.getElem?_eq_getElem h]
def U64 (x : Int) : Prop := 0 ≤ x ∧ x < 18446744073709551616
def UL (l : List Int) : Prop := ∀ x ∈ l, U64 x
def wd (l : List Int) (i : Nat) : Nat := (l.getD i 0).toNat
def tb (l : List Int) (n : Nat) : Bool := (wd l (n / 64)).testBit (n % 64)
theorem wd_eq {l : List Int} {i : Nat} (hU : UL l) (h : i < l.length) : l[i] = ((wd l i : Nat) : Int) := by
  have h1 := (hU l[i] (List.getElem_mem h)).1
  unfold wd; rw [List.getD_eq_getElem?_getD, List.getElem?_eq_getElem h]; simp; omega
theorem wd_lt {l : List Int} (hU : UL l) (i : Nat) : wd l i < 18446744073709551616 := by
  by_cases h : i < l.length
  · have h1 := (hU l[i] (List.getElem_mem h)).2
    have h2 := wd_eq hU h
    omega
  · unfold wd; rw [List.getD_eq_getElem?_getD, List.getElem?_eq_none (by omega)]; decide
theorem wd_out {l : List Int} {i : Nat} (h : l.length ≤ i) : wd l i = 0 := by
  unfold wd; rw [List.getD_eq_getElem?_getD, List.getElem?_eq_none h]; rfl
theorem at_wd {l : List Int} {i : Nat} (hU : UL l) (h : i < l.length) : at_ l (i : Int) = some ((wd l i : Nat) : Int) := by
  rw [at_lt h, wd_eq hU h]
theorem bit_out {w : Nat} (h : w < 18446744073709551616) {j : Nat} (hj : 64 ≤ j) : w.testBit j = false := by
  apply Nat.testBit_lt_two_pow
  have : (2 : Nat) ^ 64 ≤ 2 ^ j := Nat.pow_le_pow_right (by decide) hj
  have e : (2 : Nat) ^ 64 = 18446744073709551616 := by decide
  omega
theorem tb_out {l : List Int} {n : Nat} (h : 64 * l.length ≤ n) : tb l n = false := by
  unfold tb; rw [wd_out (by omega)]; simp
theorem wd_ext {v w : Nat} (hv : v < 18446744073709551616) (hw : w < 18446744073709551616) (h : ∀ j < 64, v.testBit j = w.testBit j) : v = w := by
  apply Nat.eq_of_testBit_eq
  intro j
  rcases Nat.lt_or_ge j 64 with hj | hj
  · exact h j hj
  · rw [bit_out hv hj, bit_out hw hj]
theorem tb_at (l : List Int) (i j : Nat) (hj : j < 64) : tb l (64 * i + j) = (wd l i).testBit j := by
  unfold tb
  rw [show (64 * i + j) / 64 = i by omega, show (64 * i + j) % 64 = j by omega]
theorem words_ext {l m : List Int} (hl : UL l) (hm : UL m) (e : l.length = m.length) (h : ∀ n, tb l n = tb m n) : l = m := by
  apply List.ext_getElem e
  intro i h1 h2
  rw [wd_eq hl h1, wd_eq hm h2]
  congr 1
  exact wd_ext (wd_lt hl i) (wd_lt hm i) fun j hj => by rw [← tb_at l i j hj, ← tb_at m i j hj, h]

/-! ### one bit -/
theorem wd_set {l : List Int} {i : Nat} {x : Nat} (h : i < l.length) (j : Nat) : wd (l.set i (x : Int)) j = if i = j then x else wd l j := by
  unfold wd
  rw [List.getD_eq_getElem?_getD, List.getElem?_set]
  by_cases e : i = j
  · subst e; simp [h]
  · simp [e, List.getD_eq_getElem?_getD]
theorem UL_set {l : List Int} {i : Nat} {x : Nat} (hU : UL l) (hx : x < 18446744073709551616) : UL (l.set i (x : Int)) := by
  intro y hy
  rcases List.mem_or_eq_of_mem_set hy with h | h
  · exact hU y h
  · subst h; constructor <;> omega
theorem two_lt {r : Nat} (h : r < 64) : (2 : Nat) ^ r < 18446744073709551616 := by
  have : (2 : Nat) ^ r < 2 ^ 64 := Nat.pow_lt_pow_right (by decide) h
  have e : (2 : Nat) ^ 64 = 18446744073709551616 := by decide
  omega
theorem or_lt {a b : Nat} (ha : a < 18446744073709551616) (hb : b < 18446744073709551616) : a ||| b < 18446744073709551616 :=
  Nat.or_lt_two_pow (n := 64) ha hb
theorem and_lt {a b : Nat} (ha : a < 18446744073709551616) : a &&& b < 18446744073709551616 :=
  Nat.lt_of_le_of_lt Nat.and_le_left ha
theorem wrap_shl {r : Nat} (h : r < 64) : IntKind.u64.wrap (1 * 2 ^ r) = ((2 ^ r : Nat) : Int) := by
  have := two_lt h
  have e : (1 * 2 ^ r : Int) = ((2 ^ r : Nat) : Int) := by simp
  rw [e]
  generalize 2 ^ r = q at this
  exact wrap_u64_of _ (by omega) (by omega)
def sb (l : List Int) (n : Nat) : List Int := l.set (n / 64) ((wd l (n / 64) ||| 2 ^ (n % 64) : Nat) : Int)
def cb (l : List Int) (n : Nat) : List Int := l.set (n / 64) ((wd l (n / 64) &&& (18446744073709551615 - 2 ^ (n % 64)) : Nat) : Int)
theorem sb_length (l : List Int) (n : Nat) : (sb l n).length = l.length := by simp [sb]
theorem cb_length (l : List Int) (n : Nat) : (cb l n).length = l.length := by simp [cb]
theorem sb_UL {l : List Int} (hU : UL l) (n : Nat) : UL (sb l n) := UL_set hU (or_lt (wd_lt hU _) (two_lt (by omega)))
theorem cb_UL {l : List Int} (hU : UL l) (n : Nat) : UL (cb l n) := UL_set hU (and_lt (wd_lt hU _))
theorem sb_tb {l : List Int} {n : Nat} (h : n < 64 * l.length) (m : Nat) : tb (sb l n) m = (tb l m || decide (m = n)) := by
  unfold tb sb
  rw [wd_set (by omega)]
  split
  · rename_i e
    rw [Nat.testBit_or, Nat.testBit_two_pow, e]
    congr 1
    rw [decide_eq_decide]; omega
  · rename_i e
    have : ¬ m = n := fun hc => e (by rw [hc])
    simp [this]
theorem not_tb {w : Nat} (r j : Nat) (hr : r < 64) (hj : j < 64) : (w &&& (18446744073709551615 - 2 ^ r)).testBit j = (w.testBit j && !decide (r = j)) := by
  have := two_lt hr
  have e : 18446744073709551615 - 2 ^ r = 2 ^ 64 - (2 ^ r + 1) := by have : (2 : Nat) ^ 64 = 18446744073709551616 := by decide
                                                                     omega
  rw [Nat.testBit_and, e, Nat.testBit_two_pow_sub_succ this, Nat.testBit_two_pow]
  simp [hj]
theorem cb_tb {l : List Int} {n : Nat} (h : n < 64 * l.length) (m : Nat) : tb (cb l n) m = (tb l m && !decide (m = n)) := by
  unfold tb cb
  rw [wd_set (by omega)]
  split
  · rename_i e
    rw [not_tb _ _ (by omega) (by omega), e]
    congr 2
    rw [decide_eq_decide]; omega
  · rename_i e
    have : ¬ m = n := fun hc => e (by rw [hc])
    simp [this]

/-! ### the code's own ways to say it -/
theorem tdiv_nat (n : Nat) (h : n < 4611686018427387904) : IntKind.i64.wrap ((n : Int).tdiv 64) = ((n / 64 : Nat) : Int) := by
  have : (n : Int).tdiv 64 = ((n / 64 : Nat) : Int) := by rw [Int.tdiv_eq_ediv_of_nonneg (by omega)]; omega
  rw [this, wrap_i64_of _ (by omega) (by omega)]
theorem tmod_nat (n : Nat) : (n : Int).tmod 64 = ((n % 64 : Nat) : Int) := by
  rw [Int.tmod_eq_emod_of_nonneg (by omega)]; omega
theorem min64 (r : Nat) (h : r < 64) : min ((r : Nat) : Int).toNat IntKind.u64.bits = r := by simp only [IntKind.bits]; omega
theorem wrap_u64_nat (r : Nat) (h : r < 18446744073709551616) : IntKind.u64.wrap (r : Int) = (r : Int) := wrap_u64_of _ (by omega) (by omega)
theorem setcode {l : List Int} (hU : UL l) (n : Nat) (h : n < 64 * l.length) : l.set ((n / 64 : Nat) : Int).toNat (bits .or .u64 ((wd l (n / 64) : Nat) : Int) ((2 ^ (n % 64) : Nat) : Int)) = sb l n := by
  rw [u64_or_nat _ _ (wd_lt hU _) (two_lt (by omega))]; rfl
theorem clrcode {l : List Int} (hU : UL l) (n : Nat) (h : n < 64 * l.length) : l.set ((n / 64 : Nat) : Int).toNat (bits .andNot .u64 ((wd l (n / 64) : Nat) : Int) ((2 ^ (n % 64) : Nat) : Int)) = cb l n := by
  rw [u64_andNot_nat _ _ (wd_lt hU _) (two_lt (by omega))]; rfl
theorem fdiv_nat (w r : Nat) : ((w : Nat) : Int).fdiv (2 ^ r) = ((w / 2 ^ r : Nat) : Int) := by
  have h2 : ((2 : Int) ^ r) = ((2 ^ r : Nat) : Int) := by simp
  rw [h2, Int.fdiv_eq_ediv_of_nonneg _ (Int.natCast_nonneg _), ← Int.natCast_ediv]
theorem div_lt {w : Nat} (h : w < 18446744073709551616) (r : Nat) : w / 2 ^ r < 18446744073709551616 := Nat.lt_of_le_of_lt (Nat.div_le_self _ _) h
theorem bitcode {w : Nat} (h : w < 18446744073709551616) (r : Nat) : (bits .and .u64 (((w : Nat) : Int).fdiv (2 ^ r)) 1 == 1) = w.testBit r := by
  have := div_lt h r
  rw [fdiv_nat, Nat.testBit_eq_decide_div_mod_eq]
  generalize w / 2 ^ r = q at this ⊢
  rw [u64_and1 _ (by omega) (by omega)]
  rw [Bool.eq_iff_iff]; simp; omega
/-- A number that is put in, if it is one. -/
def putI (N : Int) (w : List Int) (x : Int) : List Int := if 0 ≤ x ∧ x < N then sb w x.toNat else w
theorem putI_length (N : Int) (w : List Int) (x : Int) : (putI N w x).length = w.length := by unfold putI; split <;> simp [sb_length]
theorem putI_UL {N : Int} {w : List Int} (hU : UL w) (x : Int) : UL (putI N w x) := by unfold putI; split <;> first | exact sb_UL hU _ | exact hU
theorem putI_tb {N : Int} {w : List Int} (h : N ≤ 64 * w.length) (x : Int) (m : Nat) : tb (putI N w x) m = (tb w m || decide ((m : Int) = x ∧ x < N)) := by
  unfold putI; split
  · rename_i e
    rw [sb_tb (by omega)]; congr 1; rw [decide_eq_decide]; omega
  · rename_i e
    have : ¬ ((m : Int) = x ∧ x < N) := by omega
    simp [this]
theorem put_ev (N : Int) (l : List Int) (hU : UL l) (h : N ≤ 64 * l.length) (h8 : N ≤ 8192) (a : Int) : riddleref01_put ⟨N, l⟩ a = some (putI N l a) := by
  unfold riddleref01_put putI
  by_cases c : 0 ≤ a ∧ a < N
  · obtain ⟨n, rfl⟩ := Int.eq_ofNat_of_zero_le c.1
    rw [if_pos (by simpa using c), if_pos c, tdiv_nat _ (by omega), at_wd hU (by omega), Option.bind_some, tmod_nat, wrap_u64_nat _ (by omega), min64 _ (by omega), if_pos (by omega), wrap_shl (by omega), setcode hU _ (by omega)]
    rfl
  · rw [if_neg (by simpa using c), if_neg c]
end Go.Proofs.YtfejcecgnonabaaDoor
