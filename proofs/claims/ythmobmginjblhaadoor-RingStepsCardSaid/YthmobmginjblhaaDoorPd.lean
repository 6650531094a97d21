/- YthmobmginjblhaaDoorPd: a part of the proof; see the last text for what is proved. -/
import Derived.Test.YthmobmginjblhaaDoorPc
set_option linter.unusedVariables false
set_option linter.unusedSimpArgs false
/- Chapter 1, part d: two sets, word by word. -/
namespace Go.Proofs.YthmobmginjblhaaDoor
open Go.AE

theorem wd_zero (n i : Nat) : wd (List.replicate n 0) i = 0 := by
  unfold wd
  rw [List.getD_eq_getElem?_getD, List.getElem?_replicate]
  split <;> simp
theorem cpy_wd (n : Nat) (m : List Int) (i : Nat) : wd (cpy (List.replicate n 0) m) i = if i < n then wd m i else 0 := by
  unfold cpy wd
  simp only [List.length_replicate, List.drop_replicate]
  rw [List.getD_eq_getElem?_getD, List.getElem?_append]
  simp only [List.length_take]
  by_cases h1 : i < n
  · rw [if_pos h1]
    by_cases h2 : i < m.length
    · rw [if_pos (by omega), List.getElem?_take, if_pos h1, List.getD_eq_getElem?_getD]
    · rw [if_neg (by omega), List.getElem?_replicate, List.getD_eq_getElem?_getD, List.getElem?_eq_none (by omega)]
      split <;> rfl
  · rw [if_neg h1, if_neg (by omega), List.getElem?_replicate]
    split <;> rfl
theorem cpy_UL {n : Nat} {m : List Int} (h : UL m) : UL (cpy (List.replicate n 0) m) := by
  intro x hx
  unfold cpy at hx
  rcases List.mem_append.1 hx with h1 | h1
  · exact h x (List.mem_of_mem_take h1)
  · rw [List.drop_replicate] at h1; rw [List.eq_of_mem_replicate h1]; constructor <;> decide
/-! ### joined -/
def nand (a b : Nat) : Nat := a &&& (18446744073709551615 - b)
theorem nand_tb {a b : Nat} (hb : b < 18446744073709551616) {j : Nat} (hj : j < 64) : (nand a b).testBit j = (a.testBit j && !b.testBit j) := by
  have e : 18446744073709551615 - b = 2 ^ 64 - (b + 1) := by have : (2 : Nat) ^ 64 = 18446744073709551616 := by decide
                                                             omega
  unfold nand
  rw [Nat.testBit_and, e, Nat.testBit_two_pow_sub_succ hb]
  simp [hj]
/-! ### the same -/
def sameB (a b : api_Bits) : Bool := decide ((mayB a).N = (mayB b).N ∧ (mayB a).Words = (mayB b).Words)
end Go.Proofs.YthmobmginjblhaaDoor
