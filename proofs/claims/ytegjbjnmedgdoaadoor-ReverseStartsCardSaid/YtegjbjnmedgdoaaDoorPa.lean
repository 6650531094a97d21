/- YtegjbjnmedgdoaaDoorPa: a part of the proof; see the last text for what is proved. -/
import Derived.Test.YtegjbjnmedgdoaaDoorGd
import Derived.Test.YtegjbjnmedgdoaaDoorAaArg
import Derived.Test.YtegjbjnmedgdoaaDoorAaNum
import Derived.Laws.BitsAllLaws
set_option linter.unusedVariables false
set_option linter.unusedSimpArgs false
/- Chapter 1, part a: words, and one bit of them. -/
namespace Go.Proofs.YtegjbjnmedgdoaaDoor
open Go.AE

theorem wrapN (n : Nat) (h : n < 9223372036854775807) : IntKind.i64.wrap ((n : Int) + 1) = ((n + 1 : Nat) : Int) := by
  rw [wrap_i64_of _ (by omega) (by omega)]; omega
theorem at_lt {α : Type} {l : List α} {i : Nat} (h : i < l.length) : at_ l (i : Int) = some l[i] := by rw [at_nat, List.getElem?_eq_getElem h]
def U64 (x : Int) : Prop := 0 ≤ x ∧ x < 18446744073709551616
def UL (l : List Int) : Prop := ∀ x ∈ l, U64 x
def wd (l : List Int) (i : Nat) : Nat := (l.getD i 0).toNat
def tb (l : List Int) (n : Nat) : Bool := (wd l (n / 64)).testBit (n % 64)
theorem wd_eq {l : List Int} {i : Nat} (hU : UL l) (h : i < l.length) : l[i] = ((wd l i : Nat) : Int) := by
  have h1 := (hU l[i] (List.getElem_mem h)).1
  unfold wd; rw [List.getD_eq_getElem?_getD, List.getElem?_eq_getElem h]; simp; omega
theorem wd_lt {l : List Int} (hU : UL l) (i : Nat) : wd l i < 18446744073709551616 := by
  by_cases h : i < l.length
  · have h1 := (hU l[i] (List.getElem_mem h)).2
    have h2 := wd_eq hU h
    omega
  · unfold wd; rw [List.getD_eq_getElem?_getD, List.getElem?_eq_none (by omega)]; decide
theorem wd_out {l : List Int} {i : Nat} (h : l.length ≤ i) : wd l i = 0 := by
  unfold wd; rw [List.getD_eq_getElem?_getD, List.getElem?_eq_none h]; rfl
theorem at_wd {l : List Int} {i : Nat} (hU : UL l) (h : i < l.length) : at_ l (i : Int) = some ((wd l i : Nat) : Int) := by
  rw [at_lt h, wd_eq hU h]
theorem bit_out {w : Nat} (h : w < 18446744073709551616) {j : Nat} (hj : 64 ≤ j) : w.testBit j = false := by
  apply Nat.testBit_lt_two_pow
  have : (2 : Nat) ^ 64 ≤ 2 ^ j := Nat.pow_le_pow_right (by decide) hj
  have e : (2 : Nat) ^ 64 = 18446744073709551616 := by decide
  omega
theorem tb_out {l : List Int} {n : Nat} (h : 64 * l.length ≤ n) : tb l n = false := by
  unfold tb; rw [wd_out (by omega)]; simp
theorem wd_ext {v w : Nat} (hv : v < 18446744073709551616) (hw : w < 18446744073709551616) (h : ∀ j < 64, v.testBit j = w.testBit j) : v = w := by
  apply Nat.eq_of_testBit_eq
  intro j
  rcases Nat.lt_or_ge j 64 with hj | hj
  · exact h j hj
  · rw [bit_out hv hj, bit_out hw hj]
theorem tb_at (l : List Int) (i j : Nat) (hj : j < 64) : tb l (64 * i + j) = (wd l i).testBit j := by
  unfold tb
  rw [show (64 * i + j) / 64 = i by omega, show (64 * i + j) % 64 = j by omega]
theorem words_ext {l m : List Int} (hl : UL l) (hm : UL m) (e : l.length = m.length) (h : ∀ n, tb l n = tb m n) : l = m := by
  apply List.ext_getElem e
  intro i h1 h2
  rw [wd_eq hl h1, wd_eq hm h2]
  congr 1
  exact wd_ext (wd_lt hl i) (wd_lt hm i) fun j hj => by rw [← tb_at l i j hj, ← tb_at m i j hj, h]

/-! ### one bit -/
theorem wd_set {l : List Int} {i : Nat} {x : Nat} (h : i < l.length) (j : Nat) : wd (l.set i (x : Int)) j = if i = j then x else wd l j := by
  unfold wd
  rw [List.getD_eq_getElem?_getD, List.getElem?_set]
  by_cases e : i = j
  · subst e; simp [h]
  · simp [e, List.getD_eq_getElem?_getD]
theorem UL_set {l : List Int} {i : Nat} {x : Nat} (hU : UL l) (hx : x < 18446744073709551616) : UL (l.set i (x : Int)) := by
  intro y hy
  rcases List.mem_or_eq_of_mem_set hy with h | h
  · exact hU y h
  · subst h; constructor <;> omega
theorem two_lt {r : Nat} (h : r < 64) : (2 : Nat) ^ r < 18446744073709551616 := by
  have : (2 : Nat) ^ r < 2 ^ 64 := Nat.pow_lt_pow_right (by decide) h
  have e : (2 : Nat) ^ 64 = 18446744073709551616 := by decide
  omega
theorem or_lt {a b : Nat} (ha : a < 18446744073709551616) (hb : b < 18446744073709551616) : a ||| b < 18446744073709551616 :=
  Nat.or_lt_two_pow (n := 64) ha hb
theorem and_lt {a b : Nat} (ha : a < 18446744073709551616) : a &&& b < 18446744073709551616 :=
  Nat.lt_of_le_of_lt Nat.and_le_left ha
theorem wrap_shl {r : Nat} (h : r < 64) : IntKind.u64.wrap (1 * 2 ^ r) = ((2 ^ r : Nat) : Int) := by
  have := two_lt h
  have e : (1 * 2 ^ r : Int) = ((2 ^ r : Nat) : Int) := by simp
  rw [e]
  generalize 2 ^ r = q at this
  exact wrap_u64_of _ (by omega) (by omega)
def sb (l : List Int) (n : Nat) : List Int := l.set (n / 64) ((wd l (n / 64) ||| 2 ^ (n % 64) : Nat) : Int)
def cb (l : List Int) (n : Nat) : List Int := l.set (n / 64) ((wd l (n / 64) &&& (18446744073709551615 - 2 ^ (n % 64)) : Nat) : Int)
theorem sb_length (l : List Int) (n : Nat) : (sb l n).length = l.length := by simp [sb]
theorem cb_length (l : List Int) (n : Nat) : (cb l n).length = l.length := by simp [cb]
theorem sb_UL {l : List Int} (hU : UL l) (n : Nat) : UL (sb l n) := UL_set hU (or_lt (wd_lt hU _) (two_lt (by omega)))
theorem cb_UL {l : List Int} (hU : UL l) (n : Nat) : UL (cb l n) := UL_set hU (and_lt (wd_lt hU _))
theorem sb_tb {l : List Int} {n : Nat} (h : n < 64 * l.length) (m : Nat) : tb (sb l n) m = (tb l m || decide (m = n)) := by
  unfold tb sb
  rw [wd_set (by omega)]
  split
  · rename_i e
    rw [Nat.testBit_or, Nat.testBit_two_pow, e]
    congr 1
    rw [decide_eq_decide]; omega
  · rename_i e
    have : ¬ m = n := fun hc => e (by rw [hc])
    simp [this]
theorem not_tb {w : Nat} (r j : Nat) (hr : r < 64) (hj : j < 64) : (w &&& (18446744073709551615 - 2 ^ r)).testBit j = (w.testBit j && !decide (r = j)) := by
  have := two_lt hr
  have e : 18446744073709551615 - 2 ^ r = 2 ^ 64 - (2 ^ r + 1) := by have : (2 : Nat) ^ 64 = 18446744073709551616 := by decide
                                                                     omega
  rw [Nat.testBit_and, e, Nat.testBit_two_pow_sub_succ this, Nat.testBit_two_pow]
  simp [hj]
theorem cb_tb {l : List Int} {n : Nat} (h : n < 64 * l.length) (m : Nat) : tb (cb l n) m = (tb l m && !decide (m = n)) := by
  unfold tb cb
  rw [wd_set (by omega)]
  split
  · rename_i e
    rw [not_tb _ _ (by omega) (by omega), e]
    congr 2
    rw [decide_eq_decide]; omega
  · rename_i e
    have : ¬ m = n := fun hc => e (by rw [hc])
    simp [this]

/-! ### the code's own ways to say it -/
theorem tdiv_nat (n : Nat) (h : n < 4611686018427387904) : IntKind.i64.wrap ((n : Int).tdiv 64) = ((n / 64 : Nat) : Int) := by
  have : (n : Int).tdiv 64 = ((n / 64 : Nat) : Int) := by rw [Int.tdiv_eq_ediv_of_nonneg (by omega)]; omega
  rw [this, wrap_i64_of _ (by omega) (by omega)]
theorem tmod_nat (n : Nat) : (n : Int).tmod 64 = ((n % 64 : Nat) : Int) := by
  rw [Int.tmod_eq_emod_of_nonneg (by omega)]; omega
theorem min64 (r : Nat) (h : r < 64) : min ((r : Nat) : Int).toNat IntKind.u64.bits = r := by simp only [IntKind.bits]; omega
theorem wrap_u64_nat (r : Nat) (h : r < 18446744073709551616) : IntKind.u64.wrap (r : Int) = (r : Int) := wrap_u64_of _ (by omega) (by omega)
theorem setcode {l : List Int} (hU : UL l) (n : Nat) (h : n < 64 * l.length) : l.set ((n / 64 : Nat) : Int).toNat (bits .or .u64 ((wd l (n / 64) : Nat) : Int) ((2 ^ (n % 64) : Nat) : Int)) = sb l n := by
  rw [u64_or_nat _ _ (wd_lt hU _) (two_lt (by omega))]; rfl
theorem clrcode {l : List Int} (hU : UL l) (n : Nat) (h : n < 64 * l.length) : l.set ((n / 64 : Nat) : Int).toNat (bits .andNot .u64 ((wd l (n / 64) : Nat) : Int) ((2 ^ (n % 64) : Nat) : Int)) = cb l n := by
  rw [u64_andNot_nat _ _ (wd_lt hU _) (two_lt (by omega))]; rfl
theorem fdiv_nat (w r : Nat) : ((w : Nat) : Int).fdiv (2 ^ r) = ((w / 2 ^ r : Nat) : Int) := by
  have h2 : ((2 : Int) ^ r) = ((2 ^ r : Nat) : Int) := by simp
  rw [h2, Int.fdiv_eq_ediv_of_nonneg _ (Int.natCast_nonneg _), ← Int.natCast_ediv]
theorem div_lt {w : Nat} (h : w < 18446744073709551616) (r : Nat) : w / 2 ^ r < 18446744073709551616 := Nat.lt_of_le_of_lt (Nat.div_le_self _ _) h
theorem bitcode {w : Nat} (h : w < 18446744073709551616) (r : Nat) : (bits .and .u64 (((w : Nat) : Int).fdiv (2 ^ r)) 1 == 1) = w.testBit r := by
  have := div_lt h r
  rw [fdiv_nat, Nat.testBit_eq_decide_div_mod_eq]
  generalize w / 2 ^ r = q at this ⊢
  rw [u64_and1 _ (by omega) (by omega)]
  rw [Bool.eq_iff_iff]; simp; omega
/-- A number that is put in, if it is one. -/
def putI (N : Int) (w : List Int) (x : Int) : List Int := if 0 ≤ x ∧ x < N then sb w x.toNat else w
theorem putI_length (N : Int) (w : List Int) (x : Int) : (putI N w x).length = w.length := by unfold putI; split <;> simp [sb_length]
theorem putI_UL {N : Int} {w : List Int} (hU : UL w) (x : Int) : UL (putI N w x) := by unfold putI; split <;> first | exact sb_UL hU _ | exact hU
theorem putI_tb {N : Int} {w : List Int} (h : N ≤ 64 * w.length) (x : Int) (m : Nat) : tb (putI N w x) m = (tb w m || decide ((m : Int) = x ∧ x < N)) := by
  unfold putI; split
  · rename_i e
    rw [sb_tb (by omega)]; congr 1; rw [decide_eq_decide]; omega
  · rename_i e
    have : ¬ ((m : Int) = x ∧ x < N) := by omega
    simp [this]
theorem put_ev (N : Int) (l : List Int) (hU : UL l) (h : N ≤ 64 * l.length) (h8 : N ≤ 8192) (a : Int) : riddleref01_put ⟨N, l⟩ a = some (putI N l a) := by
  unfold riddleref01_put putI
  by_cases c : 0 ≤ a ∧ a < N
  · obtain ⟨n, rfl⟩ := Int.eq_ofNat_of_zero_le c.1
    rw [if_pos (by simpa using c), if_pos c, tdiv_nat _ (by omega), at_wd hU (by omega), Option.bind_some, tmod_nat, wrap_u64_nat _ (by omega), min64 _ (by omega), if_pos (by omega), wrap_shl (by omega), setcode hU _ (by omega)]
    rfl
  · rw [if_neg (by simpa using c), if_neg c]
end Go.Proofs.YtegjbjnmedgdoaaDoor
set_option linter.unusedVariables false
set_option linter.unusedSimpArgs false
/- Chapter 1, part b: which sets may be; their words put, cleared, held against each other. -/
namespace Go.Proofs.YtegjbjnmedgdoaaDoor
open Go.AE

/-- A set of the numbers below N that p tells. -/
structure Is (b : api_Bits) (N : Nat) (p : Nat → Bool) : Prop where
  n : b.N = (N : Int)
  le : N ≤ 8192
  len : b.Words.length = (N + 63) / 64
  u : UL b.Words
  tb : ∀ n, tb b.Words n = p n
  hi : ∀ n, N ≤ n → p n = false
theorem Is.uniq {b c : api_Bits} {N : Nat} {p : Nat → Bool} (h : Is b N p) (h' : Is c N p) : b = c := by
  have e1 := h.n.trans h'.n.symm
  have e2 := words_ext h.u h'.u (h.len.trans h'.len.symm) (fun n => (h.tb n).trans (h'.tb n).symm)
  cases b; cases c; simp_all
theorem Is.congr {b : api_Bits} {N : Nat} {p q : Nat → Bool} (h : Is b N p) (e : ∀ n, p n = q n) : Is b N q := by
  have : p = q := funext e
  rw [← this]; exact h
theorem Is.q {b : api_Bits} {N : Nat} {p q : Nat → Bool} (h : Is b N p) (h' : Is b N q) (n : Nat) : p n = q n := (h.tb n).symm.trans (h'.tb n)
def okB (b : api_Bits) : Bool := decide (0 ≤ b.N ∧ b.N ≤ 8192 ∧ (b.Words.length : Int) = (b.N + 63) / 64 ∧ ∀ n < 64 * b.Words.length, b.N ≤ n → tb b.Words n = false)
def mayB (b : api_Bits) : api_Bits := if okB b = true then b else ⟨0, []⟩
def nN (b : api_Bits) : Nat := (mayB b).N.toNat
def pp (b : api_Bits) (n : Nat) : Bool := tb (mayB b).Words n
theorem is_of_ok {b : api_Bits} (hU : UL b.Words) (h : okB b = true) : Is b b.N.toNat (tb b.Words) := by
  obtain ⟨h0, h1, h2, h3⟩ := of_decide_eq_true h
  refine ⟨by omega, by omega, by omega, hU, fun n => rfl, fun n hn => ?_⟩
  rcases Nat.lt_or_ge n (64 * b.Words.length) with hlt | hge
  · exact h3 n hlt (by omega)
  · exact tb_out hge
theorem may_is (b : api_Bits) (hU : UL b.Words) : Is (mayB b) (nN b) (pp b) := by
  unfold nN pp mayB
  split
  · rename_i h; exact is_of_ok hU h
  · exact ⟨rfl, by decide, rfl, (fun x hx => by cases hx), fun n => rfl, fun n _ => tb_out (by simp)⟩
theorem Is.ok {b : api_Bits} {N : Nat} {p : Nat → Bool} (h : Is b N p) : okB b = true := by
  apply decide_eq_true
  have h1 := h.n; have h2 := h.le; have h3 := h.len
  exact ⟨by omega, by omega, by omega, fun n _ hn => by rw [h.tb]; exact h.hi n (by omega)⟩
theorem Is.may {b : api_Bits} {N : Nat} {p : Nat → Bool} (h : Is b N p) : mayB b = b := by unfold mayB; rw [if_pos h.ok]
theorem Is.nN {b : api_Bits} {N : Nat} {p : Nat → Bool} (h : Is b N p) : nN b = N := by unfold YtegjbjnmedgdoaaDoor.nN; rw [h.may, h.n]; rfl
theorem Is.pp {b : api_Bits} {N : Nat} {p : Nat → Bool} (h : Is b N p) (n : Nat) : pp b n = p n := by unfold YtegjbjnmedgdoaaDoor.pp; rw [h.may, h.tb]
theorem pp_hi {b : api_Bits} (hU : UL b.Words) {n : Nat} (h : nN b ≤ n) : pp b n = false := (may_is b hU).hi n h

/-! ### empty sets -/
theorem words_ev (N : Nat) (h : N ≤ 8192) : bits_words (N : Int) = some (((N + 63) / 64 : Nat) : Int) := by
  unfold bits_words
  rw [show (N : Int) + 63 = ((N + 63 : Nat) : Int) by omega, wrap_i64_of ((N + 63 : Nat) : Int) (by omega) (by omega), tdiv_nat _ (by omega)]
def zeroB (N : Nat) : api_Bits := ⟨N, List.replicate ((N + 63) / 64) 0⟩
theorem okMk (N : Nat) (h : N ≤ 8192) : okMake 8 (((N + 63) / 64 : Nat) : Int) := by unfold okMake; omega
theorem empty_ev (N : Nat) (h : N ≤ 8192) : bits_empty (N : Int) = some (zeroB N) := by
  unfold bits_empty
  rw [words_ev N h, Option.bind_some, if_pos (okMk N h)]; rfl
theorem zero_ev (N : Nat) (h : N ≤ 8192) : riddleref01_Zero (N : Int) = some (zeroB N) := by
  unfold riddleref01_Zero
  rw [show (N : Int) + 63 = ((N + 63 : Nat) : Int) by omega, wrap_i64_of ((N + 63 : Nat) : Int) (by omega) (by omega), tdiv_nat _ (by omega), if_pos (okMk N h)]; rfl
theorem tb_zero (n i : Nat) : tb (List.replicate n 0) i = false := by
  unfold tb wd
  rw [List.getD_eq_getElem?_getD, List.getElem?_replicate]
  split <;> simp
theorem zero_is (N : Nat) (h : N ≤ 8192) : Is (zeroB N) N (fun _ => false) :=
  ⟨rfl, h, by simp [zeroB], fun x hx => by rw [List.eq_of_mem_replicate hx]; constructor <;> decide, fun n => tb_zero _ _, fun _ _ => rfl⟩

/-! ### which may be -/
theorem check_ev (b : api_Bits) (hU : UL b.Words) (hl : b.Words.length ≤ 9223372036854775807) : bits_Check b = some (if okB b = true then 0 else 10) := by
  obtain ⟨N, W⟩ := b
  have no {q : Prop} (h : ¬ (0 ≤ N ∧ N ≤ 8192 ∧ (W.length : Int) = (N + 63) / 64)) : ¬ (okB ⟨N, W⟩ = true) := fun hc => h ⟨(of_decide_eq_true hc).1, (of_decide_eq_true hc).2.1, (of_decide_eq_true hc).2.2.1⟩
  unfold bits_Check
  simp only at *
  by_cases h0 : N < 0
  · rw [if_neg (no (q := True) (by omega)), if_pos (by simpa using h0)]; simp
  rw [if_neg (by simpa using h0)]
  by_cases h1 : N > 8192
  · rw [if_neg (no (q := True) (by omega)), if_pos (by simpa using h1)]; simp
  rw [if_neg (by simpa using h1)]
  obtain ⟨n, rfl⟩ := Int.eq_ofNat_of_zero_le (show 0 ≤ N by omega)
  rw [words_ev n (by omega), Option.bind_some, Option.bind_some]
  by_cases h2 : W.length = (n + 63) / 64
  · rw [if_neg (by simp; omega), tmod_nat]
    by_cases hr : n % 64 = 0
    · rw [if_neg (by simp; omega), Option.bind_some, if_neg (by simp), if_pos]
      apply decide_eq_true
      exact ⟨by simp, by simp; omega, by simp; omega, fun m hm hn => by simp at hm hn; omega⟩
    · rw [if_pos (by simp; omega), show (W.length : Int) - 1 = ((W.length - 1 : Nat) : Int) by omega, wrap_i64_of _ (by omega) (by omega), at_wd hU (by omega), Option.bind_some, if_pos (by omega), Option.bind_some, min64 _ (by omega), fdiv_nat]
      by_cases hz : wd W (W.length - 1) / 2 ^ (n % 64) = 0
      · rw [if_neg (by rw [hz]; simp), if_pos]
        apply decide_eq_true
        refine ⟨by simp, by simp; omega, by simp; omega, fun m hm hn => ?_⟩
        simp only at hm hn
        unfold tb
        rw [show m / 64 = W.length - 1 by omega]
        apply Nat.testBit_lt_two_pow
        have h3 : wd W (W.length - 1) < 2 ^ (n % 64) := (Nat.div_eq_zero_iff_lt (Nat.two_pow_pos _)).1 hz
        exact Nat.lt_of_lt_of_le h3 (Nat.pow_le_pow_right (by decide) (by omega))
      · rw [if_pos (by simpa using fun h => hz (by exact_mod_cast h)), if_neg]
        intro hc
        have hc := (of_decide_eq_true hc).2.2.2
        obtain ⟨i, hi⟩ := Nat.exists_testBit_of_ne_zero hz
        rw [Nat.testBit_div_two_pow, Nat.add_comm] at hi
        have hlt : n % 64 + i < 64 := by
          rcases Nat.lt_or_ge (n % 64 + i) 64 with h | h
          · exact h
          · rw [bit_out (wd_lt hU _) h] at hi; cases hi
        have := hc (64 * (W.length - 1) + (n % 64 + i)) (by simp only; omega) (by simp only; omega)
        rw [tb_at _ _ _ hlt] at this
        exact absurd (this.symm.trans hi) (by decide)
  · rw [if_neg (no (q := True) (by omega)), if_pos (by simp; omega)]
theorem in_ev (l : List Int) (hU : UL l) (n : Nat) (h : n < 64 * l.length) (h2 : n < 4611686018427387904) : riddleref01_in l (n : Int) = some (tb l n) := by
  unfold riddleref01_in
  rw [tdiv_nat _ h2, at_wd hU (by omega), Option.bind_some, tmod_nat, wrap_u64_nat _ (by omega), min64 _ (by omega), if_pos (by omega), bitcode (wd_lt hU _)]; rfl
theorem rcheck_l0 (b : api_Bits) (hU : UL b.Words) (hl : b.Words.length ≤ 200) (J : Unit → Option Int) : ∀ (d i m : Nat), i + d = 64 * b.Words.length → d < m →
    ((∃ j, i ≤ j ∧ j < 64 * b.Words.length ∧ tb b.Words j = true) ∧ riddleref01_Check_l0 b J m (i : Int) = some 10) ∨
    ((∀ j, i ≤ j → j < 64 * b.Words.length → tb b.Words j = false) ∧ riddleref01_Check_l0 b J m (i : Int) = J ()) := by
  intro d
  induction d with
  | zero =>
    intro i m hi hm
    obtain ⟨m, rfl⟩ : ∃ n, m = n + 1 := ⟨m - 1, by omega⟩
    refine .inr ⟨fun j h1 h2 => by omega, ?_⟩
    rw [riddleref01_Check_l0, if_neg]
    rw [wrap_i64_of _ (by omega) (by omega)]; simp; omega
  | succ d ih =>
    intro i m hi hm
    obtain ⟨m, rfl⟩ : ∃ n, m = n + 1 := ⟨m - 1, by omega⟩
    rw [riddleref01_Check_l0, if_pos (by rw [wrap_i64_of _ (by omega) (by omega)]; simp; omega), in_ev _ hU _ (by omega) (by omega), Option.bind_some]
    by_cases ht : tb b.Words i = true
    · rw [if_pos ht]; exact .inl ⟨⟨i, by omega, by omega, ht⟩, rfl⟩
    · rw [if_neg ht, wrapN i (by omega)]
      rcases ih (i + 1) m (by omega) (by omega) with ⟨⟨j, h1, h2, h3⟩, h4⟩ | ⟨h1, h2⟩
      · exact .inl ⟨⟨j, by omega, h2, h3⟩, h4⟩
      · refine .inr ⟨fun j h3 h4 => ?_, h2⟩
        rcases Nat.lt_or_ge i j with h | h
        · exact h1 j (by omega) h4
        · have : j = i := by omega
          subst this; simpa using ht
theorem rcheck_ev (b : api_Bits) (hU : UL b.Words) (hl : b.Words.length ≤ 9223372036854775807) (k : Nat) (hk : 9000 < k) : riddleref01_Check k b = some (if okB b = true then 0 else 10) := by
  obtain ⟨N, W⟩ := b
  have no {q : Prop} (h : ¬ (0 ≤ N ∧ N ≤ 8192 ∧ (W.length : Int) = (N + 63) / 64)) : ¬ (okB ⟨N, W⟩ = true) := fun hc => h ⟨(of_decide_eq_true hc).1, (of_decide_eq_true hc).2.1, (of_decide_eq_true hc).2.2.1⟩
  unfold riddleref01_Check
  simp only at *
  by_cases h0 : N < 0
  · rw [if_neg (no (q := True) (by omega)), if_pos (by simp [h0])]
  by_cases h1 : N > 8192
  · rw [if_neg (no (q := True) (by omega)), if_pos (by simp [h1])]
  obtain ⟨n, rfl⟩ := Int.eq_ofNat_of_zero_le (show 0 ≤ N by omega)
  rw [show (n : Int) + 63 = ((n + 63 : Nat) : Int) by omega, wrap_i64_of ((n + 63 : Nat) : Int) (by omega) (by omega), tdiv_nat _ (by omega)]
  by_cases h2 : W.length = (n + 63) / 64
  · rw [if_neg (by simp; omega)]
    simp only [jn]
    rcases rcheck_l0 ⟨n, W⟩ hU (by simp only; omega) (fun _ => some 0) (64 * W.length - n) n k (by simp only; omega) (by omega) with ⟨⟨j, h3, h4, h5⟩, h6⟩ | ⟨h3, h4⟩
    · rw [h6, if_neg]
      intro hc
      have := (of_decide_eq_true hc).2.2.2 j h4 (by simp only; omega)
      rw [this] at h5; cases h5
    · rw [h4, if_pos]
      apply decide_eq_true
      exact ⟨by simp, by simp; omega, by simp; omega, fun j h5 h6 => h3 j (by simp only at h6; omega) h5⟩
  · rw [if_neg (no (q := True) (by omega)), if_pos (by simp; omega)]
theorem rmay_ev (b : api_Bits) (hU : UL b.Words) (hl : b.Words.length ≤ 9223372036854775807) (k : Nat) (hk : 9000 < k) : riddleref01_may k b = some (mayB b) := by
  unfold riddleref01_may mayB
  rw [rcheck_ev b hU hl k hk, Option.bind_some]
  by_cases h : okB b = true
  · rw [if_pos h, if_pos h, if_neg (by simp)]
  · rw [if_neg h, if_neg h, if_pos (by simp)]
    have := zero_ev 0 (by decide)
    rw [show ((0 : Nat) : Int) = 0 from rfl] at this
    rw [this]; rfl
theorem clone_ev (l : List Int) (h : l.length ≤ 200) : slices_Clone_uint64_uint64 l = some l := by
  unfold slices_Clone_uint64_uint64
  rw [if_pos]
  · simp
  · unfold okApp maxLen; simp; omega
theorem ok_len {b : api_Bits} (h : okB b = true) : b.Words.length ≤ 200 := by
  obtain ⟨h0, h1, h2, h3⟩ := of_decide_eq_true h
  omega
theorem own_ev (b : api_Bits) (hU : UL b.Words) (hl : b.Words.length ≤ 9223372036854775807) : bits_own b = some (mayB b) := by
  unfold bits_own mayB
  rw [check_ev b hU hl, Option.bind_some]
  by_cases h : okB b = true
  · rw [if_pos h, if_pos h, if_neg (by simp), clone_ev _ (ok_len h)]; rfl
  · rw [if_neg h, if_neg h, if_pos (by simp)]
theorem may_len (b : api_Bits) : (mayB b).Words.length ≤ 200 := by
  unfold mayB; split
  · rename_i h; exact ok_len h
  · simp

/-! ### has, with, without -/
def hasB (b : api_Bits) (x : Int) : Bool := decide (0 ≤ x) && pp b x.toNat
theorem rhas_ev (b : api_Bits) (hU : UL b.Words) (hl : b.Words.length ≤ 9223372036854775807) (x : Int) (k : Nat) (hk : 9000 < k) : riddleref01_Has k b x = some (hasB b x) := by
  have hi := may_is b hU
  unfold riddleref01_Has hasB pp
  rw [rmay_ev b hU hl k hk, Option.bind_some]
  by_cases c0 : 0 ≤ x
  · obtain ⟨n, rfl⟩ := Int.eq_ofNat_of_zero_le c0
    rw [if_pos (by simp)]
    have h1 := hi.n; have h2 := hi.le; have h3 := hi.len
    by_cases c1 : (n : Int) < (mayB b).N
    · rw [if_pos (by simpa using c1), in_ev _ hi.u _ (by omega) (by omega)]
      simp
    · rw [if_neg (by simpa using c1)]
      have := hi.hi n (by omega)
      unfold pp at this
      simp [this]
  · rw [if_neg (by simpa using c0)]
    simp [c0]
def withB (b : api_Bits) (x : Int) : api_Bits := ⟨(mayB b).N, putI (mayB b).N (mayB b).Words x⟩
theorem Is.cap {b : api_Bits} {N : Nat} {p : Nat → Bool} (h : Is b N p) : b.N ≤ 64 * b.Words.length ∧ b.N ≤ 8192 := by
  have h1 := h.n; have h2 := h.le; have h3 := h.len; omega
theorem Is.put {b : api_Bits} {N : Nat} {p : Nat → Bool} (h : Is b N p) (x : Int) : Is ⟨b.N, putI b.N b.Words x⟩ N (fun n => p n || decide ((n : Int) = x ∧ n < N)) := by
  have h1 := h.n
  refine ⟨h.n, h.le, by simp only [putI_length]; exact h.len, putI_UL h.u x, fun n => ?_, fun n hn => ?_⟩
  · simp only
    rw [putI_tb h.cap.1, h.tb]; congr 1; rw [decide_eq_decide]; omega
  · rw [h.hi n hn]
    have : ¬ ((n : Int) = x ∧ n < N) := by omega
    simp [this]
theorem with_ev (b : api_Bits) (hU : UL b.Words) (hl : b.Words.length ≤ 9223372036854775807) (x : Int) : bits_With b x = some (withB b x) := by
  have hi := may_is b hU
  have hc := hi.cap
  unfold bits_With withB putI
  rw [own_ev b hU hl, Option.bind_some]
  by_cases c : 0 ≤ x ∧ x < (mayB b).N
  · obtain ⟨n, rfl⟩ := Int.eq_ofNat_of_zero_le c.1
    rw [if_pos (by simpa using c), if_pos c, tdiv_nat _ (by omega), at_wd hi.u (by omega), Option.bind_some, tmod_nat, min64 _ (by omega), if_pos (by omega), wrap_shl (by omega), setcode hi.u _ (by omega)]
    rfl
  · rw [if_neg (by simpa using c), if_neg c]
theorem rcopy_ev (b : api_Bits) (hU : UL b.Words) (hl : b.Words.length ≤ 9223372036854775807) (k : Nat) (hk : 9000 < k) : riddleref01_Copy k b = some (mayB b) := by
  unfold riddleref01_Copy
  rw [rmay_ev b hU hl k hk, Option.bind_some, if_pos]
  · rfl
  · have := may_len b
    unfold okApp maxLen; simp; omega
theorem rwith_ev (b : api_Bits) (hU : UL b.Words) (hl : b.Words.length ≤ 9223372036854775807) (x : Int) (k : Nat) (hk : 9000 < k) : riddleref01_With k b x = some (withB b x) := by
  have hi := may_is b hU
  unfold riddleref01_With
  rw [rcopy_ev b hU hl k hk, Option.bind_some, show mayB b = ⟨(mayB b).N, (mayB b).Words⟩ from rfl, put_ev _ _ hi.u hi.cap.1 hi.cap.2, Option.bind_some]
  rfl
theorem with_is (b : api_Bits) (hU : UL b.Words) (x : Int) : Is (withB b x) (nN b) (fun n => pp b n || decide ((n : Int) = x ∧ n < nN b)) := (may_is b hU).put x
end Go.Proofs.YtegjbjnmedgdoaaDoor
