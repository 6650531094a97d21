/- YthmobmginjblhaaDoorPg: a part of the proof; see the last text for what is proved. -/
import Derived.Test.YthmobmginjblhaaDoorPf
set_option maxRecDepth 100000
set_option linter.unusedVariables false
set_option linter.unusedSimpArgs false
/- Chapter 1, part g: the last number, how many there are, and what the document says of shifts. -/
namespace Go.Proofs.YthmobmginjblhaaDoor
open Go.AE

/-! ### the highest bit -/
abbrev LEN8 : List Int := [0, 1, 2, 2, 3, 3, 3, 3, 4, 4, 4, 4, 4, 4, 4, 4, 5, 5, 5, 5, 5, 5, 5, 5, 5, 5, 5, 5, 5, 5, 5, 5, 6, 6, 6, 6, 6, 6, 6, 6, 6, 6, 6, 6, 6, 6, 6, 6, 6, 6, 6, 6, 6, 6, 6, 6, 6, 6, 6, 6, 6, 6, 6, 6, 7, 7, 7, 7, 7, 7, 7, 7, 7, 7, 7, 7, 7, 7, 7, 7, 7, 7, 7, 7, 7, 7, 7, 7, 7, 7, 7, 7, 7, 7, 7, 7, 7, 7, 7, 7, 7, 7, 7, 7, 7, 7, 7, 7, 7, 7, 7, 7, 7, 7, 7, 7, 7, 7, 7, 7, 7, 7, 7, 7, 7, 7, 7, 7, 8, 8, 8, 8, 8, 8, 8, 8, 8, 8, 8, 8, 8, 8, 8, 8, 8, 8, 8, 8, 8, 8, 8, 8, 8, 8, 8, 8, 8, 8, 8, 8, 8, 8, 8, 8, 8, 8, 8, 8, 8, 8, 8, 8, 8, 8, 8, 8, 8, 8, 8, 8, 8, 8, 8, 8, 8, 8, 8, 8, 8, 8, 8, 8, 8, 8, 8, 8, 8, 8, 8, 8, 8, 8, 8, 8, 8, 8, 8, 8, 8, 8, 8, 8, 8, 8, 8, 8, 8, 8, 8, 8, 8, 8, 8, 8, 8, 8, 8, 8, 8, 8, 8, 8, 8, 8, 8, 8, 8, 8, 8, 8, 8, 8, 8, 8, 8, 8, 8, 8, 8, 8, 8, 8, 8, 8, 8, 8]
theorem len8 : ∀ b : Fin 256, at_ LEN8 (b.val : Int) = some (if b.val = 0 then (0 : Int) else ((Nat.log2 b.val + 1 : Nat) : Int)) := by decide +kernel
theorem log2_div {w r : Nat} (h : 2 ^ r ≤ w) : Nat.log2 w = Nat.log2 (w / 2 ^ r) + r := by
  have hw : w ≠ 0 := by have := Nat.two_pow_pos r; omega
  have hd : w / 2 ^ r ≠ 0 := by
    have : 0 < w / 2 ^ r := Nat.div_pos h (Nat.two_pow_pos r)
    omega
  have h1 := Nat.log2_self_le hd
  have h2 := @Nat.lt_log2_self (w / 2 ^ r)
  have e := Nat.div_add_mod w (2 ^ r)
  have hm := Nat.mod_lt w (Nat.two_pow_pos r)
  have h3 : 2 ^ (Nat.log2 (w / 2 ^ r) + r) ≤ w := by
    rw [Nat.pow_add]
    exact Nat.le_trans (Nat.mul_le_mul_right _ h1) (Nat.div_mul_le_self _ _)
  have h4 : w < 2 ^ (Nat.log2 (w / 2 ^ r) + r + 1) := by
    rw [show Nat.log2 (w / 2 ^ r) + r + 1 = (Nat.log2 (w / 2 ^ r) + 1) + r by omega, Nat.pow_add]
    exact (Nat.div_lt_iff_lt_mul (Nat.two_pow_pos r)).1 h2
  have h5 := (Nat.le_log2 hw).2 h3
  have h6 := (Nat.log2_lt hw).2 h4
  omega
theorem len64_ev (w : Nat) (h0 : w ≠ 0) (hw : w < 18446744073709551616) : bits_Len64 (w : Int) = some ((Nat.log2 w + 1 : Nat) : Int) := by
  have fin : ∀ (v n : Nat), v ≠ 0 → v < 256 → n ≤ 56 → Nat.log2 w = Nat.log2 v + n → ((at_ LEN8 (IntKind.u8.wrap (v : Int))).bind fun t17_2 => some ((IntKind.i64.wrap ((n : Int) + (IntKind.i64.wrap t17_2))))) = some ((Nat.log2 w + 1 : Nat) : Int) := by
    intro v n h1 h2 h3 h4
    have := len8 ⟨v, h2⟩
    simp only at this
    have hl := (Nat.log2_lt h1).2 (show v < 2 ^ 8 by omega)
    rw [wrap_u8_of _ (by omega) (by omega), this, if_neg h1, Option.bind_some, wrap_i64_of ((Nat.log2 v + 1 : Nat) : Int) (by omega) (by omega), wrap_i64_of _ (by omega) (by omega), h4]
    congr 1; omega
  have s8 : ∀ (v n : Nat), v ≠ 0 → v < 65536 → n ≤ 48 → Nat.log2 w = Nat.log2 v + n → (if (decide ((v : Int) ≥ 256)) = true then ((at_ LEN8 (IntKind.u8.wrap ((v : Int).fdiv (2 ^ 8)))).bind fun t17_2 => some ((IntKind.i64.wrap (IntKind.i64.wrap ((n : Int) + 8) + (IntKind.i64.wrap t17_2))))) else ((at_ LEN8 (IntKind.u8.wrap (v : Int))).bind fun t17_2 => some ((IntKind.i64.wrap ((n : Int) + (IntKind.i64.wrap t17_2)))))) = some ((Nat.log2 w + 1 : Nat) : Int) := by
    intro v n h1 h2 h3 h4
    by_cases c : 256 ≤ v
    · rw [if_pos (by simp; omega), fdiv_nat, wrap_i64_of ((n : Int) + 8) (by omega) (by omega)]
      have := log2_div (r := 8) (w := v) (by omega)
      exact fin (v / 2 ^ 8) (n + 8) (by omega) (by omega) (by omega) (by omega)
    · rw [if_neg (by simp; omega)]
      exact fin v n h1 (by omega) (by omega) h4
  have s16 : ∀ (v n : Nat), v ≠ 0 → v < 4294967296 → n ≤ 32 → Nat.log2 w = Nat.log2 v + n → (if (decide ((v : Int) ≥ 65536)) = true then (if (decide ((v : Int).fdiv (2 ^ 16) ≥ 256)) = true then ((at_ LEN8 (IntKind.u8.wrap (((v : Int).fdiv (2 ^ 16)).fdiv (2 ^ 8)))).bind fun t17_2 => some ((IntKind.i64.wrap (IntKind.i64.wrap (IntKind.i64.wrap ((n : Int) + 16) + 8) + (IntKind.i64.wrap t17_2))))) else ((at_ LEN8 (IntKind.u8.wrap ((v : Int).fdiv (2 ^ 16)))).bind fun t17_2 => some ((IntKind.i64.wrap (IntKind.i64.wrap ((n : Int) + 16) + (IntKind.i64.wrap t17_2)))))) else (if (decide ((v : Int) ≥ 256)) = true then ((at_ LEN8 (IntKind.u8.wrap ((v : Int).fdiv (2 ^ 8)))).bind fun t17_2 => some ((IntKind.i64.wrap (IntKind.i64.wrap ((n : Int) + 8) + (IntKind.i64.wrap t17_2))))) else ((at_ LEN8 (IntKind.u8.wrap (v : Int))).bind fun t17_2 => some ((IntKind.i64.wrap ((n : Int) + (IntKind.i64.wrap t17_2))))))) = some ((Nat.log2 w + 1 : Nat) : Int) := by
    intro v n h1 h2 h3 h4
    by_cases c : 65536 ≤ v
    · rw [if_pos (by simp; omega), fdiv_nat, wrap_i64_of ((n : Int) + 16) (by omega) (by omega)]
      have := log2_div (r := 16) (w := v) (by omega)
      exact s8 (v / 2 ^ 16) (n + 16) (by omega) (by omega) (by omega) (by omega)
    · rw [if_neg (by simp; omega)]
      exact s8 v n h1 (by omega) (by omega) h4
  unfold bits_Len64
  simp only [jn]
  by_cases c : 4294967296 ≤ w
  · rw [if_pos (by simp; omega), fdiv_nat]
    have := log2_div (r := 32) (w := w) (by omega)
    exact s16 (w / 2 ^ 32) 32 (by omega) (by omega) (by omega) (by omega)
  · rw [if_neg (by simp; omega)]
    exact s16 w 0 h0 (by omega) (by omega) (by omega)
theorem log2_tb {w : Nat} (h0 : w ≠ 0) : w.testBit (Nat.log2 w) = true ∧ ∀ j, Nat.log2 w < j → w.testBit j = false := by
  have h1 := Nat.log2_self_le h0
  have h2 := @Nat.lt_log2_self w
  constructor
  · rw [Nat.testBit_eq_decide_div_mod_eq]
    have : w / 2 ^ Nat.log2 w = 1 := by
      apply Nat.div_eq_of_lt_le
      · omega
      · rw [Nat.pow_succ] at h2; omega
    rw [this]; rfl
  · intro j hj
    apply Nat.testBit_lt_two_pow
    exact Nat.lt_of_lt_of_le h2 (Nat.pow_le_pow_right (by decide) hj)

/-! ### the last number -/
def LastR (p : Nat → Bool) (r : Int × Bool) : Prop :=
  (∃ n : Nat, r = ((n : Int), true) ∧ p n = true ∧ ∀ m, n < m → p m = false) ∨ (r = (0, false) ∧ ∀ m, p m = false)
theorem back_list (l : List Int) (hl : l.length ≤ 200) (hU : UL l) : ∀ (d m : Nat), d ≤ l.length → d < m → slices_Backward_uint64_uint64_1_v1_l0 l m ((d : Int) - 1) = some ((List.range d).reverse.map fun (i : Nat) => ((i : Int), ((wd l i : Nat) : Int))) := by
  intro d
  induction d with
  | zero =>
    intro m h1 h2
    obtain ⟨m, rfl⟩ : ∃ n, m = n + 1 := ⟨m - 1, by omega⟩
    rw [slices_Backward_uint64_uint64_1_v1_l0, if_neg (by simp)]; rfl
  | succ d ih =>
    intro m h1 h2
    obtain ⟨m, rfl⟩ : ∃ n, m = n + 1 := ⟨m - 1, by omega⟩
    rw [slices_Backward_uint64_uint64_1_v1_l0, if_pos (by simp), show ((d + 1 : Nat) : Int) - 1 = (d : Int) by omega, at_wd hU (by omega), Option.bind_some, wrap_i64_of _ (by omega) (by omega), ih m (by omega) (by omega), List.range_succ, List.reverse_append]
    simp
theorem last_l0 {b : api_Bits} {N : Nat} {p : Nat → Bool} (h : Is b N p) (k : Nat) : ∀ d, d ≤ b.Words.length → (∀ n, 64 * d ≤ n → p n = false) → ∃ r, bits_Last_l0 k ((List.range d).reverse.map fun (i : Nat) => ((i : Int), ((wd b.Words i : Nat) : Int))) () = some r ∧ LastR p r := by
  have h1 := h.len; have h2 := h.le
  intro d
  induction d with
  | zero => intro _ h4; exact ⟨(0, false), rfl, .inr ⟨rfl, fun m => h4 m (by omega)⟩⟩
  | succ d ih =>
    intro h3 h4
    rw [List.range_succ, List.reverse_append]
    simp only [List.reverse_cons, List.reverse_nil, List.nil_append, List.singleton_append, List.map_cons]
    rw [bits_Last_l0]
    by_cases hz : wd b.Words d = 0
    · rw [if_neg (by simp [hz])]
      refine ih (by omega) (fun n hn => ?_)
      rcases Nat.lt_or_ge n (64 * (d + 1)) with h5 | h5
      · rw [← h.tb]; unfold tb; rw [show n / 64 = d by omega, hz]; simp
      · exact h4 n h5
    · have hlt := wd_lt h.u d
      obtain ⟨t1, t2⟩ := log2_tb hz
      have h64 : Nat.log2 (wd b.Words d) < 64 := (Nat.log2_lt hz).2 (by have : (2 : Nat) ^ 64 = 18446744073709551616 := by decide
                                                                        omega)
      rw [if_pos (by simpa using hz)]
      simp only
      rw [len64_ev _ hz hlt, Option.bind_some]
      refine ⟨_, rfl, .inl ⟨64 * d + Nat.log2 (wd b.Words d), ?_, ?_, fun m hm => ?_⟩⟩
      · rw [wrap_i64_of (64 * (d : Int)) (by omega) (by omega), wrap_i64_of (64 * (d : Int) + ((Nat.log2 (wd b.Words d) + 1 : Nat) : Int)) (by omega) (by omega), wrap_i64_of _ (by omega) (by omega)]
        congr 1; omega
      · rw [← h.tb, tb_at _ _ _ h64]; exact t1
      · rcases Nat.lt_or_ge m (64 * (d + 1)) with h5 | h5
        · rw [← h.tb, show m = 64 * d + (m - 64 * d) by omega, tb_at _ _ _ (by omega)]
          exact t2 _ (by omega)
        · exact h4 m h5
theorem Last_ev (b : api_Bits) (hb : WF b) (k : Nat) (hk : 300 < k) : ∃ r, bits_Last k b = some r ∧ LastR (pp b) r := by
  unfold bits_Last
  by_cases h : okB b = true
  · have hi := may_is b hb.1
    rw [show mayB b = b by unfold mayB; rw [if_pos h]] at hi
    have h1 := hi.len; have h2 := hi.le
    rw [check_ev b hb.1 hb.2, if_pos h, Option.bind_some, if_neg (by simp)]
    unfold slices_Backward_uint64_uint64 slices_Backward_uint64_uint64_1_v1
    rw [Option.bind_some, wrap_i64_of _ (by omega) (by omega), back_list _ (by omega) hi.u b.Words.length k (Nat.le_refl _) (by omega), Option.bind_some]
    exact last_l0 hi k _ (Nat.le_refl _) (fun n hn => hi.hi n (by omega))
  · rw [check_ev b hb.1 hb.2, if_neg h, Option.bind_some, if_pos (by simp)]
    exact ⟨(0, false), rfl, .inr ⟨rfl, fun m => pp_bad h m⟩⟩
theorem lst_sorted (p : Nat → Bool) (N : Nat) : ∀ d i, (lst p N d i).Pairwise (· < ·) := by
  intro d
  induction d with
  | zero => intro i; exact List.Pairwise.nil
  | succ d ih =>
    intro i; rw [lst]
    split
    · refine List.Pairwise.cons (fun x hx => ?_) (ih _)
      obtain ⟨n, rfl, h1, _⟩ := (lst_mem p N d (i + 1) x).1 hx
      omega
    · exact ih _
theorem last_al {p : Nat → Bool} {N : Nat} {r : Int × Bool} (hN : ∀ n, N ≤ n → p n = false) (h : LastR p r) :
    (r = (0, false) ∧ al p N = []) ∨ ∃ n : Nat, r = ((n : Int), true) ∧ 0 < (al p N).length ∧ (al p N)[(al p N).length - 1]? = some (n : Int) := by
  rcases h with ⟨n, rfl, h1, h2⟩ | ⟨rfl, h1⟩
  · have hn : n < N := by
      rcases Nat.lt_or_ge n N with h | h
      · exact h
      · rw [hN n h] at h1; cases h1
    have hm : (n : Int) ∈ al p N := (al_mem _ _ _).2 ⟨n, rfl, hn, h1⟩
    obtain ⟨j, hj, hje⟩ := List.mem_iff_getElem.1 hm
    have hs : (al p N).Pairwise (· < ·) := lst_sorted p N N 0
    refine .inr ⟨n, rfl, by omega, ?_⟩
    rw [List.getElem?_eq_getElem (by omega)]
    congr 1
    have hlast : (al p N)[(al p N).length - 1] ∈ al p N := List.getElem_mem _
    obtain ⟨m, e, h3, h4⟩ := (al_mem _ _ _).1 hlast
    have h5 : m ≤ n := by
      rcases Nat.lt_or_ge n m with h | h
      · rw [h2 m h] at h4; cases h4
      · exact h
    rcases Nat.lt_or_ge j ((al p N).length - 1) with h6 | h6
    · have := (List.pairwise_iff_getElem.1 hs) j ((al p N).length - 1) hj (by omega) h6
      omega
    · have : j = (al p N).length - 1 := by omega
      subst this; exact hje
  · refine .inl ⟨rfl, lst_stop p N N 0 (fun m _ => h1 m)⟩

/-! ### shifted, by the document -/
theorem rshift_l0 (b : api_Bits) (hb : WF b) (a : Int) (N : Nat) (hN : N ≤ 8192) (t : api_Bits) (ht : t.N = N) (J : List Int → Option api_Bits) : ∀ (d i m : Nat) (W : List Int), i + d = N → d + 9000 < m → UL W → (N : Int) ≤ 64 * W.length →
    riddleref01_Shift_l0 b a t J m ((i : Int), W) = J (pickW N (fun n => (pp b n && (decide (a < N) && decide (a > -(N : Int))))) (fun n => IntKind.i64.wrap (n + a)) d i W) := by
  intro d
  induction d with
  | zero =>
    intro i m W hi hm hU hW
    obtain ⟨m, rfl⟩ : ∃ n, m = n + 1 := ⟨m - 1, by omega⟩
    rw [riddleref01_Shift_l0, if_neg (by simp; omega)]; rfl
  | succ d ih =>
    intro i m W hi hm hU hW
    obtain ⟨m, rfl⟩ : ∃ n, m = n + 1 := ⟨m - 1, by omega⟩
    have hcap := pickW_cap (g := fun n => (pp b n && (decide (a < N) && decide (a > -(N : Int))))) hU hW i ((fun n : Nat => IntKind.i64.wrap (n + a)) i)
    rw [pickW, ← ih (i + 1) m _ (by omega) (by omega) hcap.1 hcap.2, riddleref01_Shift_l0, if_pos (by simp; omega), rhas_ev b hb.1 hb.2 _ _ (by omega), Option.bind_some, hasB_nat, ht, wrap_i64_of (0 - (N : Int)) (by omega) (by omega), Int.zero_sub]
    simp only []
    by_cases h1 : (pp b i && (decide (a < N) && decide (a > -(N : Int)))) = true
    · rw [if_pos h1, if_pos h1, put_ev _ _ hU hW (by omega), Option.bind_some, wrapN i (by omega)]
    · rw [if_neg h1, if_neg h1, wrapN i (by omega)]
theorem rshift_ev (b : api_Bits) (hb : WF b) (a : Int) (k : Nat) (hk : 18000 < k) : ∃ c, riddleref01_Shift k b a = some c ∧ Is c (nN b) (shp (nN b) (pp b) a) := by
  have hi := may_is b hb.1
  have hz := zero_is (nN b) hi.le
  obtain ⟨q, h1, h2⟩ := pick_is (nN b) (fun n => (pp b n && (decide (a < nN b) && decide (a > -(nN b : Int))))) (fun n => IntKind.i64.wrap (n + a)) (nN b) 0 _ _ hz
  have hle := hi.le
  refine ⟨⟨nN b, pickW (nN b) (fun n => (pp b n && (decide (a < nN b) && decide (a > -(nN b : Int))))) (fun n => IntKind.i64.wrap (n + a)) (nN b) 0 (zeroB (nN b)).Words⟩, ?_, h1.congr fun n => ?_⟩
  · unfold riddleref01_Shift
    rw [rmay_ev b hb.1 hb.2 k (by omega), Option.bind_some, hi.n, zero_ev _ hi.le, Option.bind_some]
    simp only [jn]
    rw [show (0 : Int) = ((0 : Nat) : Int) from rfl, rshift_l0 b hb a (nN b) hi.le _ rfl _ (nN b) 0 k _ (by omega) (by omega) hz.u hz.cap.1]; rfl
  · unfold shp
    rw [Bool.eq_iff_iff, h2 n]
    simp only [Bool.and_eq_true, decide_eq_true_eq]
    constructor
    · rintro (h3 | ⟨m, h3, h4, ⟨h5, h6, h7⟩, h8, h9⟩)
      · cases h3
      · rw [wrap_i64_of _ (by omega) (by omega)] at h8
        refine ⟨⟨h9, by omega⟩, ?_⟩
        rw [show ((n : Int) - a).toNat = m by omega]; exact h5
    · rintro ⟨⟨h3, h4⟩, h5⟩
      have h6 : ((n : Int) - a).toNat < nN b := by
        rcases Nat.lt_or_ge ((n : Int) - a).toNat (nN b) with h8 | h8
        · exact h8
        · rw [hi.hi _ h8] at h5; cases h5
      refine .inr ⟨((n : Int) - a).toNat, by omega, by omega, ⟨h5, by omega, by omega⟩, ?_, h3⟩
      rw [wrap_i64_of _ (by omega) (by omega)]; omega
end Go.Proofs.YthmobmginjblhaaDoor
