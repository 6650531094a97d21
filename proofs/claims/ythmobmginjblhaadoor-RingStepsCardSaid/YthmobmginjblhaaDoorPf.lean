/- YthmobmginjblhaaDoorPf: a part of the proof; see the last text for what is proved. -/
import Derived.Test.YthmobmginjblhaaDoorPe
set_option linter.unusedVariables false
set_option linter.unusedSimpArgs false
/- Chapter 1, part f: the laws of sets; shifted there and back. -/
namespace Go.Proofs.YthmobmginjblhaaDoor
open Go.AE

/-! ### shifted -/
theorem shift_l0 (k : Nat) (N : Nat) (hN : N ≤ 8192) (a : Int) (h0 : -9000 < a) (h1 : a < 9000) (t u : api_Bits) (ht : t.N = N) (hu : u.N = N) : ∀ (l : List Int) (W : List Int), (∀ x ∈ l, 0 ≤ x ∧ x < 9000) → UL W → (N : Int) ≤ 64 * W.length →
    bits_Shift_l0 k a t u l W = some ⟨N, (l.map (· + a)).foldl (putI N) W⟩ := by
  intro l
  induction l with
  | nil => intro W _ _ _; rw [bits_Shift_l0, hu]; rfl
  | cons x l ih =>
    intro W hl hU hW
    have hx := hl x (by simp)
    rw [List.map_cons, List.foldl_cons, ← ih (putI N W (x + a)) (fun y hy => hl y (by simp [hy])) (putI_UL hU _) (by rw [putI_length]; exact hW), bits_Shift_l0, wrap_i64_of (x + a) (by omega) (by omega), ht]
    generalize x + a = y
    unfold putI
    by_cases c : 0 ≤ y ∧ y < (N : Int)
    · obtain ⟨n, rfl⟩ := Int.eq_ofNat_of_zero_le c.1
      rw [if_pos (by simpa using c), if_pos c, tdiv_nat _ (by omega), at_wd hU (by omega), Option.bind_some, tmod_nat, min64 _ (by omega), if_pos (by omega), wrap_shl (by omega), setcode hU _ (by omega)]
      rfl
    · rw [if_neg (by simpa using c), if_neg c]
def shp (N : Nat) (p : Nat → Bool) (a : Int) (n : Nat) : Bool := decide (n < N ∧ 0 ≤ (n : Int) - a) && p ((n : Int) - a).toNat
theorem al_mem (p : Nat → Bool) (N : Nat) (x : Int) : x ∈ al p N ↔ ∃ n : Nat, x = n ∧ n < N ∧ p n = true := by
  unfold al; rw [lst_mem]
  constructor
  · rintro ⟨n, h1, h2, h3, h4, h5⟩; exact ⟨n, h1, h4, h5⟩
  · rintro ⟨n, h1, h2, h3⟩; exact ⟨n, h1, by omega, by omega, h2, h3⟩
theorem shift_ev (b : api_Bits) (hb : WF b) (a : Int) (h0 : -9223372036854775808 ≤ a) (h1 : a < 9223372036854775808) (k : Nat) (hk : 9000 < k) : ∃ c, bits_Shift k b a = some c ∧ Is c (nN b) (shp (nN b) (pp b) a) := by
  have hi := may_is b hb.1
  have hle := hi.le
  have hz := zero_is (nN b) hi.le
  unfold bits_Shift
  rw [own_ev b hb.1 hb.2, Option.bind_some, hi.n, empty_ev _ hi.le, Option.bind_some, wrap_i64_of (0 - ((nN b : Nat) : Int)) (by omega) (by omega)]
  by_cases hc : a ≥ (nN b : Int) ∨ a ≤ 0 - (nN b : Int)
  · rw [if_pos (by simpa using hc)]
    refine ⟨_, rfl, hz.congr fun n => ?_⟩
    unfold shp
    by_cases h2 : n < nN b ∧ 0 ≤ (n : Int) - a
    · rw [hi.hi _ (show nN b ≤ ((n : Int) - a).toNat by omega)]; simp
    · rw [decide_eq_false h2]; rfl
  · obtain ⟨h3, h4⟩ := all_is hi k hk
    rw [if_neg (by simpa using hc), h3, Option.bind_some, h4, Option.bind_some, shift_l0 k (nN b) hi.le a (by omega) (by omega) _ _ hi.n rfl _ _ (fun x hx => by
      obtain ⟨n, rfl, h5, h6⟩ := (al_mem _ _ _).1 hx; omega) hz.u hz.cap.1]
    refine ⟨_, rfl, (fold_is (nN b) _ _ _ hz).congr fun n => ?_⟩
    unfold shp
    rw [Bool.eq_iff_iff]
    simp only [Bool.false_or, decide_eq_true_eq, Bool.and_eq_true, List.mem_map]
    constructor
    · rintro ⟨h5, x, h6, h7⟩
      obtain ⟨m, rfl, h8, h9⟩ := (al_mem _ _ _).1 h6
      refine ⟨⟨h5, by omega⟩, ?_⟩
      rw [show ((n : Int) - a).toNat = m by omega]; exact h9
    · rintro ⟨⟨h5, h6⟩, h7⟩
      refine ⟨h5, (n : Int) - a, (al_mem _ _ _).2 ⟨((n : Int) - a).toNat, by omega, ?_, h7⟩, by omega⟩
      rcases Nat.lt_or_ge ((n : Int) - a).toNat (nN b) with h8 | h8
      · exact h8
      · rw [hi.hi _ h8] at h7; cases h7
theorem shift_is {b : api_Bits} {N : Nat} {p : Nat → Bool} (h : Is b N p) (a : Int) (h0 : -9223372036854775808 ≤ a) (h1 : a < 9223372036854775808) (k : Nat) (hk : 9000 < k) : ∃ c, bits_Shift k b a = some c ∧ Is c N (shp N p a) := by
  obtain ⟨c, h2, h3⟩ := shift_ev b h.wf a h0 h1 k hk
  rw [h.nN, h.pq] at h3
  exact ⟨c, h2, h3⟩

/-! ### there and back -/
theorem lst_filter (p : Nat → Bool) (N : Nat) (g : Int → Bool) : ∀ d i, (lst p N d i).filter g = lst (fun n => p n && g (n : Int)) N d i := by
  intro d
  induction d with
  | zero => intro i; rfl
  | succ d ih =>
    intro i
    rw [lst, lst]
    by_cases h1 : i < N ∧ p i = true
    · rw [if_pos h1, List.filter_cons, ih]
      by_cases h2 : g (i : Int) = true
      · rw [if_pos h2, if_pos ⟨h1.1, by rw [h1.2, h2]; rfl⟩]
      · rw [if_neg h2, if_neg (by simp [h2])]
    · rw [if_neg h1, ih, if_neg (fun h => h1 ⟨h.1, by simp at h; exact h.2.1⟩)]
theorem lst_congr (p q : Nat → Bool) (N : Nat) (h : ∀ n, n < N → p n = q n) : ∀ d i, lst p N d i = lst q N d i := by
  intro d
  induction d with
  | zero => intro i; rfl
  | succ d ih =>
    intro i
    rw [lst, lst, ih]
    by_cases h1 : i < N
    · rw [h i h1]
    · simp [h1]
theorem shp_back (N : Nat) (p : Nat → Bool) (hp : ∀ n, N ≤ n → p n = false) (a : Int) (n : Nat) (h : n < N) : shp N (shp N p a) (-a) n = (p n && decide (0 ≤ (n : Int) + a ∧ (n : Int) + a < N)) := by
  unfold shp
  rw [Bool.eq_iff_iff]
  simp only [Bool.and_eq_true, decide_eq_true_eq]
  constructor
  · rintro ⟨⟨h1, h2⟩, ⟨h3, h4⟩, h5⟩
    rw [show (((((n : Int) - -a).toNat : Nat) : Int) - a).toNat = n by omega] at h5
    exact ⟨h5, by omega, by omega⟩
  · rintro ⟨h1, h2, h3⟩
    refine ⟨⟨h, by omega⟩, ⟨by omega, by omega⟩, ?_⟩
    rw [show (((((n : Int) - -a).toNat : Nat) : Int) - a).toNat = n by omega]; exact h1
end Go.Proofs.YthmobmginjblhaaDoor
