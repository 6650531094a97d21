/- YtfejcecgnonabaaDoorQf: a part of the proof; see the last text for what is proved. -/
import Derived.Test.YtfejcecgnonabaaDoorQe
set_option linter.unusedVariables false
set_option linter.unusedSimpArgs false
/- Chapter 1, part f: the laws of sets; shifted there and back. -/
namespace Go.Proofs.YtfejcecgnonabaaDoor
open Go.AE

theorem Or_is {a b : api_Bits} {N : Nat} {p q : Nat → Bool} (ha : Is a N p) (hb : Is b N q) (k : Nat) (hk : 9000 < k) : ∃ c, bits_Or k a b = some c ∧ Is c N (fun n => p n || q n) := by
  obtain ⟨c, h1, h2⟩ := Or_ev a b ha.wf hb.wf k hk
  rw [ha.nN, ha.pq, hb.pq] at h2
  refine ⟨c, h1, h2.congr fun n => ?_⟩
  rcases Nat.lt_or_ge n N with h | h
  · simp [h]
  · rw [hb.hi n h]; simp
theorem And_is {a b : api_Bits} {N : Nat} {p q : Nat → Bool} (ha : Is a N p) (hb : Is b N q) (k : Nat) (hk : 9000 < k) : ∃ c, bits_And k a b = some c ∧ Is c N (fun n => p n && q n) := by
  obtain ⟨c, h1, h2⟩ := And_ev a b ha.wf hb.wf k hk
  rw [ha.nN, ha.pq, hb.pq] at h2
  exact ⟨c, h1, h2⟩
theorem meet_no {a b : api_Bits} {N : Nat} {p q : Nat → Bool} (ha : Is a N p) (hb : Is b N q) (h : ∀ n, (p n && q n) = false) (k : Nat) (hk : 9000 < k) : bits_Meet k a b = some false := by
  obtain ⟨c, h1, h2⟩ := And_is ha hb k hk
  obtain ⟨r, h3, h4⟩ := first_is h2 0 (by decide) k (by omega)
  unfold bits_Meet
  rw [h1, Option.bind_some, h3, Option.bind_some]
  rcases h4 with ⟨n, rfl, _, h5, _⟩ | ⟨rfl, _⟩
  · have h5' : (p n && q n) = true := h5
    rw [h n] at h5'; cases h5'
  · rfl
/-! ### shifted -/
def shp (N : Nat) (p : Nat → Bool) (a : Int) (n : Nat) : Bool := decide (n < N ∧ 0 ≤ (n : Int) - a) && p ((n : Int) - a).toNat
theorem al_mem (p : Nat → Bool) (N : Nat) (x : Int) : x ∈ al p N ↔ ∃ n : Nat, x = n ∧ n < N ∧ p n = true := by
  unfold al; rw [lst_mem]
  constructor
  · rintro ⟨n, h1, h2, h3, h4, h5⟩; exact ⟨n, h1, h4, h5⟩
  · rintro ⟨n, h1, h2, h3⟩; exact ⟨n, h1, by omega, by omega, h2, h3⟩
/-! ### there and back -/
theorem lst_filter (p : Nat → Bool) (N : Nat) (g : Int → Bool) : ∀ d i, (lst p N d i).filter g = lst (fun n => p n && g (n : Int)) N d i := by
  intro d
  induction d with
  | zero => intro i; rfl
  | succ d ih =>
    intro i
    rw [lst, lst]
    by_cases h1 : i < N ∧ p i = true
    · rw [if_pos h1, List.filter_cons, ih]
      by_cases h2 : g (i : Int) = true
      · rw [if_pos h2, if_pos ⟨h1.1, by rw [h1.2, h2]; rfl⟩]
      · rw [if_neg h2, if_neg (by simp [h2])]
    · rw [if_neg h1, ih, if_neg (fun h => h1 ⟨h.1, by simp at h; exact h.2.1⟩)]
theorem lst_congr (p q : Nat → Bool) (N : Nat) (h : ∀ n, n < N → p n = q n) : ∀ d i, lst p N d i = lst q N d i := by
  intro d
  induction d with
  | zero => intro i; rfl
  | succ d ih =>
    intro i
    rw [lst, lst, ih]
    by_cases h1 : i < N
    · rw [h i h1]
    · simp [h1]
theorem shp_back (N : Nat) (p : Nat → Bool) (hp : ∀ n, N ≤ n → p n = false) (a : Int) (n : Nat) (h : n < N) : shp N (shp N p a) (-a) n = (p n && decide (0 ≤ (n : Int) + a ∧ (n : Int) + a < N)) := by
  unfold shp
  rw [Bool.eq_iff_iff]
  simp only [Bool.and_eq_true, decide_eq_true_eq]
  constructor
  · rintro ⟨⟨h1, h2⟩, ⟨h3, h4⟩, h5⟩
    rw [show (((((n : Int) - -a).toNat : Nat) : Int) - a).toNat = n by omega] at h5
    exact ⟨h5, by omega, by omega⟩
  · rintro ⟨h1, h2, h3⟩
    refine ⟨⟨h, by omega⟩, ⟨by omega, by omega⟩, ?_⟩
    rw [show (((((n : Int) - -a).toNat : Nat) : Int) - a).toNat = n by omega]; exact h1
end Go.Proofs.YtfejcecgnonabaaDoor
