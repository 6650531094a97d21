/- YtfejcecgnonabaaDoorQc: a part of the proof; see the last text for what is proved. -/
import Derived.Test.YtfejcecgnonabaaDoorQb
set_option linter.unusedVariables false
set_option linter.unusedSimpArgs false
/- Chapter 1, part c: sets of any numbers, and picked ones. -/
namespace Go.Proofs.YtfejcecgnonabaaDoor
open Go.AE

/-! ### held against each other, word by word -/
theorem equalI_l0 (a b : List Int) (hab : a.length = b.length) (hl : a.length < 9223372036854775807) : ∀ (d i m : Nat), i + d = a.length → d < m → (∀ j < i, a[j]? = b[j]?) →
    slices_Equal_int_int_l0 a b (fun _ => some true) m (i : Int) = some (decide (a = b)) := by
  intro d
  induction d with
  | zero =>
    intro i m hi hm hn
    obtain ⟨m, rfl⟩ : ∃ n, m = n + 1 := ⟨m - 1, by omega⟩
    rw [slices_Equal_int_int_l0, if_neg (by simp; omega)]
    have : a = b := List.ext_getElem? fun j => by
      rcases Nat.lt_or_ge j i with h | h
      · exact hn j h
      · rw [List.getElem?_eq_none (by omega), List.getElem?_eq_none (by omega)]
    simp [this]
  | succ d ih =>
    intro i m hi hm hn
    obtain ⟨m, rfl⟩ : ∃ n, m = n + 1 := ⟨m - 1, by omega⟩
    have hlt : i < a.length := by omega
    have hlt2 : i < b.length := by omega
    rw [slices_Equal_int_int_l0, if_pos (by simpa using hlt), at_lt hlt]
    simp only [Option.bind_some]
    rw [at_lt hlt2]
    simp only [Option.bind_some]
    by_cases he : a[i] = b[i]
    · rw [if_neg (by simpa using he), wrapN i (by omega)]
      exact ih (i + 1) m (by omega) (by omega) (fun j hj => by
        rcases Nat.lt_or_ge j i with h | h
        · exact hn j h
        · have : j = i := by omega
          subst this
          rw [List.getElem?_eq_getElem hlt, List.getElem?_eq_getElem hlt2, he])
    · rw [if_pos (by simpa using he)]
      have : a ≠ b := fun h => he (by subst h; rfl)
      simp [this]
theorem equalI_ev (a b : List Int) (hl : a.length < 9223372036854775807) (m : Nat) (hm : a.length < m) : slices_Equal_int_int m a b = some (decide (a = b)) := by
  unfold slices_Equal_int_int
  by_cases h : a.length = b.length
  · rw [if_neg (by simp [h])]
    have := equalI_l0 a b h hl a.length 0 m (by omega) hm (fun j hj => by omega)
    simpa [jn] using this
  · rw [if_pos (by simpa using fun hc => h (by omega))]
    have : a ≠ b := fun hc => h (by rw [hc])
    simp [this]

theorem exact_l0 (a b : List Int) (hab : a.length = b.length) (hl : a.length < 9223372036854775807) : ∀ (x y : Int) (d i m : Nat), i + d = a.length → d < m → (∀ j < i, a[j]? = b[j]?) →
    riddleref01_Exact_l0 ⟨x, a⟩ ⟨y, b⟩ (fun _ => some true) m (i : Int) = some (decide (a = b)) := by
  intro x y d
  induction d with
  | zero =>
    intro i m hi hm hn
    obtain ⟨m, rfl⟩ : ∃ n, m = n + 1 := ⟨m - 1, by omega⟩
    rw [riddleref01_Exact_l0, if_neg (by simp; omega)]
    have : a = b := List.ext_getElem? fun j => by
      rcases Nat.lt_or_ge j i with h | h
      · exact hn j h
      · rw [List.getElem?_eq_none (by omega), List.getElem?_eq_none (by omega)]
    simp [this]
  | succ d ih =>
    intro i m hi hm hn
    obtain ⟨m, rfl⟩ : ∃ n, m = n + 1 := ⟨m - 1, by omega⟩
    have hlt : i < a.length := by omega
    have hlt2 : i < b.length := by omega
    rw [riddleref01_Exact_l0, if_pos (by simpa using hlt), at_lt hlt]
    simp only [Option.bind_some]
    rw [at_lt hlt2]
    simp only [Option.bind_some]
    by_cases he : a[i] = b[i]
    · rw [if_neg (by simpa using he), wrapN i (by omega)]
      exact ih (i + 1) m (by omega) (by omega) (fun j hj => by
        rcases Nat.lt_or_ge j i with h | h
        · exact hn j h
        · have : j = i := by omega
          subst this
          rw [List.getElem?_eq_getElem hlt, List.getElem?_eq_getElem hlt2, he])
    · rw [if_pos (by simpa using he)]
      have : a ≠ b := fun h => he (by subst h; rfl)
      simp [this]

theorem exact_refl (b : api_Bits) (hl : b.Words.length < 9223372036854775807) (k : Nat) (hk : b.Words.length < k) : riddleref01_Exact k b b = some true := by
  obtain ⟨N, W⟩ := b
  unfold riddleref01_Exact
  rw [if_neg (by simp)]
  have := exact_l0 W W rfl hl N N W.length 0 k (by omega) hk (fun j hj => by omega)
  rw [show ((0 : Nat) : Int) = 0 from rfl] at this
  simp only [jn]
  rw [this]; simp
theorem Is.exact {b c : api_Bits} {N : Nat} {p : Nat → Bool} (h : Is b N p) (h' : Is c N p) (k : Nat) (hk : 9000 < k) : riddleref01_Exact k b c = some true := by
  rw [h.uniq h']
  have h1 := h'.len; have h2 := h'.le
  exact exact_refl c (by omega) k (by omega)

/-! ### sets of any numbers -/

theorem new_l0 (N : Nat) (hN : N ≤ 8192) (l : List Int) (hl : l.length ≤ 9223372036854775807) (J : List Int → Option (api_Bits × Int)) : ∀ (d i m : Nat) (W : List Int), i + d = l.length → d < m → UL W → N ≤ 64 * W.length →
    bits_New_l0 N l J m ((i : Int), W) = J ((l.drop i).foldl (putI N) W) := by
  intro d
  induction d with
  | zero =>
    intro i m W hi hm hU hW
    obtain ⟨m, rfl⟩ : ∃ n, m = n + 1 := ⟨m - 1, by omega⟩
    rw [bits_New_l0, if_neg (by simp; omega), List.drop_eq_nil_of_le (by omega)]; rfl
  | succ d ih =>
    intro i m W hi hm hU hW
    obtain ⟨m, rfl⟩ : ∃ n, m = n + 1 := ⟨m - 1, by omega⟩
    have hlt : i < l.length := by omega
    rw [bits_New_l0, if_pos (by simpa using hlt), at_lt hlt, Option.bind_some, List.drop_eq_getElem_cons hlt, List.foldl_cons, wrapN i (by omega)]
    rw [← ih (i + 1) m (putI N W l[i]) (by omega) (by omega) (putI_UL hU _) (by rw [putI_length]; exact hW)]
    generalize l[i] = x
    unfold putI
    by_cases c : 0 ≤ x ∧ x < (N : Int)
    · obtain ⟨n, rfl⟩ := Int.eq_ofNat_of_zero_le c.1
      rw [if_pos (by simpa using c), if_pos c, tdiv_nat _ (by omega), at_wd hU (by omega), Option.bind_some, tmod_nat, min64 _ (by omega), if_pos (by omega), wrap_shl (by omega), setcode hU _ (by omega)]
      rfl
    · rw [if_neg (by simpa using c), if_neg c]

theorem rnew_l0 (N : Nat) (hN : N ≤ 8192) (l : List Int) (hl : l.length ≤ 9223372036854775807) (J : List Int → Option (api_Bits × Int)) : ∀ (d i m : Nat) (W : List Int), i + d = l.length → d < m → UL W → N ≤ 64 * W.length →
    riddleref01_New_l0 l (zeroB N) J m ((i : Int), W) = J ((l.drop i).foldl (putI N) W) := by
  intro d
  induction d with
  | zero =>
    intro i m W hi hm hU hW
    obtain ⟨m, rfl⟩ : ∃ n, m = n + 1 := ⟨m - 1, by omega⟩
    rw [riddleref01_New_l0, if_neg (by simp; omega), List.drop_eq_nil_of_le (by omega)]; rfl
  | succ d ih =>
    intro i m W hi hm hU hW
    obtain ⟨m, rfl⟩ : ∃ n, m = n + 1 := ⟨m - 1, by omega⟩
    have hlt : i < l.length := by omega
    rw [riddleref01_New_l0, if_pos (by simpa using hlt), at_lt hlt, Option.bind_some, List.drop_eq_getElem_cons hlt, List.foldl_cons, wrapN i (by omega)]
    rw [← ih (i + 1) m (putI N W l[i]) (by omega) (by omega) (putI_UL hU _) (by rw [putI_length]; exact hW)]
    rw [show (zeroB N).N = (N : Int) from rfl, put_ev _ _ hU (by omega) (by omega), Option.bind_some]
def newB (a : Int) (l : List Int) : api_Bits × Int := if 0 ≤ a ∧ a ≤ 8192 then (⟨a, l.foldl (putI a) (zeroB a.toNat).Words⟩, 0) else (⟨0, []⟩, 1)
theorem new_ev (a : Int) (l : List Int) (hl : l.length ≤ 9223372036854775807) (k : Nat) (hk : l.length < k) : bits_New k a l = some (newB a l) := by
  unfold bits_New newB
  by_cases c : 0 ≤ a ∧ a ≤ 8192
  · obtain ⟨n, rfl⟩ := Int.eq_ofNat_of_zero_le c.1
    rw [if_neg (by simp; omega), if_pos c, empty_ev n (by omega), Option.bind_some]
    simp only [jn]
    have := new_l0 n (by omega) l hl (fun v7 => some ((api_Bits.mk (zeroB n).N v7), 0)) l.length 0 k (zeroB n).Words (by omega) hk (zero_is n (by omega)).u (by have := (zero_is n (by omega)).cap; simp only [zeroB] at this ⊢; omega)
    rw [show ((0 : Nat) : Int) = 0 from rfl] at this
    rw [this]; rfl
  · rw [if_pos (by simp; omega), if_neg c]
theorem rnew_ev (a : Int) (l : List Int) (hl : l.length ≤ 9223372036854775807) (k : Nat) (hk : l.length < k) : riddleref01_New k a l = some (newB a l) := by
  unfold riddleref01_New newB
  by_cases c : 0 ≤ a ∧ a ≤ 8192
  · obtain ⟨n, rfl⟩ := Int.eq_ofNat_of_zero_le c.1
    rw [if_neg (by simp; omega), if_pos c, zero_ev n (by omega), Option.bind_some]
    simp only [jn]
    have := rnew_l0 n (by omega) l hl (fun v7 => some ((api_Bits.mk (zeroB n).N v7), 0)) l.length 0 k (zeroB n).Words (by omega) hk (zero_is n (by omega)).u (by have := (zero_is n (by omega)).cap; simp only [zeroB] at this ⊢; omega)
    rw [show ((0 : Nat) : Int) = 0 from rfl] at this
    rw [this]; rfl
  · rw [if_pos (by simp; omega), if_neg c]
theorem fold_is (N : Nat) (l : List Int) : ∀ (W : List Int) (p : Nat → Bool), Is ⟨N, W⟩ N p → Is ⟨N, l.foldl (putI N) W⟩ N (fun n => p n || decide (n < N ∧ (n : Int) ∈ l)) := by
  induction l with
  | nil => intro W p h; exact h.congr fun n => by simp
  | cons x l ih =>
    intro W p h
    refine (ih _ _ (h.put x)).congr fun n => ?_
    rw [Bool.or_assoc]; congr 1
    by_cases h : (n : Int) ∈ l <;> by_cases h' : n < N <;> simp [h, h']
theorem new_is (N : Nat) (hN : N ≤ 8192) (l : List Int) : Is (newB N l).1 N (fun n => decide (n < N ∧ (n : Int) ∈ l)) ∧ (newB N l).2 = 0 := by
  unfold newB
  rw [if_pos (by omega)]
  exact ⟨(fold_is N l _ _ (zero_is N hN)).congr fun n => by simp, rfl⟩
theorem new_bad (a : Int) (l : List Int) (h : ¬ (0 ≤ a ∧ a ≤ 8192)) : newB a l = (⟨0, []⟩, 1) := by unfold newB; rw [if_neg h]
theorem new_len (a : Int) (l : List Int) : (newB a l).1.Words.length ≤ 200 := by
  by_cases h : 0 ≤ a ∧ a ≤ 8192
  · obtain ⟨n, rfl⟩ := Int.eq_ofNat_of_zero_le h.1
    have := (new_is n (by omega) l).1
    have h1 := this.len; have h2 := this.le; omega
  · rw [new_bad a l h]; simp

/-! ### picked one by one -/
def pickW (N : Int) (g : Nat → Bool) (h : Nat → Int) : Nat → Nat → List Int → List Int
  | 0, _, w => w
  | d + 1, i, w => pickW N g h d (i + 1) (if g i = true then putI N w (h i) else w)
theorem pick_is (N : Nat) (g : Nat → Bool) (h : Nat → Int) : ∀ (d i : Nat) (W : List Int) (p : Nat → Bool), Is ⟨N, W⟩ N p →
    ∃ q, Is ⟨N, pickW N g h d i W⟩ N q ∧ ∀ n, q n = true ↔ p n = true ∨ ∃ m, i ≤ m ∧ m < i + d ∧ g m = true ∧ (n : Int) = h m ∧ n < N := by
  intro d
  induction d with
  | zero => intro i W p hp; exact ⟨p, hp, fun n => ⟨.inl, fun h => h.elim id fun ⟨m, h1, h2, _⟩ => by omega⟩⟩
  | succ d ih =>
    intro i W p hp
    by_cases hg : g i = true
    · obtain ⟨q, h1, h2⟩ := ih (i + 1) _ _ (hp.put (h i))
      refine ⟨q, by rw [pickW, if_pos hg]; exact h1, fun n => ?_⟩
      rw [h2 n]; simp
      constructor
      · rintro ((h3 | h3) | ⟨m, h3, h4, h5⟩)
        · exact .inl h3
        · exact .inr ⟨i, by omega, by omega, hg, h3⟩
        · exact .inr ⟨m, by omega, by omega, h5⟩
      · rintro (h3 | ⟨m, h3, h4, h5, h6⟩)
        · exact .inl (.inl h3)
        · rcases Nat.lt_or_ge i m with h7 | h7
          · exact .inr ⟨m, by omega, by omega, h5, h6⟩
          · have : m = i := by omega
            subst this; exact .inl (.inr h6)
    · obtain ⟨q, h1, h2⟩ := ih (i + 1) W p hp
      refine ⟨q, by rw [pickW, if_neg hg]; exact h1, fun n => ?_⟩
      rw [h2 n]
      constructor
      · rintro (h3 | ⟨m, h3, h4, h5⟩)
        · exact .inl h3
        · exact .inr ⟨m, by omega, by omega, h5⟩
      · rintro (h3 | ⟨m, h3, h4, h5, h6⟩)
        · exact .inl h3
        · rcases Nat.lt_or_ge i m with h7 | h7
          · exact .inr ⟨m, by omega, by omega, h5, h6⟩
          · have : m = i := by omega
            subst this; exact absurd h5 hg
theorem pickW_cap {N : Int} {g : Nat → Bool} {W : List Int} (hU : UL W) (hW : N ≤ 64 * W.length) (i : Nat) (x : Int) : UL (if g i = true then putI N W x else W) ∧ N ≤ 64 * (if g i = true then putI N W x else W).length := by
  split
  · exact ⟨putI_UL hU _, by rw [putI_length]; exact hW⟩
  · exact ⟨hU, hW⟩
def WF (b : api_Bits) : Prop := UL b.Words ∧ b.Words.length ≤ 9223372036854775807
theorem Is.wf {b : api_Bits} {N : Nat} {p : Nat → Bool} (h : Is b N p) : WF b := ⟨h.u, by have h1 := h.len; have h2 := h.le; omega⟩
theorem hasB_nat (b : api_Bits) (n : Nat) : hasB b (n : Int) = pp b n := by unfold hasB; simp
theorem zero_wf (N : Nat) (h : N ≤ 8192) : WF (zeroB N) := (zero_is N h).wf
/-! ### the law -/
end Go.Proofs.YtfejcecgnonabaaDoor
