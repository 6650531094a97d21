/- YtfejcecgnonabaaDoorQj: a part of the proof; see the last text for what is proved. -/
import Derived.Test.YtfejcecgnonabaaDoorQh
set_option maxRecDepth 100000
set_option linter.unusedVariables false
set_option linter.unusedSimpArgs false
/- Chapter 11, part j: step by step. -/
namespace Go.Proofs.YtfejcecgnonabaaDoor
open Go.AE

theorem live_ev (m : Nat) : riddlelaw11_live (m + 200) = some true := by kernel_rfl
theorem live_k (k : Nat) (h : 200 ≤ k) : riddlelaw11_live k = some true := by
  obtain ⟨m, rfl⟩ : ∃ m, k = m + 200 := ⟨k - 200, by omega⟩
  exact live_ev m
theorem short_ev (w : List Int) : riddlelaw11_short w = some (w.take 60) := by
  unfold riddlelaw11_short
  rw [if_pos (by unfold minI; split <;> omega)]
  unfold sub_ minI
  split
  · simp
  · rename_i h
    rw [List.take_of_length_le (show w.length ≤ 60 by omega)]; simp
theorem take_bytes {w : List Int} (h : Bytes w) (n : Nat) : Bytes (w.take n) := fun x hx => h x (List.mem_of_mem_take hx)
theorem fold_no (n : api_Nfa) (K : Nat) : ∀ (w : List Int) (p : Nat → Bool), (∀ q, p q = false) → ∀ q, (w.foldl (fun p b => nxN n K p false b) p) q = false
  | [], p, h, q => h q
  | b :: w, p, h, q => fold_no n K w _ (fun q => by
      show nxN n K p false b q = false
      unfold nxN canN
      have : ((List.range K).any fun x => p x && fo n x q) = false := by
        rw [List.any_eq_false]
        intro x _
        rw [h x]; simp
      rw [this]; simp) q
theorem nfaJoins_ev (c : riddlelaw11_Case) (more : List Int) (hn : WFN c.Nfa) (hs : WF c.State) (hw : Bytes c.W) (hv : Bytes more) (k : Nat) (hk : 18200 < k) : riddlelaw11_NfaJoins k c more = some true := by
  obtain ⟨n, s, begin, w, from_, hat, multi⟩ := c
  simp only at hn hs hw
  have hle := (ok_may n hn).le
  have hi : Is (stN (KN n) s) (KN n) (pp (stN (KN n) s)) := stN_is hle s hs
  have hst := stN_of hi
  have st1 : nfa_state k (mayN n) s = nfa_state k (mayN n) (stN (KN n) s) := by rw [state_n n hn s hs k (by omega), state_n n hn _ hi.wf k (by omega), hst]
  have m1 := nmay_ev n hn k (by omega)
  have e5 : ∀ v, nfa_Run k n s v = nfa_Run k n (stN (KN n) s) v := fun v => by unfold nfa_Run; rw [m1, Option.bind_some, Option.bind_some, st1]
  have hl : (w.take 60).length ≤ 60 := by simp; omega
  have hl2 : (more.take 60).length ≤ 60 := by simp; omega
  have hb := take_bytes hw 60
  have hb2 := take_bytes hv 60
  obtain ⟨c1, h1, i1⟩ := nrun_n n hn _ _ hi _ hb (by omega) k (by omega)
  obtain ⟨c2, h2, i2⟩ := nrun_n n hn _ _ i1 _ hb2 (by omega) k (by omega)
  obtain ⟨c3, h3, i3⟩ := nrun_n n hn _ _ hi (w.take 60 ++ more.take 60) (fun x hx => by
    rcases List.mem_append.1 hx with h | h
    · exact hb x h
    · exact hb2 x h) (by rw [List.length_append]; omega) k (by rw [List.length_append]; omega)
  have z := zero_is (KN n) (by omega)
  obtain ⟨c4, h4, i4⟩ := nrun_n n hn _ _ z _ hb (by omega) k (by omega)
  rw [← List.foldl_append] at i2
  have e6 : slices_Clone_byte_byte (w.take 60) = some (w.take 60) := by
    unfold slices_Clone_byte_byte
    rw [if_pos]
    · rfl
    · unfold okApp maxLen; simp; omega
  have e7 : nfa_Dead k n c4 = some true := by
    obtain ⟨r, e3, e4⟩ := first_is i4 0 (by decide) k (by omega)
    unfold nfa_Dead
    rw [m1, Option.bind_some, state_n n hn c4 i4.wf k (by omega), stN_of i4, Option.bind_some, e3, Option.bind_some]
    rcases e4 with ⟨q, rfl, _, h5, _⟩ | ⟨rfl, _⟩
    · rw [fold_no _ _ _ _ (fun _ => rfl)] at h5; cases h5
    · rfl
  unfold riddlelaw11_NfaJoins
  rw [live_k k (by omega), Option.bind_some, if_neg (by simp), short_ev, Option.bind_some, short_ev, Option.bind_some, e5, h1, Option.bind_some, h2, Option.bind_some, e6, Option.bind_some, if_pos (by unfold okApp maxLen; omega), e5, h3, Option.bind_some, i2.exact i3 k (by omega), Option.bind_some, if_pos rfl, nnone_ev n hn k (by omega), Option.bind_some, h4, Option.bind_some, e7]
  rfl
end Go.Proofs.YtfejcecgnonabaaDoor
