/- YtegjbjnmedgdoaaDoorPc: a part of the proof; see the last text for what is proved. -/
import Derived.Test.YtegjbjnmedgdoaaDoorPa
set_option linter.unusedVariables false
set_option linter.unusedSimpArgs false
/- Chapter 1, part c: sets of any numbers, and picked ones. -/
namespace Go.Proofs.YtegjbjnmedgdoaaDoor
open Go.AE

/-! ### held against each other, word by word -/
theorem equalI_l0 (a b : List Int) (hab : a.length = b.length) (hl : a.length < 9223372036854775807) : ∀ (d i m : Nat), i + d = a.length → d < m → (∀ j < i, a[j]? = b[j]?) →
    slices_Equal_int_int_l0 a b (fun _ => some true) m (i : Int) = some (decide (a = b)) := by
  intro d
  induction d with
  | zero =>
    intro i m hi hm hn
    obtain ⟨m, rfl⟩ : ∃ n, m = n + 1 := ⟨m - 1, by omega⟩
    rw [slices_Equal_int_int_l0, if_neg (by simp; omega)]
    have : a = b := List.ext_getElem? fun j => by
      rcases Nat.lt_or_ge j i with h | h
      · exact hn j h
      · rw [List.getElem?_eq_none (by omega), List.getElem?_eq_none (by omega)]
    simp [this]
  | succ d ih =>
    intro i m hi hm hn
    obtain ⟨m, rfl⟩ : ∃ n, m = n + 1 := ⟨m - 1, by omega⟩
    have hlt : i < a.length := by omega
    have hlt2 : i < b.length := by omega
    rw [slices_Equal_int_int_l0, if_pos (by simpa using hlt), at_lt hlt]
    simp only [Option.bind_some]
    rw [at_lt hlt2]
    simp only [Option.bind_some]
    by_cases he : a[i] = b[i]
    · rw [if_neg (by simpa using he), wrapN i (by omega)]
      exact ih (i + 1) m (by omega) (by omega) (fun j hj => by
        rcases Nat.lt_or_ge j i with h | h
        · exact hn j h
        · have : j = i := by omega
          subst this
          rw [List.getElem?_eq_getElem hlt, List.getElem?_eq_getElem hlt2, he])
    · rw [if_pos (by simpa using he)]
      have : a ≠ b := fun h => he (by subst h; rfl)
      simp [this]
theorem equalI_ev (a b : List Int) (hl : a.length < 9223372036854775807) (m : Nat) (hm : a.length < m) : slices_Equal_int_int m a b = some (decide (a = b)) := by
  unfold slices_Equal_int_int
  by_cases h : a.length = b.length
  · rw [if_neg (by simp [h])]
    have := equalI_l0 a b h hl a.length 0 m (by omega) hm (fun j hj => by omega)
    simpa [jn] using this
  · rw [if_pos (by simpa using fun hc => h (by omega))]
    have : a ≠ b := fun hc => h (by rw [hc])
    simp [this]

/-! ### sets of any numbers -/

theorem new_l0 (N : Nat) (hN : N ≤ 8192) (l : List Int) (hl : l.length ≤ 9223372036854775807) (J : List Int → Option (api_Bits × Int)) : ∀ (d i m : Nat) (W : List Int), i + d = l.length → d < m → UL W → N ≤ 64 * W.length →
    bits_New_l0 N l J m ((i : Int), W) = J ((l.drop i).foldl (putI N) W) := by
  intro d
  induction d with
  | zero =>
    intro i m W hi hm hU hW
    obtain ⟨m, rfl⟩ : ∃ n, m = n + 1 := ⟨m - 1, by omega⟩
    rw [bits_New_l0, if_neg (by simp; omega), List.drop_eq_nil_of_le (by omega)]; rfl
  | succ d ih =>
    intro i m W hi hm hU hW
    obtain ⟨m, rfl⟩ : ∃ n, m = n + 1 := ⟨m - 1, by omega⟩
    have hlt : i < l.length := by omega
    rw [bits_New_l0, if_pos (by simpa using hlt), at_lt hlt, Option.bind_some, List.drop_eq_getElem_cons hlt, List.foldl_cons, wrapN i (by omega)]
    rw [← ih (i + 1) m (putI N W l[i]) (by omega) (by omega) (putI_UL hU _) (by rw [putI_length]; exact hW)]
    generalize l[i] = x
    unfold putI
    by_cases c : 0 ≤ x ∧ x < (N : Int)
    · obtain ⟨n, rfl⟩ := Int.eq_ofNat_of_zero_le c.1
      rw [if_pos (by simpa using c), if_pos c, tdiv_nat _ (by omega), at_wd hU (by omega), Option.bind_some, tmod_nat, min64 _ (by omega), if_pos (by omega), wrap_shl (by omega), setcode hU _ (by omega)]
      rfl
    · rw [if_neg (by simpa using c), if_neg c]

theorem rnew_l0 (N : Nat) (hN : N ≤ 8192) (l : List Int) (hl : l.length ≤ 9223372036854775807) (J : List Int → Option (api_Bits × Int)) : ∀ (d i m : Nat) (W : List Int), i + d = l.length → d < m → UL W → N ≤ 64 * W.length →
    riddleref01_New_l0 l (zeroB N) J m ((i : Int), W) = J ((l.drop i).foldl (putI N) W) := by
  intro d
  induction d with
  | zero =>
    intro i m W hi hm hU hW
    obtain ⟨m, rfl⟩ : ∃ n, m = n + 1 := ⟨m - 1, by omega⟩
    rw [riddleref01_New_l0, if_neg (by simp; omega), List.drop_eq_nil_of_le (by omega)]; rfl
  | succ d ih =>
    intro i m W hi hm hU hW
    obtain ⟨m, rfl⟩ : ∃ n, m = n + 1 := ⟨m - 1, by omega⟩
    have hlt : i < l.length := by omega
    rw [riddleref01_New_l0, if_pos (by simpa using hlt), at_lt hlt, Option.bind_some, List.drop_eq_getElem_cons hlt, List.foldl_cons, wrapN i (by omega)]
    rw [← ih (i + 1) m (putI N W l[i]) (by omega) (by omega) (putI_UL hU _) (by rw [putI_length]; exact hW)]
    rw [show (zeroB N).N = (N : Int) from rfl, put_ev _ _ hU (by omega) (by omega), Option.bind_some]
def newB (a : Int) (l : List Int) : api_Bits × Int := if 0 ≤ a ∧ a ≤ 8192 then (⟨a, l.foldl (putI a) (zeroB a.toNat).Words⟩, 0) else (⟨0, []⟩, 1)
theorem new_ev (a : Int) (l : List Int) (hl : l.length ≤ 9223372036854775807) (k : Nat) (hk : l.length < k) : bits_New k a l = some (newB a l) := by
  unfold bits_New newB
  by_cases c : 0 ≤ a ∧ a ≤ 8192
  · obtain ⟨n, rfl⟩ := Int.eq_ofNat_of_zero_le c.1
    rw [if_neg (by simp; omega), if_pos c, empty_ev n (by omega), Option.bind_some]
    simp only [jn]
    have := new_l0 n (by omega) l hl (fun v7 => some ((api_Bits.mk (zeroB n).N v7), 0)) l.length 0 k (zeroB n).Words (by omega) hk (zero_is n (by omega)).u (by have := (zero_is n (by omega)).cap; simp only [zeroB] at this ⊢; omega)
    rw [show ((0 : Nat) : Int) = 0 from rfl] at this
    rw [this]; rfl
  · rw [if_pos (by simp; omega), if_neg c]
theorem rnew_ev (a : Int) (l : List Int) (hl : l.length ≤ 9223372036854775807) (k : Nat) (hk : l.length < k) : riddleref01_New k a l = some (newB a l) := by
  unfold riddleref01_New newB
  by_cases c : 0 ≤ a ∧ a ≤ 8192
  · obtain ⟨n, rfl⟩ := Int.eq_ofNat_of_zero_le c.1
    rw [if_neg (by simp; omega), if_pos c, zero_ev n (by omega), Option.bind_some]
    simp only [jn]
    have := rnew_l0 n (by omega) l hl (fun v7 => some ((api_Bits.mk (zeroB n).N v7), 0)) l.length 0 k (zeroB n).Words (by omega) hk (zero_is n (by omega)).u (by have := (zero_is n (by omega)).cap; simp only [zeroB] at this ⊢; omega)
    rw [show ((0 : Nat) : Int) = 0 from rfl] at this
    rw [this]; rfl
  · rw [if_pos (by simp; omega), if_neg c]
theorem fold_is (N : Nat) (l : List Int) : ∀ (W : List Int) (p : Nat → Bool), Is ⟨N, W⟩ N p → Is ⟨N, l.foldl (putI N) W⟩ N (fun n => p n || decide (n < N ∧ (n : Int) ∈ l)) := by
  induction l with
  | nil => intro W p h; exact h.congr fun n => by simp
  | cons x l ih =>
    intro W p h
    refine (ih _ _ (h.put x)).congr fun n => ?_
    rw [Bool.or_assoc]; congr 1
    by_cases h : (n : Int) ∈ l <;> by_cases h' : n < N <;> simp [h, h']
theorem new_is (N : Nat) (hN : N ≤ 8192) (l : List Int) : Is (newB N l).1 N (fun n => decide (n < N ∧ (n : Int) ∈ l)) ∧ (newB N l).2 = 0 := by
  unfold newB
  rw [if_pos (by omega)]
  exact ⟨(fold_is N l _ _ (zero_is N hN)).congr fun n => by simp, rfl⟩
theorem new_bad (a : Int) (l : List Int) (h : ¬ (0 ≤ a ∧ a ≤ 8192)) : newB a l = (⟨0, []⟩, 1) := by unfold newB; rw [if_neg h]
theorem new_len (a : Int) (l : List Int) : (newB a l).1.Words.length ≤ 200 := by
  by_cases h : 0 ≤ a ∧ a ≤ 8192
  · obtain ⟨n, rfl⟩ := Int.eq_ofNat_of_zero_le h.1
    have := (new_is n (by omega) l).1
    have h1 := this.len; have h2 := this.le; omega
  · rw [new_bad a l h]; simp

/-! ### picked one by one -/
def pickW (N : Int) (g : Nat → Bool) (h : Nat → Int) : Nat → Nat → List Int → List Int
  | 0, _, w => w
  | d + 1, i, w => pickW N g h d (i + 1) (if g i = true then putI N w (h i) else w)
theorem pick_is (N : Nat) (g : Nat → Bool) (h : Nat → Int) : ∀ (d i : Nat) (W : List Int) (p : Nat → Bool), Is ⟨N, W⟩ N p →
    ∃ q, Is ⟨N, pickW N g h d i W⟩ N q ∧ ∀ n, q n = true ↔ p n = true ∨ ∃ m, i ≤ m ∧ m < i + d ∧ g m = true ∧ (n : Int) = h m ∧ n < N := by
  intro d
  induction d with
  | zero => intro i W p hp; exact ⟨p, hp, fun n => ⟨.inl, fun h => h.elim id fun ⟨m, h1, h2, _⟩ => by omega⟩⟩
  | succ d ih =>
    intro i W p hp
    by_cases hg : g i = true
    · obtain ⟨q, h1, h2⟩ := ih (i + 1) _ _ (hp.put (h i))
      refine ⟨q, by rw [pickW, if_pos hg]; exact h1, fun n => ?_⟩
      rw [h2 n]; simp
      constructor
      · rintro ((h3 | h3) | ⟨m, h3, h4, h5⟩)
        · exact .inl h3
        · exact .inr ⟨i, by omega, by omega, hg, h3⟩
        · exact .inr ⟨m, by omega, by omega, h5⟩
      · rintro (h3 | ⟨m, h3, h4, h5, h6⟩)
        · exact .inl (.inl h3)
        · rcases Nat.lt_or_ge i m with h7 | h7
          · exact .inr ⟨m, by omega, by omega, h5, h6⟩
          · have : m = i := by omega
            subst this; exact .inl (.inr h6)
    · obtain ⟨q, h1, h2⟩ := ih (i + 1) W p hp
      refine ⟨q, by rw [pickW, if_neg hg]; exact h1, fun n => ?_⟩
      rw [h2 n]
      constructor
      · rintro (h3 | ⟨m, h3, h4, h5⟩)
        · exact .inl h3
        · exact .inr ⟨m, by omega, by omega, h5⟩
      · rintro (h3 | ⟨m, h3, h4, h5, h6⟩)
        · exact .inl h3
        · rcases Nat.lt_or_ge i m with h7 | h7
          · exact .inr ⟨m, by omega, by omega, h5, h6⟩
          · have : m = i := by omega
            subst this; exact absurd h5 hg
theorem pickW_cap {N : Int} {g : Nat → Bool} {W : List Int} (hU : UL W) (hW : N ≤ 64 * W.length) (i : Nat) (x : Int) : UL (if g i = true then putI N W x else W) ∧ N ≤ 64 * (if g i = true then putI N W x else W).length := by
  split
  · exact ⟨putI_UL hU _, by rw [putI_length]; exact hW⟩
  · exact ⟨hU, hW⟩
def WF (b : api_Bits) : Prop := UL b.Words ∧ b.Words.length ≤ 9223372036854775807
theorem Is.wf {b : api_Bits} {N : Nat} {p : Nat → Bool} (h : Is b N p) : WF b := ⟨h.u, by have h1 := h.len; have h2 := h.le; omega⟩
theorem hasB_nat (b : api_Bits) (n : Nat) : hasB b (n : Int) = pp b n := by unfold hasB; simp
theorem zero_wf (N : Nat) (h : N ≤ 8192) : WF (zeroB N) := (zero_is N h).wf
/-! ### the law -/
end Go.Proofs.YtegjbjnmedgdoaaDoor
set_option linter.unusedVariables false
set_option linter.unusedSimpArgs false
/- Chapter 1, part d: two sets, word by word. -/
namespace Go.Proofs.YtegjbjnmedgdoaaDoor
open Go.AE

theorem wd_zero (n i : Nat) : wd (List.replicate n 0) i = 0 := by
  unfold wd
  rw [List.getD_eq_getElem?_getD, List.getElem?_replicate]
  split <;> simp
theorem cpy_wd (n : Nat) (m : List Int) (i : Nat) : wd (cpy (List.replicate n 0) m) i = if i < n then wd m i else 0 := by
  unfold cpy wd
  simp only [List.length_replicate, List.drop_replicate]
  rw [List.getD_eq_getElem?_getD, List.getElem?_append]
  simp only [List.length_take]
  by_cases h1 : i < n
  · rw [if_pos h1]
    by_cases h2 : i < m.length
    · rw [if_pos (by omega), List.getElem?_take, if_pos h1, List.getD_eq_getElem?_getD]
    · rw [if_neg (by omega), List.getElem?_replicate, List.getD_eq_getElem?_getD, List.getElem?_eq_none (by omega)]
      split <;> rfl
  · rw [if_neg h1, if_neg (by omega), List.getElem?_replicate]
    split <;> rfl
theorem cpy_UL {n : Nat} {m : List Int} (h : UL m) : UL (cpy (List.replicate n 0) m) := by
  intro x hx
  unfold cpy at hx
  rcases List.mem_append.1 hx with h1 | h1
  · exact h x (List.mem_of_mem_take h1)
  · rw [List.drop_replicate] at h1; rw [List.eq_of_mem_replicate h1]; constructor <;> decide
theorem fit_ev (b : api_Bits) (M : Nat) (p : Nat → Bool) (h : Is b M p) (N : Nat) (hN : N ≤ 8192) : ∃ c, bits_fit b (N : Int) = some c ∧ Is c N (fun n => p n && decide (n < N)) := by
  unfold bits_fit
  rw [empty_ev N hN, Option.bind_some, show (zeroB N).Words = List.replicate ((N + 63) / 64) 0 from rfl, show (zeroB N).N = (N : Int) from rfl]
  have hlen : (cpy (List.replicate ((N + 63) / 64) 0) b.Words).length = (N + 63) / 64 := by rw [cpy_length]; simp
  have hU := cpy_UL (n := (N + 63) / 64) h.u
  have hw := fun i => cpy_wd ((N + 63) / 64) b.Words i
  revert hlen hU hw
  generalize cpy (List.replicate ((N + 63) / 64) 0) b.Words = C
  intro hlen hU hw
  have htb : ∀ n, tb C n = if n / 64 < (N + 63) / 64 then p n else false := fun n => by
    unfold tb; rw [hw]; split
    · exact h.tb n
    · simp
  rw [tmod_nat]
  by_cases hr : N % 64 = 0
  · rw [if_neg (by simp; omega)]
    refine ⟨_, rfl, rfl, hN, hlen, hU, fun n => ?_, fun n hn => by simp; omega⟩
    simp only
    rw [htb]
    by_cases hc : n < N
    · rw [if_pos (by omega)]; simp [hc]
    · rw [if_neg (by omega)]; simp [hc]
  · rw [if_pos (by simp; omega), show (C.length : Int) - 1 = ((C.length - 1 : Nat) : Int) by omega, wrap_i64_of _ (by omega) (by omega), at_wd hU (by omega), Option.bind_some, if_pos (by omega), min64 _ (by omega), wrap_shl (by omega)]
    have hp := two_lt (r := N % 64) (by omega)
    have hp0 : 0 < 2 ^ (N % 64) := Nat.two_pow_pos _
    have e1 : (((2 ^ (N % 64) : Nat) : Int) - 1) = ((2 ^ (N % 64) - 1 : Nat) : Int) := by
      generalize 2 ^ (N % 64) = q at hp0; omega
    rw [e1, wrap_u64_nat _ (by omega), u64_and_nat _ _ (wd_lt hU _) (by omega), Int.toNat_natCast]
    have hlt : wd C (C.length - 1) &&& (2 ^ (N % 64) - 1) < 18446744073709551616 := and_lt (wd_lt hU _)
    refine ⟨_, rfl, rfl, hN, by simp [hlen], UL_set hU hlt, fun n => ?_, fun n hn => by simp; omega⟩
    simp only
    have e2 : tb (C.set (C.length - 1) ((wd C (C.length - 1) &&& (2 ^ (N % 64) - 1) : Nat) : Int)) n = if C.length - 1 = n / 64 then (tb C n && decide (n % 64 < N % 64)) else tb C n := by
      unfold tb; rw [wd_set (by omega)]
      split
      · rename_i e; rw [Nat.testBit_and, Nat.testBit_two_pow_sub_one, e]
      · rfl
    rw [e2, htb]
    by_cases hc : n < N
    · rw [if_pos (show n / 64 < (N + 63) / 64 by omega)]
      split
      · have : n % 64 < N % 64 := by omega
        simp [hc, this]
      · simp [hc]
    · split
      · by_cases h3 : n / 64 < (N + 63) / 64
        · have : ¬ n % 64 < N % 64 := by omega
          simp [this, hc]
        · rw [if_neg h3]; simp [hc]
      · rw [if_neg (by omega)]; simp [hc]

/-! ### joined -/
theorem or_l0 (a b : api_Bits) (h : a.Words.length = b.Words.length) (hA : UL a.Words) (hB : UL b.Words) (hl : a.Words.length ≤ 200) (J : List Int → Option api_Bits) : ∀ (d i m : Nat) (W : List Int), i + d = a.Words.length → d < m → UL W → W.length = a.Words.length →
    (∀ j < i, wd W j = Nat.lor (wd a.Words j) (wd b.Words j)) → (∀ j, i ≤ j → wd W j = wd a.Words j) →
    ∃ R, bits_join_v1_l0 a b J m ((i : Int), W) = J R ∧ UL R ∧ R.length = a.Words.length ∧ ∀ j < a.Words.length, wd R j = Nat.lor (wd a.Words j) (wd b.Words j) := by
  intro d
  induction d with
  | zero =>
    intro i m W hi hm hU hW h1 h2
    obtain ⟨m, rfl⟩ : ∃ n, m = n + 1 := ⟨m - 1, by omega⟩
    exact ⟨W, by rw [bits_join_v1_l0, if_neg (by simp; omega)], hU, hW, fun j hj => h1 j (by omega)⟩
  | succ d ih =>
    intro i m W hi hm hU hW h1 h2
    obtain ⟨m, rfl⟩ : ∃ n, m = n + 1 := ⟨m - 1, by omega⟩
    have hu : Nat.lor (wd a.Words i) (wd b.Words i) < 18446744073709551616 := or_lt (wd_lt hA _) (wd_lt hB _)
    obtain ⟨R, e1, e2, e3, e4⟩ := ih (i + 1) m (W.set i ((Nat.lor (wd a.Words i) (wd b.Words i) : Nat) : Int)) (by omega) (by omega) (UL_set hU hu) (by simp [hW])
      (fun j hj => by
        rw [wd_set (by omega)]
        split
        · rename_i e; rw [← e]
        · exact h1 j (by omega))
      (fun j hj => by rw [wd_set (by omega), if_neg (by omega)]; exact h2 j (by omega))
    refine ⟨R, ?_, e2, e3, e4⟩
    rw [← e1, bits_join_v1_l0, if_pos (by simp; omega), at_wd hU (by omega), Option.bind_some, at_wd hB (by omega), Option.bind_some, bits_Or_1, Option.bind_some, h2 i (Nat.le_refl _), u64_or_nat _ _ (wd_lt hA _) (wd_lt hB _), wrapN i (by omega)]
    rfl
theorem or_ev (a b : api_Bits) (ha : WF a) (hb : WF b) (k : Nat) (hk : 9000 < k) : ∃ c, bits_join_v1 k a b () = some c ∧ Is c (nN a) (fun n => pp a n || (pp b n && decide (n < nN a))) := by
  have hi := may_is a ha.1
  have hj := may_is b hb.1
  have hle := hi.le; have hlen := hi.len
  obtain ⟨c, h1, h2⟩ := fit_ev (mayB b) (nN b) (pp b) hj (nN a) hi.le
  obtain ⟨R, e1, e2, e3, e4⟩ := or_l0 (mayB a) c (by rw [hi.len, h2.len]) hi.u h2.u (by omega) (fun v5 => some ⟨(nN a : Int), v5⟩) (mayB a).Words.length 0 k (mayB a).Words (by omega) (by omega) hi.u rfl (fun j hj => by omega) (fun j _ => rfl)
  refine ⟨⟨(nN a : Int), R⟩, ?_, rfl, hi.le, e3.trans hi.len, e2, fun n => ?_, fun n hn => by rw [pp_hi ha.1 hn]; simp; omega⟩
  · unfold bits_join_v1
    rw [own_ev a ha.1 ha.2, Option.bind_some, own_ev b hb.1 hb.2, Option.bind_some, hi.n, h1, Option.bind_some]
    simp only [jn]
    rw [show (0 : Int) = ((0 : Nat) : Int) from rfl, e1]
  · simp only
    rcases Nat.lt_or_ge n (64 * R.length) with hn | hn
    · have t1 : tb R n = (Nat.lor (wd (mayB a).Words (n / 64)) (wd c.Words (n / 64))).testBit (n % 64) := by unfold tb; rw [e4 _ (by omega)]
      have t2 : (wd (mayB a).Words (n / 64)).testBit (n % 64) = pp a n := hi.tb n
      have t3 : (wd c.Words (n / 64)).testBit (n % 64) = (pp b n && decide (n < nN a)) := h2.tb n
      rw [t1, show Nat.lor _ _ = _ ||| _ from rfl, Nat.testBit_or, t2, t3]
      
    · have q1 := pp_hi ha.1 (b := a) (n := n) (by omega)
      have q2 : ¬ n < nN a := by omega
      rw [tb_out hn, q1]; simp [q2]
theorem and_l0 (a b : api_Bits) (h : a.Words.length = b.Words.length) (hA : UL a.Words) (hB : UL b.Words) (hl : a.Words.length ≤ 200) (J : List Int → Option api_Bits) : ∀ (d i m : Nat) (W : List Int), i + d = a.Words.length → d < m → UL W → W.length = a.Words.length →
    (∀ j < i, wd W j = Nat.land (wd a.Words j) (wd b.Words j)) → (∀ j, i ≤ j → wd W j = wd a.Words j) →
    ∃ R, bits_join_v2_l0 a b J m ((i : Int), W) = J R ∧ UL R ∧ R.length = a.Words.length ∧ ∀ j < a.Words.length, wd R j = Nat.land (wd a.Words j) (wd b.Words j) := by
  intro d
  induction d with
  | zero =>
    intro i m W hi hm hU hW h1 h2
    obtain ⟨m, rfl⟩ : ∃ n, m = n + 1 := ⟨m - 1, by omega⟩
    exact ⟨W, by rw [bits_join_v2_l0, if_neg (by simp; omega)], hU, hW, fun j hj => h1 j (by omega)⟩
  | succ d ih =>
    intro i m W hi hm hU hW h1 h2
    obtain ⟨m, rfl⟩ : ∃ n, m = n + 1 := ⟨m - 1, by omega⟩
    have hu : Nat.land (wd a.Words i) (wd b.Words i) < 18446744073709551616 := and_lt (wd_lt hA _)
    obtain ⟨R, e1, e2, e3, e4⟩ := ih (i + 1) m (W.set i ((Nat.land (wd a.Words i) (wd b.Words i) : Nat) : Int)) (by omega) (by omega) (UL_set hU hu) (by simp [hW])
      (fun j hj => by
        rw [wd_set (by omega)]
        split
        · rename_i e; rw [← e]
        · exact h1 j (by omega))
      (fun j hj => by rw [wd_set (by omega), if_neg (by omega)]; exact h2 j (by omega))
    refine ⟨R, ?_, e2, e3, e4⟩
    rw [← e1, bits_join_v2_l0, if_pos (by simp; omega), at_wd hU (by omega), Option.bind_some, at_wd hB (by omega), Option.bind_some, bits_And_1, Option.bind_some, h2 i (Nat.le_refl _), u64_and_nat _ _ (wd_lt hA _) (wd_lt hB _), wrapN i (by omega)]
    rfl
theorem and_ev (a b : api_Bits) (ha : WF a) (hb : WF b) (k : Nat) (hk : 9000 < k) : ∃ c, bits_join_v2 k a b () = some c ∧ Is c (nN a) (fun n => pp a n && pp b n) := by
  have hi := may_is a ha.1
  have hj := may_is b hb.1
  have hle := hi.le; have hlen := hi.len
  obtain ⟨c, h1, h2⟩ := fit_ev (mayB b) (nN b) (pp b) hj (nN a) hi.le
  obtain ⟨R, e1, e2, e3, e4⟩ := and_l0 (mayB a) c (by rw [hi.len, h2.len]) hi.u h2.u (by omega) (fun v5 => some ⟨(nN a : Int), v5⟩) (mayB a).Words.length 0 k (mayB a).Words (by omega) (by omega) hi.u rfl (fun j hj => by omega) (fun j _ => rfl)
  refine ⟨⟨(nN a : Int), R⟩, ?_, rfl, hi.le, e3.trans hi.len, e2, fun n => ?_, fun n hn => by rw [pp_hi ha.1 hn]; simp⟩
  · unfold bits_join_v2
    rw [own_ev a ha.1 ha.2, Option.bind_some, own_ev b hb.1 hb.2, Option.bind_some, hi.n, h1, Option.bind_some]
    simp only [jn]
    rw [show (0 : Int) = ((0 : Nat) : Int) from rfl, e1]
  · simp only
    rcases Nat.lt_or_ge n (64 * R.length) with hn | hn
    · have t1 : tb R n = (Nat.land (wd (mayB a).Words (n / 64)) (wd c.Words (n / 64))).testBit (n % 64) := by unfold tb; rw [e4 _ (by omega)]
      have t2 : (wd (mayB a).Words (n / 64)).testBit (n % 64) = pp a n := hi.tb n
      have t3 : (wd c.Words (n / 64)).testBit (n % 64) = (pp b n && decide (n < nN a)) := h2.tb n
      rw [t1, show Nat.land _ _ = _ &&& _ from rfl, Nat.testBit_and, t2, t3]
      by_cases hp : pp a n = true
      · have : n < nN a := by
          rcases Nat.lt_or_ge n (nN a) with h' | h'
          · exact h'
          · rw [pp_hi ha.1 h'] at hp; cases hp
        simp [this]
      · simp [hp]
    · have q1 := pp_hi ha.1 (b := a) (n := n) (by omega)
      have q2 : ¬ n < nN a := by omega
      rw [tb_out hn, q1]; simp
def nand (a b : Nat) : Nat := a &&& (18446744073709551615 - b)
theorem nand_tb {a b : Nat} (hb : b < 18446744073709551616) {j : Nat} (hj : j < 64) : (nand a b).testBit j = (a.testBit j && !b.testBit j) := by
  have e : 18446744073709551615 - b = 2 ^ 64 - (b + 1) := by have : (2 : Nat) ^ 64 = 18446744073709551616 := by decide
                                                             omega
  unfold nand
  rw [Nat.testBit_and, e, Nat.testBit_two_pow_sub_succ hb]
  simp [hj]
theorem ror_l0 (b : api_Bits) (hb : WF b) (N : Nat) (hN : N ≤ 8192) (t : api_Bits) (ht : t.N = N) (J : List Int → Option api_Bits) : ∀ (d i m : Nat) (W : List Int), i + d = N → d + 9000 < m → UL W → (N : Int) ≤ 64 * W.length →
    riddleref01_Or_l0 b t J m ((i : Int), W) = J (pickW N (fun n => pp b n) (fun n => (n : Int)) d i W) := by
  intro d
  induction d with
  | zero =>
    intro i m W hi hm hU hW
    obtain ⟨m, rfl⟩ : ∃ n, m = n + 1 := ⟨m - 1, by omega⟩
    rw [riddleref01_Or_l0, if_neg (by simp; omega)]; rfl
  | succ d ih =>
    intro i m W hi hm hU hW
    obtain ⟨m, rfl⟩ : ∃ n, m = n + 1 := ⟨m - 1, by omega⟩
    have hcap := pickW_cap (g := fun n => pp b n) hU hW i ((fun n : Nat => (n : Int)) i)
    rw [pickW, ← ih (i + 1) m _ (by omega) (by omega) hcap.1 hcap.2, riddleref01_Or_l0, if_pos (by simp; omega), rhas_ev b hb.1 hb.2 _ _ (by omega), Option.bind_some, hasB_nat]
    simp only []
    by_cases h1 : pp b i = true
    · rw [if_pos h1, if_pos h1, ht, put_ev _ _ hU hW (by omega), Option.bind_some, wrapN i (by omega)]
    · rw [if_neg h1, if_neg h1, wrapN i (by omega)]
theorem ror_ev (a b : api_Bits) (ha : WF a) (hb : WF b) (k : Nat) (hk : 18000 < k) : ∃ c, riddleref01_Or k a b = some c ∧ Is c (nN a) (fun n => pp a n || (pp b n && decide (n < nN a))) := by
  have hi := may_is a ha.1
  have hle := hi.le
  have hi' : Is ⟨(nN a : Int), (mayB a).Words⟩ (nN a) (pp a) := by rw [← hi.n]; exact hi
  obtain ⟨q, h1, h2⟩ := pick_is (nN a) (fun n => pp b n) (fun n => (n : Int)) (nN a) 0 _ _ hi'
  refine ⟨⟨nN a, pickW (nN a) (fun n => pp b n) (fun n => (n : Int)) (nN a) 0 (mayB a).Words⟩, ?_, h1.congr fun n => ?_⟩
  · unfold riddleref01_Or
    rw [rcopy_ev a ha.1 ha.2 k (by omega), Option.bind_some]
    simp only [jn]
    rw [show (0 : Int) = ((0 : Nat) : Int) from rfl, ror_l0 b hb (nN a) hi.le (mayB a) hi.n _ (nN a) 0 k _ (by omega) (by omega) hi.u hi'.cap.1, hi.n]
  · rw [Bool.eq_iff_iff, h2 n]
    simp
    constructor
    · rintro (h3 | ⟨m, h4, h5, h6, h7⟩)
      · exact .inl h3
      · have : m = n := by omega
        subst this; exact .inr ⟨h5, by omega⟩
    · rintro (h3 | ⟨h3, h4⟩)
      · exact .inl h3
      · exact .inr ⟨n, by omega, h3, rfl, h4⟩
theorem Or_ev (a b : api_Bits) (ha : WF a) (hb : WF b) (k : Nat) (hk : 9000 < k) : ∃ c, bits_Or k a b = some c ∧ Is c (nN a) (fun n => pp a n || (pp b n && decide (n < nN a))) := by
  obtain ⟨c, h1, h2⟩ := or_ev a b ha hb k hk
  exact ⟨c, by unfold bits_Or; rw [h1]; rfl, h2⟩
theorem And_ev (a b : api_Bits) (ha : WF a) (hb : WF b) (k : Nat) (hk : 9000 < k) : ∃ c, bits_And k a b = some c ∧ Is c (nN a) (fun n => pp a n && pp b n) := by
  obtain ⟨c, h1, h2⟩ := and_ev a b ha hb k hk
  exact ⟨c, by unfold bits_And; rw [h1]; rfl, h2⟩
/-! ### the same -/
def sameB (a b : api_Bits) : Bool := decide ((mayB a).N = (mayB b).N ∧ (mayB a).Words = (mayB b).Words)
end Go.Proofs.YtegjbjnmedgdoaaDoor
