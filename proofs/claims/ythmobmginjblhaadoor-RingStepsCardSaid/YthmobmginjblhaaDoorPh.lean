/- YthmobmginjblhaaDoorPh: a part of the proof; see the last text for what is proved. -/
import Derived.Test.YthmobmginjblhaaDoorPg
set_option maxRecDepth 100000
set_option linter.unusedVariables false
set_option linter.unusedSimpArgs false
/- Chapter 13, part h: rings, their states, and how these turn. -/
namespace Go.Proofs.YthmobmginjblhaaDoor
open Go.AE

/-! ### slices and classes -/
theorem index_l0 (a0 : List Int) (a1 : Int) (J : Unit → Option Int) (hl : a0.length ≤ 9223372036854775807) : ∀ (d i m : Nat), i + d = a0.length → d < m → (∀ j < i, a0[j]? ≠ some a1) →
    ∃ r, ((r = -1 ∧ a1 ∉ a0 ∧ slices_Index_int_int_l0 a0 a1 J m (i : Int) = J ()) ∨ (0 ≤ r ∧ a1 ∈ a0 ∧ slices_Index_int_int_l0 a0 a1 J m (i : Int) = some r)) := by
  intro d
  induction d with
  | zero =>
    intro i m hi hm hn
    obtain ⟨m, rfl⟩ : ∃ n, m = n + 1 := ⟨m - 1, by omega⟩
    refine ⟨-1, .inl ⟨rfl, fun hmem => ?_, ?_⟩⟩
    · obtain ⟨j, hj, he⟩ := List.mem_iff_getElem.1 hmem
      exact hn j (by omega) (by rw [List.getElem?_eq_getElem hj, he])
    · rw [slices_Index_int_int_l0, if_neg (by simp; omega)]
  | succ d ih =>
    intro i m hi hm hn
    obtain ⟨m, rfl⟩ : ∃ n, m = n + 1 := ⟨m - 1, by omega⟩
    have hlt : i < a0.length := by omega
    by_cases he : a1 = a0[i]
    · refine ⟨i, .inr ⟨by omega, by rw [he]; exact List.getElem_mem hlt, ?_⟩⟩
      rw [slices_Index_int_int_l0, if_pos (by simpa using hlt), at_lt hlt]
      simp [he]
    · obtain ⟨r, hr⟩ := ih (i + 1) m (by omega) (by omega) (fun j hj => by
        rcases Nat.lt_or_ge j i with h | h
        · exact hn j h
        · have : j = i := by omega
          subst this
          rw [List.getElem?_eq_getElem hlt]
          intro hc; exact he (Option.some.inj hc).symm)
      have hs : slices_Index_int_int_l0 a0 a1 J (m + 1) (i : Int) = slices_Index_int_int_l0 a0 a1 J m ((i + 1 : Nat) : Int) := by
        rw [slices_Index_int_int_l0, if_pos (by simpa using hlt), at_lt hlt]
        simp only [Option.bind_some]
        rw [if_neg (by simpa using he), wrapN i (by omega)]
      exact ⟨r, by rw [hs]; exact hr⟩
theorem contains_ev (l : List Int) (x : Int) (hl : l.length ≤ 9223372036854775807) (m : Nat) (hm : l.length < m) : slices_Contains_int_int m l x = some (decide (x ∈ l)) := by
  obtain ⟨r, hr⟩ := index_l0 l x (fun _ => some (-1)) hl l.length 0 m (by omega) hm (fun j hj => by omega)
  unfold slices_Contains_int_int slices_Index_int_int
  simp only [jn]
  rcases hr with ⟨rfl, hn, he⟩ | ⟨h0, hy, he⟩
  · simp only [Int.natCast_zero] at he
    rw [he]; simp [hn]
  · simp only [Int.natCast_zero] at he
    rw [he]; simp [hy, h0]

theorem rhasL_l0 (a0 : List Int) (a1 : Int) (hl : a0.length ≤ 9223372036854775807) : ∀ (d i m : Nat), i + d = a0.length → d < m → riddleref13_has_l0 a0 a1 (fun _ => some false) m (i : Int) = some (decide (a1 ∈ a0.drop i)) := by
  intro d
  induction d with
  | zero =>
    intro i m hi hm
    obtain ⟨m, rfl⟩ : ∃ n, m = n + 1 := ⟨m - 1, by omega⟩
    rw [riddleref13_has_l0, if_neg (by simp; omega), List.drop_eq_nil_of_le (by omega)]; simp
  | succ d ih =>
    intro i m hi hm
    obtain ⟨m, rfl⟩ : ∃ n, m = n + 1 := ⟨m - 1, by omega⟩
    have hlt : i < a0.length := by omega
    rw [riddleref13_has_l0, if_pos (by simpa using hlt), at_lt hlt, Option.bind_some, List.drop_eq_getElem_cons hlt]
    by_cases he : a0[i] = a1
    · rw [if_pos (by simpa using he)]; simp [he]
    · rw [if_neg (by simpa using he), wrapN i (by omega), ih (i + 1) m (by omega) (by omega)]
      have : ¬ a1 = a0[i] := fun h => he h.symm
      congr 1
      rw [decide_eq_decide, List.mem_cons]
      exact ⟨.inr, fun h => h.resolve_left this⟩
theorem rhasL_ev (l : List Int) (x : Int) (hl : l.length ≤ 9223372036854775807) (m : Nat) (hm : l.length < m) : riddleref13_has m l x = some (decide (x ∈ l)) := by
  unfold riddleref13_has
  simp only [jn]
  rw [show (0 : Int) = ((0 : Nat) : Int) from rfl, rhasL_l0 l x hl l.length 0 m (by omega) hm, List.drop_zero]
def U64c (c : Arr4 Int) : Prop := U64 c.a0 ∧ U64 c.a1 ∧ U64 c.a2 ∧ U64 c.a3
theorem fdiv_u64 {w : Int} (h : U64 w) (r : Nat) : U64 (w.fdiv (2 ^ r)) := by
  obtain ⟨n, rfl⟩ := Int.eq_ofNat_of_zero_le h.1
  have h2 : ((2 : Int) ^ r) = ((2 ^ r : Nat) : Int) := by simp
  have h3 : n / 2 ^ r ≤ n := Nat.div_le_self _ _
  have h4 := h.2
  rw [h2, Int.fdiv_eq_ediv_of_nonneg _ (Int.natCast_nonneg _), ← Int.natCast_ediv]
  generalize n / 2 ^ r = m at h3 ⊢
  constructor <;> omega
theorem get4_u64 {c : Arr4 Int} (h : U64c c) (i : Int) : U64 (get4 c.a0 c.a1 c.a2 c.a3 i) := by
  unfold get4; split
  · exact h.1
  · split
    · exact h.2.1
    · split
      · exact h.2.2.1
      · exact h.2.2.2
def hasC (c : Arr4 Int) (x : Int) : Bool := ((get4 c.a0 c.a1 c.a2 c.a3 (x / 64)).fdiv (2 ^ (x % 64).toNat) % 2) == 1
theorem cHas_ev (c : Arr4 Int) (hc : U64c c) (x : Int) (h0 : 0 ≤ x) (h1 : x < 256) : class_Has c x = some (hasC c x) := by
  have e1 : x.fdiv (2 ^ 6) = x / 64 := by rw [Int.fdiv_eq_ediv_of_nonneg _ (by decide)]; rfl
  have e2 : bits .and .u8 x 63 = x % 64 := u8_and63 x h0 h1
  have e3 : min (x % 64).toNat IntKind.u64.bits = (x % 64).toNat := by simp only [IntKind.bits]; omega
  unfold class_Has
  rw [e1, e2, e3, if_pos (by omega), if_pos (by omega)]
  have := fdiv_u64 (get4_u64 hc (x / 64)) (x % 64).toNat
  rw [u64_and1 _ this.1 this.2]
  rfl
theorem rcHas_ev (c : Arr4 Int) (hc : U64c c) (x : Int) (h0 : 0 ≤ x) (h1 : x < 256) : riddleref02_Has c x = some (hasC c x) := by
  have e1 : IntKind.u8.wrap (x.tdiv 64) = x / 64 := by
    rw [Int.tdiv_eq_ediv_of_nonneg h0]; exact wrap_u8_of _ (by omega) (by omega)
  have e2 : x.tmod 64 = x % 64 := Int.tmod_eq_emod_of_nonneg h0
  have e3 : min (x % 64).toNat IntKind.u64.bits = (x % 64).toNat := by simp only [IntKind.bits]; omega
  unfold riddleref02_Has
  rw [e1, e2, e3, if_pos (by omega), if_pos (by omega)]
  have := fdiv_u64 (get4_u64 hc (x / 64)) (x % 64).toNat
  rw [Int.tmod_eq_emod_of_nonneg this.1]
  rfl

/-! ### rings -/
def okR (r : api_Ring) : Bool := decide (1 ≤ r.Most ∧ r.Most ≤ 1000 ∧ 0 ≤ r.Least ∧ r.Least ≤ r.Most)
def mayR (r : api_Ring) : api_Ring := if okR r = true then r else ⟨⟨0, 0, 0, 0⟩, 0, 1⟩
def MR (r : api_Ring) : Nat := (mayR r).Most.toNat + 1
theorem mayR_ok (r : api_Ring) : 1 ≤ (mayR r).Most ∧ (mayR r).Most ≤ 1000 ∧ 0 ≤ (mayR r).Least ∧ (mayR r).Least ≤ (mayR r).Most := by
  unfold mayR; split
  · rename_i h; exact of_decide_eq_true h
  · exact ⟨by decide, by decide, by decide, by decide⟩
theorem mayR_may (r : api_Ring) : mayR (mayR r) = mayR r := by
  have : okR (mayR r) = true := decide_eq_true (mayR_ok r)
  rw [show mayR (mayR r) = if okR (mayR r) = true then mayR r else ⟨⟨0, 0, 0, 0⟩, 0, 1⟩ from rfl, if_pos this]
theorem MR_may (r : api_Ring) : MR (mayR r) = MR r := by unfold MR; rw [mayR_may]
theorem MR_eq (r : api_Ring) : (mayR r).Most + 1 = (MR r : Int) := by unfold MR; have := mayR_ok r; omega
theorem MR_le (r : api_Ring) : MR r ≤ 1001 := by unfold MR; have := mayR_ok r; omega
theorem mayR_u (r : api_Ring) (h : U64c r.Class) : U64c (mayR r).Class := by
  unfold mayR; split
  · exact h
  · exact ⟨⟨by decide, by decide⟩, ⟨by decide, by decide⟩, ⟨by decide, by decide⟩, ⟨by decide, by decide⟩⟩
theorem check_r (r : api_Ring) : ring_Check r = some (if okR r = true then 0 else 130) := by
  unfold ring_Check
  by_cases h : okR r = true
  · have := of_decide_eq_true h
    rw [if_pos h, if_neg (by simp; omega)]
  · have : ¬ _ := fun hc => h (decide_eq_true hc)
    rw [if_neg h, if_pos (by simp; omega)]
theorem rcheck_r (r : api_Ring) : riddleref13_Check r = some (if okR r = true then 0 else 130) := by
  unfold riddleref13_Check
  by_cases h : okR r = true
  · have := of_decide_eq_true h
    rw [if_pos h, if_neg (by simp; omega)]
  · have : ¬ _ := fun hc => h (decide_eq_true hc)
    rw [if_neg h, if_pos (by simp; omega)]
theorem may_r (r : api_Ring) : ring_may r = some (mayR r) := by
  unfold ring_may mayR
  rw [check_r, Option.bind_some]
  by_cases h : okR r = true
  · rw [if_pos h, if_pos h, if_neg (by simp)]
  · rw [if_neg h, if_neg h, if_pos (by simp)]
theorem rmay_r (r : api_Ring) : riddleref13_may r = some (mayR r) := by
  unfold riddleref13_may mayR
  rw [rcheck_r, Option.bind_some]
  by_cases h : okR r = true
  · rw [if_pos h, if_pos h, if_neg (by simp)]
  · rw [if_neg h, if_neg h, if_pos (by simp)]
theorem newB_nil (N : Nat) (h : N ≤ 8192) : (newB (N : Int) []).1 = zeroB N := by unfold newB; rw [if_pos (by omega)]; rfl
theorem none_r (r : api_Ring) (k : Nat) (hk : 0 < k) : ring_None k r = some (zeroB (MR r)) := by
  have := mayR_ok r; have := MR_le r
  unfold ring_None
  rw [may_r, Option.bind_some, MR_eq, wrap_i64_of _ (by omega) (by omega), new_ev _ _ (by simp) k (by simpa using hk), Option.bind_some, newB_nil _ (by omega)]
theorem rnone_r (r : api_Ring) : riddleref13_None r = some (zeroB (MR r)) := by
  have := mayR_ok r; have := MR_le r
  unfold riddleref13_None
  rw [rmay_r, Option.bind_some, MR_eq, wrap_i64_of _ (by omega) (by omega), zero_ev _ (by omega)]; rfl
def stB (r : api_Ring) (s : api_Bits) : api_Bits := if okB s = true ∧ s.N = (MR r : Int) then s else zeroB (MR r)
theorem stB_may (r : api_Ring) (s : api_Bits) : stB (mayR r) s = stB r s := by unfold stB; rw [MR_may]
theorem stB_is (r : api_Ring) (s : api_Bits) (hs : WF s) : Is (stB r s) (MR r) (tb (stB r s).Words) := by
  have hle := MR_le r
  unfold stB
  split
  · rename_i h
    have := is_of_ok hs.1 h.1
    rw [h.2, Int.toNat_natCast] at this
    exact this
  · exact (zero_is (MR r) (by omega)).congr fun n => ((zero_is (MR r) (by omega)).tb n).symm
theorem stB_of {r : api_Ring} {s : api_Bits} {p : Nat → Bool} (h : Is s (MR r) p) : stB r s = s := by unfold stB; rw [if_pos ⟨h.ok, h.n⟩]
theorem state_r (r : api_Ring) (s : api_Bits) (hs : WF s) (k : Nat) (hk : 0 < k) : ring_state k (mayR r) s = some (stB r s) := by
  have hle := MR_le r
  unfold ring_state stB
  rw [check_ev s hs.1 hs.2, Option.bind_some, MR_eq, wrap_i64_of _ (by omega) (by omega)]
  by_cases h : okB s = true
  · rw [if_pos h]
    by_cases h2 : s.N = (MR r : Int)
    · rw [if_neg (by simp [h2]), if_pos ⟨h, h2⟩]
    · rw [if_pos (by simp [h2]), if_neg (fun hc => h2 hc.2), none_r _ k hk, MR_may]; rfl
  · rw [if_neg h, if_pos (by simp), if_neg (fun hc => h hc.1), none_r _ k hk, MR_may]; rfl
theorem rstate_r (r : api_Ring) (s : api_Bits) (hs : WF s) (k : Nat) (hk : 9000 < k) : riddleref13_state k r s = some (stB r s) := by
  have hle := MR_le r
  unfold riddleref13_state stB
  rw [rcheck_ev s hs.1 hs.2 k hk, Option.bind_some]
  by_cases h : okB s = true
  · rw [if_pos h, if_neg (by simp), rmay_r, Option.bind_some, Option.bind_some, MR_eq, wrap_i64_of _ (by omega) (by omega)]
    by_cases h2 : s.N = (MR r : Int)
    · rw [if_neg (by simp [h2]), if_pos ⟨h, h2⟩]
    · rw [if_pos (by simp [h2]), if_neg (fun hc => h2 hc.2), rnone_r]; rfl
  · rw [if_neg h, if_pos (by simp), Option.bind_some, if_pos rfl, if_neg (fun hc => h hc.1), rnone_r]; rfl

/-! ### one step -/
def trg (N : Nat) (p : Nat → Bool) (n : Nat) : Bool := p n || decide ((n : Int) = 0 ∧ n < N)
theorem trig_r (r : api_Ring) (s : api_Bits) (p : Nat → Bool) (h : Is s (MR r) p) (k : Nat) (hk : 0 < k) : ∃ c, ring_Trigger k r s = some c ∧ Is c (MR r) (trg (MR r) p) := by
  have hw := with_is s h.u 0
  rw [h.nN, h.pq] at hw
  refine ⟨withB s 0, ?_, hw⟩
  unfold ring_Trigger
  rw [may_r, Option.bind_some, state_r r s h.wf k hk, stB_of h, Option.bind_some, with_ev s h.u h.wf.2]; rfl
theorem rtrig_r (r : api_Ring) (s : api_Bits) (p : Nat → Bool) (h : Is s (MR r) p) (k : Nat) (hk : 9000 < k) : ∃ c, riddleref13_Trigger k r s = some c ∧ Is c (MR r) (trg (MR r) p) := by
  have hw := with_is s h.u 0
  rw [h.nN, h.pq] at hw
  refine ⟨withB s 0, ?_, hw⟩
  unfold riddleref13_Trigger
  rw [rstate_r r s h.wf k hk, stB_of h, Option.bind_some, rwith_ev s h.u h.wf.2 _ k hk]; rfl
def nx (r : api_Ring) (p : Nat → Bool) (b : Int) (n : Nat) : Bool := hasC (mayR r).Class b && shp (MR r) p 1 n
theorem next_r (r : api_Ring) (hr : U64c r.Class) (s : api_Bits) (p : Nat → Bool) (h : Is s (MR r) p) (b : Int) (h0 : 0 ≤ b) (h1 : b < 256) (k : Nat) (hk : 9000 < k) : ∃ c, ring_Next k r s b = some c ∧ Is c (MR r) (nx r p b) := by
  have hle := MR_le r
  unfold ring_Next nx
  rw [may_r, Option.bind_some, cHas_ev _ (mayR_u r hr) b h0 h1, Option.bind_some]
  by_cases hc : hasC (mayR r).Class b = true
  · obtain ⟨c, h2, h3⟩ := shift_is h 1 (by decide) (by decide) k hk
    rw [if_neg (by simp [hc]), state_r r s h.wf k (by omega), stB_of h, Option.bind_some, h2]
    exact ⟨c, rfl, h3.congr fun n => by simp [hc]⟩
  · rw [if_pos (by simp [hc]), none_r _ k (by omega), MR_may]
    exact ⟨_, rfl, (zero_is _ (by omega)).congr fun n => by simp [hc]⟩
theorem rnext_r (r : api_Ring) (hr : U64c r.Class) (s : api_Bits) (p : Nat → Bool) (h : Is s (MR r) p) (b : Int) (h0 : 0 ≤ b) (h1 : b < 256) (k : Nat) (hk : 18000 < k) : ∃ c, riddleref13_Next k r s b = some c ∧ Is c (MR r) (nx r p b) := by
  have hle := MR_le r
  unfold riddleref13_Next nx
  rw [rmay_r, Option.bind_some, rcHas_ev _ (mayR_u r hr) b h0 h1, Option.bind_some]
  by_cases hc : hasC (mayR r).Class b = true
  · obtain ⟨c, h2, h3⟩ := rshift_ev s h.wf 1 k hk
    rw [h.nN, h.pq] at h3
    rw [if_neg (by simp [hc]), rstate_r r s h.wf k (by omega), stB_of h, Option.bind_some, h2]
    exact ⟨c, rfl, h3.congr fun n => by simp [hc]⟩
  · rw [if_pos (by simp [hc]), rnone_r]
    exact ⟨_, rfl, (zero_is _ (by omega)).congr fun n => by simp [hc]⟩
def acc (r : api_Ring) (p : Nat → Bool) : Bool := (List.range (MR r)).any fun n => decide ((mayR r).Least ≤ n) && p n
theorem first_acc (r : api_Ring) (p : Nat → Bool) (hp : ∀ n, MR r ≤ n → p n = false) (v : Int × Bool) (h : FirstR p (mayR r).Least.toNat v) : v.2 = acc r p := by
  unfold acc
  rcases h with ⟨n, rfl, h1, h2, _⟩ | ⟨rfl, h1⟩
  · have hn : n < MR r := by
      rcases Nat.lt_or_ge n (MR r) with h | h
      · exact h
      · rw [hp n h] at h2; cases h2
    symm
    rw [List.any_eq_true]
    exact ⟨n, List.mem_range.2 hn, by have : (mayR r).Least ≤ (n : Int) := by omega
                                      simp [this, h2]⟩
  · symm
    rw [List.any_eq_false]
    intro n _
    by_cases h2 : (mayR r).Least ≤ (n : Int)
    · rw [h1 n (by omega)]; simp
    · simp [h2]
theorem acc_r (r : api_Ring) (s : api_Bits) (p : Nat → Bool) (h : Is s (MR r) p) (k : Nat) (hk : 200 < k) : ring_Accepts k r s = some (acc r p) := by
  have hr := mayR_ok r
  obtain ⟨v, h1, h2⟩ := first_is h (mayR r).Least (by omega) k hk
  unfold ring_Accepts
  rw [may_r, Option.bind_some, state_r r s h.wf k (by omega), stB_of h, Option.bind_some, h1, Option.bind_some, first_acc r p h.hi v h2]
theorem racc_r (r : api_Ring) (s : api_Bits) (p : Nat → Bool) (h : Is s (MR r) p) (k : Nat) (hk : 18000 < k) : riddleref13_Accepts k r s = some (acc r p) := by
  have hr := mayR_ok r
  obtain ⟨v, h1, h2⟩ := rFirst_ev s h.wf (mayR r).Least k hk
  rw [h.pq] at h2
  unfold riddleref13_Accepts
  rw [rstate_r r s h.wf k (by omega), stB_of h, Option.bind_some, rmay_r, Option.bind_some, h1, Option.bind_some, first_acc r p h.hi v h2]

/-! ### through bytes -/
def Bytes (w : List Int) : Prop := ∀ x ∈ w, 0 ≤ x ∧ x < 256
theorem run_l0 (r : api_Ring) (hr : U64c r.Class) (w : List Int) (hw : Bytes w) (hl : w.length ≤ 9223372036854775807) (J : Int × List Int → Option api_Bits) : ∀ (d i m : Nat) (N : Int) (W : List Int) (p : Nat → Bool), i + d = w.length → d + 9001 < m → Is ⟨N, W⟩ (MR r) p →
    ∃ c, ring_Run_l0 w (mayR r) J m ((i : Int), N, W) = J (c.N, c.Words) ∧ Is c (MR r) ((w.drop i).foldl (nx r) p) := by
  intro d
  induction d with
  | zero =>
    intro i m N W p hi hm h
    obtain ⟨m, rfl⟩ : ∃ n, m = n + 1 := ⟨m - 1, by omega⟩
    exact ⟨⟨N, W⟩, by rw [ring_Run_l0, if_neg (by simp; omega)], by rw [List.drop_eq_nil_of_le (by omega)]; exact h⟩
  | succ d ih =>
    intro i m N W p hi hm h
    obtain ⟨m, rfl⟩ : ∃ n, m = n + 1 := ⟨m - 1, by omega⟩
    have hlt : i < w.length := by omega
    have hb := hw w[i] (List.getElem_mem hlt)
    obtain ⟨c, h1, h2⟩ := next_r (mayR r) (mayR_u r hr) ⟨N, W⟩ p (by rw [MR_may]; exact h) w[i] hb.1 hb.2 m (by omega)
    have hnx : nx (mayR r) p w[i] = nx r p w[i] := by unfold nx; rw [MR_may, mayR_may]
    rw [MR_may, hnx] at h2
    obtain ⟨e, h3, h4⟩ := ih (i + 1) m c.N c.Words _ (by omega) (by omega) h2
    refine ⟨e, ?_, ?_⟩
    · rw [ring_Run_l0, if_pos (by simpa using hlt), at_lt hlt, Option.bind_some, h1, Option.bind_some, wrapN i (by omega), h3]
    · rw [List.drop_eq_getElem_cons hlt, List.foldl_cons]; exact h4
theorem rrun_l0 (r : api_Ring) (hr : U64c r.Class) (w : List Int) (hw : Bytes w) (hl : w.length ≤ 9223372036854775807) (J : Int × List Int → Option api_Bits) : ∀ (d i m : Nat) (N : Int) (W : List Int) (p : Nat → Bool), i + d = w.length → d + 18001 < m → Is ⟨N, W⟩ (MR r) p →
    ∃ c, riddleref13_Run_l0 r w J m ((i : Int), N, W) = J (c.N, c.Words) ∧ Is c (MR r) ((w.drop i).foldl (nx r) p) := by
  intro d
  induction d with
  | zero =>
    intro i m N W p hi hm h
    obtain ⟨m, rfl⟩ : ∃ n, m = n + 1 := ⟨m - 1, by omega⟩
    exact ⟨⟨N, W⟩, by rw [riddleref13_Run_l0, if_neg (by simp; omega)], by rw [List.drop_eq_nil_of_le (by omega)]; exact h⟩
  | succ d ih =>
    intro i m N W p hi hm h
    obtain ⟨m, rfl⟩ : ∃ n, m = n + 1 := ⟨m - 1, by omega⟩
    have hlt : i < w.length := by omega
    have hb := hw w[i] (List.getElem_mem hlt)
    obtain ⟨c, h1, h2⟩ := rnext_r r hr ⟨N, W⟩ p h w[i] hb.1 hb.2 m (by omega)
    obtain ⟨e, h3, h4⟩ := ih (i + 1) m c.N c.Words _ (by omega) (by omega) h2
    refine ⟨e, ?_, ?_⟩
    · rw [riddleref13_Run_l0, if_pos (by simpa using hlt), at_lt hlt, Option.bind_some, h1, Option.bind_some, wrapN i (by omega), h3]
    · rw [List.drop_eq_getElem_cons hlt, List.foldl_cons]; exact h4
theorem run_r (r : api_Ring) (hr : U64c r.Class) (s : api_Bits) (p : Nat → Bool) (h : Is s (MR r) p) (w : List Int) (hw : Bytes w) (hl : w.length ≤ 9223372036854775807) (k : Nat) (hk : w.length + 9001 < k) : ∃ c, ring_Run k r s w = some c ∧ Is c (MR r) (w.foldl (nx r) p) := by
  unfold ring_Run
  rw [may_r, Option.bind_some, state_r r s h.wf k (by omega), stB_of h, Option.bind_some]
  simp only [jn]
  obtain ⟨c, h1, h2⟩ := run_l0 r hr w hw hl (fun v5 => some (api_Bits.mk v5.1 v5.2)) w.length 0 k s.N s.Words p (by omega) (by omega) h
  exact ⟨c, h1, h2⟩
theorem rrun_r (r : api_Ring) (hr : U64c r.Class) (s : api_Bits) (p : Nat → Bool) (h : Is s (MR r) p) (w : List Int) (hw : Bytes w) (hl : w.length ≤ 9223372036854775807) (k : Nat) (hk : w.length + 18001 < k) : ∃ c, riddleref13_Run k r s w = some c ∧ Is c (MR r) (w.foldl (nx r) p) := by
  unfold riddleref13_Run
  rw [rstate_r r s h.wf k (by omega), stB_of h, Option.bind_some, rcopy_ev s h.u h.wf.2 k (by omega), h.may, Option.bind_some]
  simp only [jn]
  obtain ⟨c, h1, h2⟩ := rrun_l0 r hr w hw hl (fun v5 => some (api_Bits.mk v5.1 v5.2)) w.length 0 k s.N s.Words p (by omega) (by omega) h
  exact ⟨c, h1, h2⟩
theorem oldest_r (r : api_Ring) (s : api_Bits) (p : Nat → Bool) (h : Is s (MR r) p) (k : Nat) (hk : 18000 < k) : ∃ v, ring_Oldest k r s = some v ∧ riddleref13_Oldest k r s = some v := by
  have hle := h.le
  obtain ⟨v, h1, h2⟩ := Last_ev s h.wf k (by omega)
  rw [h.pq] at h2
  refine ⟨v, ?_, ?_⟩
  · unfold ring_Oldest
    rw [may_r, Option.bind_some, state_r r s h.wf k (by omega), stB_of h, Option.bind_some, h1]; rfl
  · have hlen := lst_len p (MR r) (MR r) 0
    unfold riddleref13_Oldest
    rw [rstate_r r s h.wf k (by omega), stB_of h, Option.bind_some, list_ev s h.wf k hk, Option.bind_some, h.pq, h.nN]
    rcases last_al h.hi h2 with ⟨rfl, h3⟩ | ⟨n, rfl, h3, h4⟩
    · rw [h3, if_pos (by simp)]
    · have h5 : (al p (MR r)).length ≤ 8192 := by unfold al; omega
      rw [if_neg (by simp; intro hc; rw [hc] at h3; simp at h3), show (((al p (MR r)).length : Nat) : Int) - 1 = (((al p (MR r)).length - 1 : Nat) : Int) by omega, wrap_i64_of _ (by omega) (by omega), at_nat, h4]; rfl

/-! ### laws -/
theorem live_ev (m : Nat) : riddlelaw13_live (m + 20) = some true := by kernel_rfl
theorem live_k (k : Nat) (h : 20 ≤ k) : riddlelaw13_live k = some true := by
  obtain ⟨m, rfl⟩ : ∃ m, k = m + 20 := ⟨k - 20, by omega⟩
  exact live_ev m
theorem nxt_st (r : api_Ring) (s : api_Bits) (hs : WF s) (k : Nat) : ring_Next k r s = ring_Next k r s := rfl
theorem ringSteps_ev (r : api_Ring) (s : api_Bits) (w : List Int) (hr : U64c r.Class) (hs : WF s) (hw : Bytes w) (hl : w.length ≤ 9223372036854775807) (k : Nat) (hk : w.length + 18001 < k) : riddlelaw13_RingSteps k r s w = some true := by
  have hi := stB_is r s hs
  have hle := MR_le r
  have st1 : ∀ k, 0 < k → ring_state k (mayR r) s = ring_state k (mayR r) (stB r s) := fun k hk => by rw [state_r r s hs k hk, state_r r _ hi.wf k hk, stB_of hi]
  have st2 : riddleref13_state k r s = riddleref13_state k r (stB r s) := by rw [rstate_r r s hs k (by omega), rstate_r r _ hi.wf k (by omega), stB_of hi]
  have e1 : ring_Trigger k r s = ring_Trigger k r (stB r s) := by unfold ring_Trigger; rw [may_r, Option.bind_some, Option.bind_some, st1 k (by omega)]
  have e2 : riddleref13_Trigger k r s = riddleref13_Trigger k r (stB r s) := by unfold riddleref13_Trigger; rw [st2]
  have e3 : ∀ b, ring_Next k r s b = ring_Next k r (stB r s) b := fun b => by unfold ring_Next; rw [may_r, Option.bind_some, Option.bind_some, st1 k (by omega)]
  have e4 : ∀ b, riddleref13_Next k r s b = riddleref13_Next k r (stB r s) b := fun b => by unfold riddleref13_Next; rw [st2]
  have e5 : ring_Accepts k r s = ring_Accepts k r (stB r s) := by unfold ring_Accepts; rw [may_r, Option.bind_some, Option.bind_some, st1 k (by omega)]
  have e6 : riddleref13_Accepts k r s = riddleref13_Accepts k r (stB r s) := by unfold riddleref13_Accepts; rw [st2]
  have e7 : ring_Run k r s w = ring_Run k r (stB r s) w := by unfold ring_Run; rw [may_r, Option.bind_some, Option.bind_some, st1 k (by omega)]
  have e8 : riddleref13_Run k r s w = riddleref13_Run k r (stB r s) w := by unfold riddleref13_Run; rw [st2]
  have e9 : ring_Oldest k r s = ring_Oldest k r (stB r s) := by unfold ring_Oldest; rw [may_r, Option.bind_some, Option.bind_some, st1 k (by omega)]
  have e10 : riddleref13_Oldest k r s = riddleref13_Oldest k r (stB r s) := by unfold riddleref13_Oldest; rw [st2]
  revert hi e1 e2 e3 e4 e5 e6 e7 e8 e9 e10
  clear st1 st2
  generalize stB r s = t
  generalize (tb t.Words) = p
  intro hi e1 e2 e3 e4 e5 e6 e7 e8 e9 e10
  obtain ⟨c1, h1, i1⟩ := trig_r r t p hi k (by omega)
  obtain ⟨c2, h2, i2⟩ := rtrig_r r t p hi k (by omega)
  obtain ⟨c3, h3, i3⟩ := run_r r hr t p hi w hw hl k (by omega)
  obtain ⟨c4, h4, i4⟩ := rrun_r r hr t p hi w hw hl k (by omega)
  obtain ⟨v, h5, h6⟩ := oldest_r r t p hi k (by omega)
  have fin : ∀ b : Int, 0 ≤ b → b < 256 → ((ring_Oldest k r s).bind fun t10_2 => (riddleref13_Oldest k r s).bind fun t11_2 => (ring_Check r).bind fun t12_2 => (riddleref13_Check r).bind fun t12_4 => ((if (t12_2 == t12_4) = true then (ring_None k r).bind fun t12_6 => (riddleref13_None r).bind fun t12_8 => (riddleref01_Exact k t12_6 t12_8).bind fun t12_10 => (if t12_10 = true then (ring_Trigger k r s).bind fun t12_12 => (riddleref13_Trigger k r s).bind fun t12_14 => (riddleref01_Exact k t12_12 t12_14).bind fun t12_16 => (if t12_16 = true then (ring_Next k r s b).bind fun t12_18 => (riddleref13_Next k r s b).bind fun t12_20 => (riddleref01_Exact k t12_18 t12_20).bind fun t12_22 => (if t12_22 = true then (ring_Run k r s w).bind fun t12_24 => (riddleref13_Run k r s w).bind fun t12_26 => (riddleref01_Exact k t12_24 t12_26).bind fun t12_28 => (if t12_28 = true then (ring_Accepts k r s).bind fun t12_30 => (riddleref13_Accepts k r s).bind fun t12_32 => (if (t12_30 == t12_32) = true then (if (t10_2.1 == t11_2.1) = true then some ((t10_2.2 == t11_2.2)) else some false) else some false) else some false) else some false) else some false) else some false) else some false) : Option (Bool)).bind fun v12 => some v12) = some true := by
    intro b h0 h1'
    obtain ⟨c5, h7, i5⟩ := next_r r hr t p hi b h0 h1' k (by omega)
    obtain ⟨c6, h8, i6⟩ := rnext_r r hr t p hi b h0 h1' k (by omega)
    rw [e9, h5, Option.bind_some, e10, h6, Option.bind_some, check_r, Option.bind_some, rcheck_r, Option.bind_some, if_pos (by simp), none_r r k (by omega), Option.bind_some, rnone_r, Option.bind_some, (zero_is (MR r) (by omega)).exact (zero_is (MR r) (by omega)) k (by omega), Option.bind_some, if_pos rfl,
      e1, h1, Option.bind_some, e2, h2, Option.bind_some, i1.exact i2 k (by omega), Option.bind_some, if_pos rfl, e3, h7, Option.bind_some, e4, h8, Option.bind_some, i5.exact i6 k (by omega), Option.bind_some, if_pos rfl,
      e7, h3, Option.bind_some, e8, h4, Option.bind_some, i3.exact i4 k (by omega), Option.bind_some, if_pos rfl, e5, acc_r r t p hi k (by omega), Option.bind_some, e6, racc_r r t p hi k (by omega), Option.bind_some, if_pos (by simp), if_pos (by simp)]
    simp
  unfold riddlelaw13_RingSteps
  rw [live_k k (by omega), Option.bind_some, if_neg (by simp)]
  simp only [jn]
  by_cases hw0 : 0 < w.length
  · have hb := hw w[0] (List.getElem_mem hw0)
    rw [if_pos (by simp; omega), show (0 : Int) = ((0 : Nat) : Int) from rfl, at_lt hw0, Option.bind_some]
    exact fin _ hb.1 hb.2
  · rw [if_neg (by simp only [decide_eq_true_eq]; omega)]
    exact fin 0 (by decide) (by decide)
end Go.Proofs.YthmobmginjblhaaDoor
