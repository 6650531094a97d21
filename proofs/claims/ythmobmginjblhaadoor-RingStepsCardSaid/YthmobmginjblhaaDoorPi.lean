/- YthmobmginjblhaaDoorPi: a part of the proof; see the last text for what is proved. -/
import Derived.Test.YthmobmginjblhaaDoorPh
set_option maxRecDepth 100000
set_option linter.unusedVariables false
set_option linter.unusedSimpArgs false
/- Chapter 13, part i: where a ring accepts, and that it is the repeat. -/
namespace Go.Proofs.YthmobmginjblhaaDoor
open Go.AE

/-! ### where it accepts -/
def st1 (r : api_Ring) (w : List Int) (j : Nat) (p : Nat → Bool) : Nat → Bool := if 0 < j then nx r p (w.getD (j - 1) 0) else p
def st2 (r : api_Ring) (t w : List Int) (j : Nat) (p : Nat → Bool) : Nat → Bool := if (j : Int) ∈ t then trg (MR r) (st1 r w j p) else st1 r w j p
def endsS (r : api_Ring) (t w : List Int) : Nat → Nat → (Nat → Bool) → List Int
  | 0, _, _ => []
  | d + 1, j, p => if acc r (st2 r t w j p) = true then (j : Int) :: endsS r t w d (j + 1) (st2 r t w j p) else endsS r t w d (j + 1) (st2 r t w j p)
theorem ends_len (r : api_Ring) (t w : List Int) : ∀ d j p, (endsS r t w d j p).length ≤ d := by
  intro d
  induction d with
  | zero => intro j p; simp [endsS]
  | succ d ih =>
    intro j p; rw [endsS]; split
    · have := ih (j + 1) (st2 r t w j p); simp; omega
    · have := ih (j + 1) (st2 r t w j p); omega
theorem nx_may (r : api_Ring) : nx (mayR r) = nx r := by funext p b n; unfold nx; rw [MR_may, mayR_may]
theorem acc_may (r : api_Ring) : acc (mayR r) = acc r := by funext p; unfold acc; rw [MR_may, mayR_may]
theorem step1 (r : api_Ring) (hr : U64c r.Class) (w : List Int) (hw : Bytes w) (j : Nat) (hj : j ≤ w.length) (hl : w.length ≤ 100000) (s : api_Bits) (p : Nat → Bool) (h : Is s (MR r) p) (m : Nat) (hm : 9000 < m) (h0 : 0 < j) :
    at_ w (IntKind.i64.wrap ((j : Int) - 1)) = some (w.getD (j - 1) 0) ∧ ∃ c, ring_Next m (mayR r) s (w.getD (j - 1) 0) = some c ∧ Is c (MR r) (st1 r w j p) := by
  have hlt : j - 1 < w.length := by omega
  have hb := hw w[j - 1] (List.getElem_mem hlt)
  have e : w.getD (j - 1) 0 = w[j - 1] := by rw [List.getD_eq_getElem?_getD, List.getElem?_eq_getElem hlt]; rfl
  refine ⟨by rw [show (j : Int) - 1 = ((j - 1 : Nat) : Int) by omega, wrap_i64_of _ (by omega) (by omega), at_lt hlt, e], ?_⟩
  obtain ⟨c, h1, h2⟩ := next_r (mayR r) (mayR_u r hr) s p (by rw [MR_may]; exact h) _ hb.1 hb.2 m hm
  rw [MR_may, nx_may] at h2
  exact ⟨c, by rw [e]; exact h1, by unfold st1; rw [if_pos h0, e]; exact h2⟩
theorem rstep1 (r : api_Ring) (hr : U64c r.Class) (w : List Int) (hw : Bytes w) (j : Nat) (hj : j ≤ w.length) (hl : w.length ≤ 100000) (s : api_Bits) (p : Nat → Bool) (h : Is s (MR r) p) (m : Nat) (hm : 18000 < m) (h0 : 0 < j) :
    at_ w (IntKind.i64.wrap ((j : Int) - 1)) = some (w.getD (j - 1) 0) ∧ ∃ c, riddleref13_Next m r s (w.getD (j - 1) 0) = some c ∧ Is c (MR r) (st1 r w j p) := by
  have hlt : j - 1 < w.length := by omega
  have hb := hw w[j - 1] (List.getElem_mem hlt)
  have e : w.getD (j - 1) 0 = w[j - 1] := by rw [List.getD_eq_getElem?_getD, List.getElem?_eq_getElem hlt]; rfl
  refine ⟨by rw [show (j : Int) - 1 = ((j - 1 : Nat) : Int) by omega, wrap_i64_of _ (by omega) (by omega), at_lt hlt, e], ?_⟩
  obtain ⟨c, h1, h2⟩ := rnext_r r hr s p h _ hb.1 hb.2 m hm
  exact ⟨c, by rw [e]; exact h1, by unfold st1; rw [if_pos h0, e]; exact h2⟩
theorem ends_l0 (r : api_Ring) (hr : U64c r.Class) (t w : List Int) (hw : Bytes w) (hl : w.length ≤ 100000) (ht : t.length ≤ 9223372036854775807) : ∀ (d j m : Nat) (N : Int) (W : List Int) (p : Nat → Bool), j + d = w.length + 1 → d + t.length + 9001 < m → Is ⟨N, W⟩ (MR r) p →
    ring_Ends_1_v1_l0 (mayR r) w t m ((j : Int), N, W) = some (endsS r t w d j p) := by
  intro d
  induction d with
  | zero =>
    intro j m N W p hj hm h
    obtain ⟨m, rfl⟩ : ∃ n, m = n + 1 := ⟨m - 1, by omega⟩
    rw [ring_Ends_1_v1_l0, if_neg (by rw [wrap_i64_of _ (by omega) (by omega)]; simp; omega)]; rfl
  | succ d ih =>
    intro j m N W p hj hm h
    obtain ⟨m, rfl⟩ : ∃ n, m = n + 1 := ⟨m - 1, by omega⟩
    have tail : ∀ (c : api_Bits), Is c (MR r) (st2 r t w j p) → ((ring_Accepts m (mayR r) c).bind fun t51_2 => (if t51_2 = true then (ring_Ends_1_v1_l0 (mayR r) w t m ((IntKind.i64.wrap ((j : Int) + 1)), c.N, c.Words)).map ((j : Int) :: ·) else ring_Ends_1_v1_l0 (mayR r) w t m ((IntKind.i64.wrap ((j : Int) + 1)), c.N, c.Words))) = some (endsS r t w (d + 1) j p) := by
      intro c hc
      rw [acc_r (mayR r) c _ (by rw [MR_may]; exact hc) m (by omega), Option.bind_some, acc_may, wrapN j (by omega), ih (j + 1) m c.N c.Words _ (by omega) (by omega) hc, endsS]
      by_cases ha : acc r (st2 r t w j p) = true
      · rw [if_pos ha, if_pos ha]; rfl
      · rw [if_neg ha, if_neg ha]
    have mid : ∀ (c : api_Bits), Is c (MR r) (st1 r w j p) → ((slices_Contains_int_int m t (j : Int)).bind fun t48_2 => (if t48_2 = true then (ring_Trigger m (mayR r) c).bind fun t50_2 => (ring_Accepts m (mayR r) t50_2).bind fun t51_2 => (if t51_2 = true then (ring_Ends_1_v1_l0 (mayR r) w t m ((IntKind.i64.wrap ((j : Int) + 1)), t50_2.N, t50_2.Words)).map ((j : Int) :: ·) else ring_Ends_1_v1_l0 (mayR r) w t m ((IntKind.i64.wrap ((j : Int) + 1)), t50_2.N, t50_2.Words)) else (ring_Accepts m (mayR r) c).bind fun t54_2 => (if t54_2 = true then (ring_Ends_1_v1_l0 (mayR r) w t m ((IntKind.i64.wrap ((j : Int) + 1)), c.N, c.Words)).map ((j : Int) :: ·) else ring_Ends_1_v1_l0 (mayR r) w t m ((IntKind.i64.wrap ((j : Int) + 1)), c.N, c.Words)))) = some (endsS r t w (d + 1) j p) := by
      intro c hc
      rw [contains_ev t _ ht m (by omega), Option.bind_some]
      by_cases hx : (j : Int) ∈ t
      · obtain ⟨e, h1, h2⟩ := trig_r (mayR r) c _ (by rw [MR_may]; exact hc) m (by omega)
        rw [if_pos (by simpa using hx), h1, Option.bind_some]
        rw [MR_may] at h2
        exact tail e (by unfold st2; rw [if_pos hx]; exact h2)
      · rw [if_neg (by simpa using hx)]
        exact tail c (by unfold st2; rw [if_neg hx]; exact hc)
    rw [ring_Ends_1_v1_l0, if_pos (by rw [wrap_i64_of _ (by omega) (by omega)]; simp; omega)]
    by_cases h0 : 0 < j
    · obtain ⟨h1, c, h2, h3⟩ := step1 r hr w hw j (by omega) hl ⟨N, W⟩ p h m (by omega) h0
      rw [if_pos (by simpa using h0), h1, Option.bind_some, h2, Option.bind_some]
      exact mid c h3
    · rw [if_neg (by simpa using h0)]
      exact mid ⟨N, W⟩ (by unfold st1; rw [if_neg h0]; exact h)
theorem lends_l0 (k : Nat) : ∀ (l a : List Int), a.length + l.length ≤ 200000 → riddlelaw13_ends_l0 k l a = some (a ++ l) := by
  intro l
  induction l with
  | nil => intro a _; rw [riddlelaw13_ends_l0]; simp
  | cons x l ih => intro a h; rw [riddlelaw13_ends_l0, if_pos (by unfold okApp maxLen; simp at h ⊢; omega), ih _ (by simp at h ⊢; omega)]; simp
theorem ends_r (r : api_Ring) (hr : U64c r.Class) (t w : List Int) (hw : Bytes w) (hl : w.length ≤ 100000) (ht : t.length ≤ 9223372036854775807) (k : Nat) (hk : w.length + t.length + 9010 < k) : riddlelaw13_ends k r t w = some (endsS r t w (w.length + 1) 0 (fun _ => false)) := by
  have hle := MR_le r
  have hlen := ends_len r t w (w.length + 1) 0 (fun _ => false)
  unfold riddlelaw13_ends ring_Ends ring_Ends_1_v1
  rw [may_r, Option.bind_some, Option.bind_some]
  simp only []
  rw [none_r _ k (by omega), MR_may, Option.bind_some, show (0 : Int) = ((0 : Nat) : Int) from rfl, ends_l0 r hr t w hw hl ht (w.length + 1) 0 k (zeroB (MR r)).N (zeroB (MR r)).Words (fun _ => false) (by omega) (by omega) (zero_is (MR r) (by omega)), Option.bind_some, lends_l0 k _ _ (by simp; omega)]; rfl
theorem rends_l0 (r : api_Ring) (hr : U64c r.Class) (t w : List Int) (hw : Bytes w) (hl : w.length ≤ 100000) (ht : t.length ≤ 9223372036854775807) (J : List Int → Option (List Int)) : ∀ (d j m : Nat) (a : List Int) (N : Int) (W : List Int) (p : Nat → Bool), j + d = w.length + 1 → d + t.length + 18001 < m → a.length ≤ j → Is ⟨N, W⟩ (MR r) p →
    riddleref13_Ends_l0 r t w J m (a, (j : Int), N, W) = J (a ++ endsS r t w d j p) := by
  intro d
  induction d with
  | zero =>
    intro j m a N W p hj hm ha h
    obtain ⟨m, rfl⟩ : ∃ n, m = n + 1 := ⟨m - 1, by omega⟩
    rw [riddleref13_Ends_l0, if_neg (by simp; omega)]; simp [endsS]
  | succ d ih =>
    intro j m a N W p hj hm ha h
    obtain ⟨m, rfl⟩ : ∃ n, m = n + 1 := ⟨m - 1, by omega⟩
    rw [riddleref13_Ends_l0, if_pos (by simp; omega)]
    simp only [jn]
    have tail : ∀ (c : api_Bits), Is c (MR r) (st2 r t w j p) → ((riddleref13_Accepts m r ((api_Bits.mk c.N c.Words))).bind fun t105_2 => (if t105_2 = true then (if okApp 8 (a.length + ([(j : Int)]).length) then riddleref13_Ends_l0 r t w J m (a ++ ([(j : Int)]), (IntKind.i64.wrap ((j : Int) + 1)), c.N, c.Words) else none) else riddleref13_Ends_l0 r t w J m (a, (IntKind.i64.wrap ((j : Int) + 1)), c.N, c.Words))) = J (a ++ endsS r t w (d + 1) j p) := by
      intro c hc
      rw [racc_r r c _ hc m (by omega), Option.bind_some, wrapN j (by omega), endsS]
      by_cases hx : acc r (st2 r t w j p) = true
      · rw [if_pos hx, if_pos (by unfold okApp maxLen; simp; omega), ih (j + 1) m _ c.N c.Words _ (by omega) (by omega) (by simp; omega) hc, if_pos hx]; simp
      · rw [if_neg hx, ih (j + 1) m _ c.N c.Words _ (by omega) (by omega) (by omega) hc, if_neg hx]
    have mid : ∀ (c : api_Bits), Is c (MR r) (st1 r w j p) → ((riddleref13_has m t (j : Int)).bind fun t101_2 => (if t101_2 = true then (riddleref13_Trigger m r ((api_Bits.mk c.N c.Words))).bind fun t111_2 => (riddleref13_Accepts m r ((api_Bits.mk t111_2.N t111_2.Words))).bind fun t105_2 => (if t105_2 = true then (if okApp 8 (a.length + ([(j : Int)]).length) then riddleref13_Ends_l0 r t w J m (a ++ ([(j : Int)]), (IntKind.i64.wrap ((j : Int) + 1)), t111_2.N, t111_2.Words) else none) else riddleref13_Ends_l0 r t w J m (a, (IntKind.i64.wrap ((j : Int) + 1)), t111_2.N, t111_2.Words)) else (riddleref13_Accepts m r ((api_Bits.mk c.N c.Words))).bind fun t105_2 => (if t105_2 = true then (if okApp 8 (a.length + ([(j : Int)]).length) then riddleref13_Ends_l0 r t w J m (a ++ ([(j : Int)]), (IntKind.i64.wrap ((j : Int) + 1)), c.N, c.Words) else none) else riddleref13_Ends_l0 r t w J m (a, (IntKind.i64.wrap ((j : Int) + 1)), c.N, c.Words)))) = J (a ++ endsS r t w (d + 1) j p) := by
      intro c hc
      rw [rhasL_ev t _ ht m (by omega), Option.bind_some]
      by_cases hx : (j : Int) ∈ t
      · obtain ⟨e, h1, h2⟩ := rtrig_r r c _ hc m (by omega)
        have h1' : riddleref13_Trigger m r (api_Bits.mk c.N c.Words) = some e := h1
        rw [if_pos (by simpa using hx), h1', Option.bind_some]
        exact tail e (by unfold st2; rw [if_pos hx]; exact h2)
      · rw [if_neg (by simpa using hx)]
        exact tail c (by unfold st2; rw [if_neg hx]; exact hc)
    by_cases h0 : 0 < j
    · obtain ⟨h1, c, h2, h3⟩ := rstep1 r hr w hw j (by omega) hl ⟨N, W⟩ p h m (by omega) h0
      rw [if_pos (by simpa using h0), h1, Option.bind_some, h2, Option.bind_some]
      exact mid c h3
    · rw [if_neg (by simpa using h0)]
      exact mid ⟨N, W⟩ (by unfold st1; rw [if_neg h0]; exact h)
theorem rends_r (r : api_Ring) (hr : U64c r.Class) (t w : List Int) (hw : Bytes w) (hl : w.length ≤ 100000) (ht : t.length ≤ 9223372036854775807) (k : Nat) (hk : w.length + t.length + 18010 < k) : riddleref13_Ends k r t w = some (endsS r t w (w.length + 1) 0 (fun _ => false)) := by
  have hle := MR_le r
  unfold riddleref13_Ends
  rw [rnone_r, Option.bind_some]
  simp only [jn]
  rw [show (0 : Int) = ((0 : Nat) : Int) from rfl, rends_l0 r hr t w hw hl ht _ (w.length + 1) 0 k [] (zeroB (MR r)).N (zeroB (MR r)).Words (fun _ => false) (by omega) (by omega) (by simp) (zero_is (MR r) (by omega))]; rfl
theorem sub60 (w : List Int) : sub_ w 0 (minI (w.length : Int) 60) = w.take 60 := by
  unfold sub_ minI
  split
  · simp
  · rename_i h
    rw [List.take_of_length_le (show w.length ≤ 60 by omega)]; simp
theorem lt60 (w : List Int) : (0 : Int) ≤ 0 ∧ 0 ≤ minI (w.length : Int) 60 ∧ minI (w.length : Int) 60 ≤ (w.length : Nat) := by
  unfold minI; split <;> omega
theorem take_bytes {w : List Int} (h : Bytes w) (n : Nat) : Bytes (w.take n) := fun x hx => h x (List.mem_of_mem_take hx)
theorem drop_bytes {w : List Int} (h : Bytes w) (n : Nat) : Bytes (w.drop n) := fun x hx => h x (List.mem_of_mem_drop hx)
theorem ringEnds_ev (r : api_Ring) (t w : List Int) (hr : U64c r.Class) (hw : Bytes w) (ht : t.length ≤ 9223372036854775807) (k : Nat) (hk : t.length + 18100 < k) : riddlelaw13_RingEnds k r t w = some true := by
  have hl : (w.take 60).length ≤ 60 := by simp; omega
  unfold riddlelaw13_RingEnds
  rw [live_k k (by omega), Option.bind_some, if_neg (by simp), if_pos (lt60 w), sub60, ends_r r hr t _ (take_bytes hw 60) (by omega) ht k (by omega), Option.bind_some, rends_r r hr t _ (take_bytes hw 60) (by omega) ht k (by omega), Option.bind_some,
    equalI_ev _ _ (by have := ends_len r t (w.take 60) ((w.take 60).length + 1) 0 (fun _ => false); omega) k (by have := ends_len r t (w.take 60) ((w.take 60).length + 1) 0 (fun _ => false); omega)]
  simp

/-! ### it is the repeat -/
def byt (r : api_Ring) (w : List Int) (i : Nat) : Bool := hasC r.Class (w.getD i 0)
def con (r : api_Ring) (t : List Int) (j i : Nat) : Bool := decide ((j : Int) - i ≥ r.Least) && (decide ((j : Int) - i ≤ r.Most) && decide ((i : Int) ∈ t))
def exI (r : api_Ring) (t w : List Int) (j : Nat) : Nat → Bool
  | 0 => con r t j 0
  | i + 1 => con r t j (i + 1) || (byt r w i && exI r t w j i)
/-- State j: age n. -/
def P (r : api_Ring) (t w : List Int) (j n : Nat) : Prop := n < MR r ∧ n ≤ j ∧ ((j - n : Nat) : Int) ∈ t ∧ ∀ x, j - n ≤ x → x < j → byt r w x = true
theorem exI_iff (r : api_Ring) (t w : List Int) (j : Nat) : ∀ i, exI r t w j i = true ↔ ∃ i', i' ≤ i ∧ con r t j i' = true ∧ ∀ x, i' ≤ x → x < i → byt r w x = true := by
  intro i
  induction i with
  | zero =>
    rw [exI]
    constructor
    · intro h; exact ⟨0, Nat.le_refl _, h, fun x h1 h2 => by omega⟩
    · rintro ⟨i', h1, h2, _⟩
      have : i' = 0 := by omega
      subst this; exact h2
  | succ i ih =>
    rw [exI, Bool.or_eq_true, Bool.and_eq_true, ih]
    constructor
    · rintro (h | ⟨h1, i', h2, h3, h4⟩)
      · exact ⟨i + 1, Nat.le_refl _, h, fun x h1 h2 => by omega⟩
      · refine ⟨i', by omega, h3, fun x h5 h6 => ?_⟩
        rcases Nat.lt_or_ge x i with h7 | h7
        · exact h4 x h5 h7
        · have : x = i := by omega
          subst this; exact h1
    · rintro ⟨i', h1, h2, h3⟩
      rcases Nat.lt_or_ge i i' with h4 | h4
      · have : i' = i + 1 := by omega
        subst this; exact .inl h2
      · exact .inr ⟨h3 i h4 (by omega), i', h4, h2, fun x h5 h6 => h3 x h5 (by omega)⟩
theorem st2_P (r : api_Ring) (hok : mayR r = r) (t w : List Int) (j : Nat) (p : Nat → Bool) (hp : (j = 0 ∧ ∀ n, p n = false) ∨ (0 < j ∧ ∀ n, p n = true ↔ P r t w (j - 1) n)) (n : Nat) : st2 r t w j p n = true ↔ P r t w j n := by
  have hm := MR_le r
  have h2 : 1 < MR r := by have := mayR_ok r; unfold MR; omega
  have e1 : st1 r w j p n = true ↔ (n < MR r ∧ 1 ≤ n ∧ n ≤ j ∧ ((j - n : Nat) : Int) ∈ t ∧ ∀ x, j - n ≤ x → x < j → byt r w x = true) := by
    unfold st1
    rcases hp with ⟨rfl, hp⟩ | ⟨h0, hp⟩
    · rw [if_neg (by omega), hp]
      constructor
      · intro h; cases h
      · rintro ⟨_, h3, h4, _⟩; omega
    · rw [if_pos h0]
      unfold nx shp
      rw [hok]
      simp only [Bool.and_eq_true, decide_eq_true_eq]
      constructor
      · rintro ⟨h3, ⟨h4, h5⟩, h6⟩
        obtain ⟨h7, h8, h9, h10⟩ := (hp _).1 h6
        refine ⟨h4, by omega, by omega, ?_, fun x h11 h12 => ?_⟩
        · rw [show j - n = j - 1 - ((n : Int) - 1).toNat by omega]; exact h9
        · rcases Nat.lt_or_ge x (j - 1) with h13 | h13
          · exact h10 x (by omega) h13
          · have : x = j - 1 := by omega
            subst this; exact h3
      · rintro ⟨h3, h4, h5, h6, h7⟩
        refine ⟨h7 (j - 1) (by omega) (by omega), ⟨h3, by omega⟩, (hp _).2 ⟨by omega, by omega, ?_, fun x h8 h9 => h7 x (by omega) (by omega)⟩⟩
        rw [show j - 1 - ((n : Int) - 1).toNat = j - n by omega]; exact h6
  unfold st2 P
  by_cases ht : (j : Int) ∈ t
  · rw [if_pos ht]
    unfold trg
    rw [Bool.or_eq_true, e1, decide_eq_true_eq]
    constructor
    · rintro (⟨h3, h4, h5, h6, h7⟩ | ⟨h3, h4⟩)
      · exact ⟨h3, h5, h6, h7⟩
      · have : n = 0 := by omega
        subst this
        exact ⟨h4, by omega, ht, fun x h5 h6 => by omega⟩
    · rintro ⟨h3, h4, h5, h6⟩
      rcases Nat.lt_or_ge 0 n with h7 | h7
      · exact .inl ⟨h3, h7, h4, h5, h6⟩
      · exact .inr ⟨by omega, h3⟩
  · rw [if_neg ht, e1]
    constructor
    · rintro ⟨h3, h4, h5, h6, h7⟩; exact ⟨h3, h5, h6, h7⟩
    · rintro ⟨h3, h4, h5, h6⟩
      refine ⟨h3, ?_, h4, h5, h6⟩
      rcases Nat.lt_or_ge 0 n with h7 | h7
      · exact h7
      · have : n = 0 := by omega
        subst this; exact absurd h5 ht
theorem acc_iff (r : api_Ring) (hok : mayR r = r) (hr : 0 ≤ r.Least) (t w : List Int) (j : Nat) (q : Nat → Bool) (hq : ∀ n, q n = true ↔ P r t w j n) : acc r q = exI r t w j j := by
  have hM : (MR r : Int) = r.Most + 1 := by have := MR_eq r; rw [hok] at this; omega
  rw [Bool.eq_iff_iff, exI_iff]
  unfold acc
  rw [List.any_eq_true, hok]
  constructor
  · rintro ⟨n, h1, h2⟩
    rw [Bool.and_eq_true, decide_eq_true_eq] at h2
    obtain ⟨h3, h4, h5, h6⟩ := (hq n).1 h2.2
    refine ⟨j - n, by omega, ?_, h6⟩
    unfold con
    simp only [Bool.and_eq_true, decide_eq_true_eq]
    exact ⟨by omega, by omega, h5⟩
  · rintro ⟨i, h1, h2, h3⟩
    unfold con at h2
    simp only [Bool.and_eq_true, decide_eq_true_eq] at h2
    refine ⟨j - i, List.mem_range.2 (by omega), ?_⟩
    rw [Bool.and_eq_true, decide_eq_true_eq]
    refine ⟨by omega, (hq _).2 ⟨by omega, by omega, ?_, fun x h4 h5 => h3 x (by omega) h5⟩⟩
    rw [show j - (j - i) = i by omega]; exact h2.2.2
theorem ends_mem (r : api_Ring) (hok : mayR r = r) (hr : 0 ≤ r.Least) (t w : List Int) : ∀ (d j : Nat) (p : Nat → Bool), ((j = 0 ∧ ∀ n, p n = false) ∨ (0 < j ∧ ∀ n, p n = true ↔ P r t w (j - 1) n)) →
    ∀ x : Nat, (x : Int) ∈ endsS r t w d j p ↔ (j ≤ x ∧ x < j + d ∧ exI r t w x x = true) := by
  intro d
  induction d with
  | zero => intro j p hp x; simp [endsS]; omega
  | succ d ih =>
    intro j p hp x
    have hq := st2_P r hok t w j p hp
    have hi := ih (j + 1) (st2 r t w j p) (.inr ⟨by omega, hq⟩) x
    have ha := acc_iff r hok hr t w j _ hq
    rw [endsS]
    by_cases h : acc r (st2 r t w j p) = true
    · rw [if_pos h, List.mem_cons, hi]
      constructor
      · rintro (h1 | ⟨h1, h2, h3⟩)
        · have : x = j := by omega
          subst this; exact ⟨by omega, by omega, by rw [← ha]; exact h⟩
        · exact ⟨by omega, by omega, h3⟩
      · rintro ⟨h1, h2, h3⟩
        rcases Nat.lt_or_ge j x with h4 | h4
        · exact .inr ⟨by omega, by omega, h3⟩
        · exact .inl (by omega)
    · rw [if_neg h, hi]
      constructor
      · rintro ⟨h1, h2, h3⟩; exact ⟨by omega, by omega, h3⟩
      · rintro ⟨h1, h2, h3⟩
        rcases Nat.lt_or_ge j x with h4 | h4
        · exact ⟨by omega, by omega, h3⟩
        · have : x = j := by omega
          subst this; rw [ha] at h; exact absurd h3 h
theorem is_l1 (r : api_Ring) (hr : U64c r.Class) (t w : List Int) (w' : List Int) (hw' : sub_ w 0 (minI (w.length : Int) 60) = w') (hw : Bytes w') (ht : t.length ≤ 9223372036854775807) (j : Nat) (hj : j ≤ w'.length) (hl : w'.length ≤ 60) (J : Bool → Option Bool) : ∀ (i m : Nat) (b : Bool), i ≤ j → i + t.length + 2 < m →
    riddlelaw13_RingIs_l1 r t w (j : Int) J m (b, true, (i : Int)) = J (b || exI r t w' j i) := by
  have stop : ∀ m b i, 0 < m → riddlelaw13_RingIs_l1 r t w (j : Int) J m (b, false, i) = J b := by
    intro m b i hm
    obtain ⟨m, rfl⟩ : ∃ n, m = n + 1 := ⟨m - 1, by omega⟩
    rw [riddlelaw13_RingIs_l1, if_neg (by simp)]
  have conE : ∀ (i m : Nat) (b : Bool), i ≤ j → t.length < m → ((if b = true then some true else (if (decide ((IntKind.i64.wrap ((j : Int) - (i : Int))) ≥ r.Least)) = true then (if (decide ((IntKind.i64.wrap ((j : Int) - (i : Int))) ≤ r.Most)) = true then (slices_Contains_int_int m t (i : Int)).bind fun t136_2 => some t136_2 else some false) else some false)) : Option Bool) = some (b || con r t j i) := by
    intro i m b hi hm
    rw [wrap_i64_of _ (by omega) (by omega)]
    unfold con
    by_cases h1 : b = true
    · rw [if_pos h1, h1]; rfl
    · rw [if_neg h1]
      by_cases h2 : (j : Int) - (i : Int) ≥ r.Least
      · rw [if_pos (by simpa using h2)]
        by_cases h3 : (j : Int) - (i : Int) ≤ r.Most
        · rw [if_pos (by simpa using h3), contains_ev t _ ht m hm, Option.bind_some]
          simp only [h1, h2, h3, decide_true, Bool.true_and, Bool.false_or]
        · rw [if_neg (by simpa using h3)]; simp [h1, h3]
      · rw [if_neg (by simpa using h2)]
        have h2' : ¬ (r.Least ≤ (j : Int) - (i : Int)) := h2
        simp [h1, h2']
  intro i
  induction i with
  | zero =>
    intro m b hi hm
    obtain ⟨m, rfl⟩ : ∃ n, m = n + 1 := ⟨m - 1, by omega⟩
    rw [riddlelaw13_RingIs_l1, if_pos (by simp), conE 0 m b (by omega) (by omega), Option.bind_some, if_neg (by simp), Option.bind_some, stop _ _ _ (by omega)]
    rfl
  | succ i ih =>
    intro m b hi hm
    obtain ⟨m, rfl⟩ : ∃ n, m = n + 1 := ⟨m - 1, by omega⟩
    have hlt : i < w'.length := by omega
    have hb := hw w'[i] (List.getElem_mem hlt)
    have e : byt r w' i = hasC r.Class w'[i] := by unfold byt; rw [List.getD_eq_getElem?_getD, List.getElem?_eq_getElem hlt]; rfl
    rw [riddlelaw13_RingIs_l1, if_pos (by simp; omega), conE (i + 1) m b (by omega) (by omega), Option.bind_some, if_pos (by simp), hw', show ((i + 1 : Nat) : Int) - 1 = (i : Int) by omega, wrap_i64_of (i : Int) (by omega) (by omega), at_lt hlt, Option.bind_some, rcHas_ev _ hr _ hb.1 hb.2, Option.bind_some, Option.bind_some]
    by_cases hx : hasC r.Class w'[i] = true
    · rw [hx, ih m _ (by omega) (by omega), exI, e, hx, Bool.true_and, Bool.or_assoc]
    · have hx' : hasC r.Class w'[i] = false := by simpa using hx
      rw [hx', stop _ _ _ (by omega), exI, e, hx', Bool.false_and, Bool.or_false]
theorem is_l0 (r : api_Ring) (hr : U64c r.Class) (t w : List Int) (w' : List Int) (hw' : sub_ w 0 (minI (w.length : Int) 60) = w') (hw : Bytes w') (ht : t.length ≤ 9223372036854775807) (hl : w'.length ≤ 60) (got : List Int) (hgl : got.length ≤ 100)
    (hg : ∀ x : Nat, x ≤ w'.length → ((x : Int) ∈ got ↔ exI r t w' x x = true)) : ∀ (d j m : Nat), j + d = w'.length + 1 → d + t.length + 200 < m → riddlelaw13_RingIs_l0 r t w got (fun _ => some true) m (j : Int) = some true := by
  intro d
  induction d with
  | zero =>
    intro j m hj hm
    obtain ⟨m, rfl⟩ : ∃ n, m = n + 1 := ⟨m - 1, by omega⟩
    rw [riddlelaw13_RingIs_l0, hw', if_neg (by rw [wrap_i64_of _ (by omega) (by omega)]; simp; omega)]
  | succ d ih =>
    intro j m hj hm
    obtain ⟨m, rfl⟩ : ∃ n, m = n + 1 := ⟨m - 1, by omega⟩
    rw [riddlelaw13_RingIs_l0, hw', if_pos (by rw [wrap_i64_of _ (by omega) (by omega)]; simp; omega)]
    simp only [jn]
    rw [is_l1 r hr t w w' hw' hw ht j (by omega) hl _ j m false (Nat.le_refl _) (by omega), Bool.false_or, contains_ev got _ (by omega) m (by omega), Option.bind_some, wrapN j (by omega)]
    have : exI r t w' j j = decide ((j : Int) ∈ got) := by rw [Bool.eq_iff_iff, decide_eq_true_eq]; exact (hg j (by omega)).symm
    rw [this, if_neg (by simp), ih (j + 1) m (by omega) (by omega)]
theorem ringIs_ev (r : api_Ring) (t w : List Int) (hr : U64c r.Class) (hw : Bytes w) (ht : t.length ≤ 9223372036854775807) (k : Nat) (hk : t.length + 18100 < k) : riddlelaw13_RingIs k r t w = some true := by
  have hl : (w.take 60).length ≤ 60 := by simp; omega
  have hlen := ends_len r t (w.take 60) ((w.take 60).length + 1) 0 (fun _ => false)
  unfold riddlelaw13_RingIs
  rw [live_k k (by omega), Option.bind_some, if_neg (by simp), check_r, Option.bind_some]
  by_cases hok : okR r = true
  · have hm : mayR r = r := by unfold mayR; rw [if_pos hok]
    have hR := mayR_ok r
    rw [hm] at hR
    rw [if_pos hok, if_neg (by simp), if_pos (lt60 w), sub60, ends_r r hr t _ (take_bytes hw 60) (by omega) ht k (by omega), Option.bind_some]
    simp only [jn]
    rw [show (0 : Int) = ((0 : Nat) : Int) from rfl]
    refine is_l0 r hr t w (w.take 60) (sub60 w) (take_bytes hw 60) ht hl _ (by omega) (fun x hx => ?_) ((w.take 60).length + 1) 0 k (by omega) (by omega)
    rw [ends_mem r hm hR.2.2.1 t (w.take 60) ((w.take 60).length + 1) 0 (fun _ => false) (.inl ⟨rfl, fun _ => rfl⟩) x]
    constructor
    · exact fun h => h.2.2
    · exact fun h => ⟨by omega, by omega, h⟩
  · rw [if_neg hok, if_pos (by simp)]

/-! ### step by step -/
theorem ringJoins_ev (r : api_Ring) (s : api_Bits) (w : List Int) (hr : U64c r.Class) (hs : WF s) (hw : Bytes w) (hl : w.length ≤ 9223372036854775807) (k : Nat) (hk : w.length + 18001 < k) : riddlelaw13_RingJoins k r s w = some true := by
  have hi := stB_is r s hs
  have hle := MR_le r
  have hR := mayR_ok r
  have e7 : ∀ v, ring_Run k r s v = ring_Run k r (stB r s) v := fun v => by unfold ring_Run; rw [may_r, Option.bind_some, Option.bind_some, state_r r s hs k (by omega), state_r r _ hi.wf k (by omega), stB_of hi]
  have hh : IntKind.i64.wrap ((w.length : Int).tdiv 2) = ((w.length / 2 : Nat) : Int) := by
    have : (w.length : Int).tdiv 2 = ((w.length / 2 : Nat) : Int) := by rw [Int.tdiv_eq_ediv_of_nonneg (by omega)]; omega
    rw [this, wrap_i64_of _ (by omega) (by omega)]
  have s1 : sub_ w 0 ((w.length / 2 : Nat) : Int) = w.take (w.length / 2) := by
    unfold sub_
    rw [show (((w.length / 2 : Nat) : Int) - 0).toNat = w.length / 2 by omega]; rfl
  have s2 : sub_ w ((w.length / 2 : Nat) : Int) (w.length : Int) = w.drop (w.length / 2) := by
    unfold sub_; rw [Int.toNat_natCast, List.take_of_length_le]
    simp; omega
  obtain ⟨c1, h1, i1⟩ := run_r r hr _ _ hi (w.take (w.length / 2)) (take_bytes hw _) (by simp; omega) k (by simp; omega)
  obtain ⟨c2, h2, i2⟩ := run_r r hr _ _ i1 (w.drop (w.length / 2)) (drop_bytes hw _) (by simp; omega) k (by simp; omega)
  obtain ⟨c3, h3, i3⟩ := run_r r hr _ _ hi w hw hl k (by omega)
  rw [← List.foldl_append, List.take_append_drop] at i2
  obtain ⟨b, h4, i4⟩ := trig_r r c2 _ i2 k (by omega)
  unfold riddlelaw13_RingJoins
  rw [live_k k (by omega), Option.bind_some, if_neg (by simp), hh, if_pos (by omega), s1, e7, h1, Option.bind_some, if_pos (by omega), s2, h2, Option.bind_some, h4, Option.bind_some, check_r, Option.bind_some]
  simp only [jn]
  have fin : ∀ M : Int, M + 1 = (MR r : Int) → ((ring_Run k r s w).bind fun t13_2 => (riddleref01_Exact k c2 t13_2).bind fun t13_4 => ((if t13_4 = true then (riddleref01_Check k b).bind fun t13_6 => (if (t13_6 == 0) = true then (if (b.N == (IntKind.i64.wrap (M + 1))) = true then (riddleref01_Has k b 0).bind fun t13_8 => some t13_8 else some false) else some false) else some false) : Option (Bool)).bind fun v13 => some v13) = some true := by
    intro M hM
    rw [e7, h3, Option.bind_some, i2.exact i3 k (by omega), Option.bind_some, if_pos rfl, rcheck_ev b i4.u i4.wf.2 k (by omega), if_pos i4.ok, Option.bind_some, if_pos (by simp), hM, wrap_i64_of _ (by omega) (by omega), i4.n, if_pos (by simp), rhas_ev b i4.u i4.wf.2 0 k (by omega), Option.bind_some]
    have : hasB b 0 = true := by
      have h0 := hasB_nat b 0
      rw [show ((0 : Nat) : Int) = 0 from rfl] at h0
      rw [h0, i4.pp]
      unfold trg
      have : 0 < MR r := by unfold MR; omega
      simp [this]
    rw [this]; rfl
  by_cases hok : okR r = true
  · have hm : mayR r = r := by unfold mayR; rw [if_pos hok]
    rw [if_pos hok, if_neg (by simp)]
    refine fin _ ?_
    have := MR_eq r
    rw [hm] at this; exact this
  · have hm : mayR r = ⟨⟨0, 0, 0, 0⟩, 0, 1⟩ := by unfold mayR; rw [if_neg hok]
    rw [if_neg hok, if_pos (by simp)]
    refine fin _ ?_
    have := MR_eq r
    rw [hm] at this; exact this
end Go.Proofs.YthmobmginjblhaaDoor
