/- YthjncgigdkdepaaDoorPf: a part of the proof; see the last text for what is proved. -/
import Derived.Test.YthjncgigdkdepaaDoorPe
import Derived.Test.YthjncgigdkdepaaDoorPn
set_option linter.unusedVariables false
set_option linter.unusedSimpArgs false
/- Chapter 1, part f: the laws of sets; shifted there and back. -/
namespace Go.Proofs.YthjncgigdkdepaaDoor
open Go.AE

theorem Or_is {a b : api_Bits} {N : Nat} {p q : Nat → Bool} (ha : Is a N p) (hb : Is b N q) (k : Nat) (hk : 9000 < k) : ∃ c, bits_Or k a b = some c ∧ Is c N (fun n => p n || q n) := by
  obtain ⟨c, h1, h2⟩ := Or_ev a b ha.wf hb.wf k hk
  rw [ha.nN, ha.pq, hb.pq] at h2
  refine ⟨c, h1, h2.congr fun n => ?_⟩
  rcases Nat.lt_or_ge n N with h | h
  · simp [h]
  · rw [hb.hi n h]; simp
theorem And_is {a b : api_Bits} {N : Nat} {p q : Nat → Bool} (ha : Is a N p) (hb : Is b N q) (k : Nat) (hk : 9000 < k) : ∃ c, bits_And k a b = some c ∧ Is c N (fun n => p n && q n) := by
  obtain ⟨c, h1, h2⟩ := And_ev a b ha.wf hb.wf k hk
  rw [ha.nN, ha.pq, hb.pq] at h2
  exact ⟨c, h1, h2⟩
theorem Not_is {a b : api_Bits} {N : Nat} {p q : Nat → Bool} (ha : Is a N p) (hb : Is b N q) (k : Nat) (hk : 9000 < k) : ∃ c, bits_Not k a b = some c ∧ Is c N (fun n => p n && !q n) := by
  obtain ⟨c, h1, h2⟩ := Not_ev a b ha.wf hb.wf k hk
  rw [ha.nN, ha.pq, hb.pq] at h2
  exact ⟨c, h1, h2⟩
theorem meet_no {a b : api_Bits} {N : Nat} {p q : Nat → Bool} (ha : Is a N p) (hb : Is b N q) (h : ∀ n, (p n && q n) = false) (k : Nat) (hk : 9000 < k) : bits_Meet k a b = some false := by
  obtain ⟨c, h1, h2⟩ := And_is ha hb k hk
  obtain ⟨r, h3, h4⟩ := first_is h2 0 (by decide) k (by omega)
  unfold bits_Meet
  rw [h1, Option.bind_some, h3, Option.bind_some]
  rcases h4 with ⟨n, rfl, _, h5, _⟩ | ⟨rfl, _⟩
  · have h5' : (p n && q n) = true := h5
    rw [h n] at h5'; cases h5'
  · rfl
theorem same_of {a b : api_Bits} {N : Nat} {p q : Nat → Bool} (h : Is a N p) (h' : Is b N q) (e : ∀ n, p n = q n) (k : Nat) (hk : 9000 < k) : bits_Same k a b = some true := same_is (h.congr e) h' k hk
theorem bitsLaws_ev (q : riddlelaw01_Three) (hn : 0 ≤ q.N ∧ q.N < 256) (hA : q.A.length ≤ 9223372036854775807) (hB : q.B.length ≤ 9223372036854775807) (hC : q.C.length ≤ 9223372036854775807) (k : Nat) (hk : 18000 < k) (hkA : q.A.length < k) (hkB : q.B.length < k) (hkC : q.C.length < k) : riddlelaw01_BitsLaws k q = some true := by
  have hk' : 9000 < k := by omega
  obtain ⟨n, A, B, C⟩ := q
  simp only at *
  obtain ⟨N, rfl⟩ := Int.eq_ofNat_of_zero_le hn.1
  have ia := (new_is N (by omega) A).1
  have ib := (new_is N (by omega) B).1
  have ic := (new_is N (by omega) C).1
  have hs : riddlelaw01_sized k (N : Int) A B C = some ((newB N A).1, (newB N B).1, (newB N C).1) := by
    unfold riddlelaw01_sized
    rw [wrap_i64_of (N : Int) (by omega) (by omega), new_ev _ _ hA k hkA, Option.bind_some, new_ev _ _ hB k hkB, Option.bind_some, new_ev _ _ hC k hkC]; rfl
  revert hs ia ib ic
  generalize (newB N A).1 = a
  generalize (newB N B).1 = b
  generalize (newB N C).1 = c
  generalize (fun n => decide (n < N ∧ (n : Int) ∈ A)) = p
  generalize (fun n => decide (n < N ∧ (n : Int) ∈ B)) = r
  generalize (fun n => decide (n < N ∧ (n : Int) ∈ C)) = s
  intro ia ib ic hs
  obtain ⟨ab, h1, i1⟩ := Or_is ia ib k hk'
  obtain ⟨ba, h2, i2⟩ := Or_is ib ia k hk'
  obtain ⟨nab, h3, i3⟩ := And_is ia ib k hk'
  obtain ⟨nba, h4, i4⟩ := And_is ib ia k hk'
  obtain ⟨bc, h5, i5⟩ := Or_is ib ic k hk'
  obtain ⟨a_bc, h6, i6⟩ := Or_is ia i5 k hk'
  obtain ⟨ab_c, h7, i7⟩ := Or_is i1 ic k hk'
  obtain ⟨nbc, h8, i8⟩ := And_is ib ic k hk'
  obtain ⟨na_bc, h9, i9⟩ := And_is ia i8 k hk'
  obtain ⟨nab_c, h10, i10⟩ := And_is i3 ic k hk'
  obtain ⟨x1, h11, i11⟩ := And_is ia i5 k hk'
  obtain ⟨nac, h12, i12⟩ := And_is ia ic k hk'
  obtain ⟨x2, h13, i13⟩ := Or_is i3 i12 k hk'
  obtain ⟨x3, h14, i14⟩ := Not_is ia ib k hk'
  obtain ⟨x4, h15, i15⟩ := Or_is i14 i3 k hk'
  have s1 := same_of i1 i2 (fun n => by cases p n <;> cases r n <;> rfl) k hk'
  have s2 := same_of i3 i4 (fun n => by cases p n <;> cases r n <;> rfl) k hk'
  have s3 := same_of i6 i7 (fun n => by cases p n <;> cases r n <;> cases s n <;> rfl) k hk'
  have s4 := same_of i9 i10 (fun n => by cases p n <;> cases r n <;> cases s n <;> rfl) k hk'
  have s5 := same_of i11 i13 (fun n => by cases p n <;> cases r n <;> cases s n <;> rfl) k hk'
  have s6 := same_of i15 ia (fun n => by cases p n <;> cases r n <;> rfl) k hk'
  have s7 := meet_no i14 ib (fun n => by cases p n <;> cases r n <;> rfl) k hk'
  unfold riddlelaw01_BitsLaws
  simp only [live_k k (by omega), hs, h1, h2, h3, h4, h5, h6, h7, h8, h9, h10, h11, h12, h13, h14, h15, s1, s2, s3, s4, s5, s6, s7, Option.bind_some, Bool.not_true, Bool.not_false, if_true, if_false, Bool.false_eq_true, reduceIte]

/-! ### shifted -/
theorem shift_l0 (k : Nat) (N : Nat) (hN : N ≤ 8192) (a : Int) (h0 : -9000 < a) (h1 : a < 9000) (t u : api_Bits) (ht : t.N = N) (hu : u.N = N) : ∀ (l : List Int) (W : List Int), (∀ x ∈ l, 0 ≤ x ∧ x < 9000) → UL W → (N : Int) ≤ 64 * W.length →
    bits_Shift_l0 k a t u l W = some ⟨N, (l.map (· + a)).foldl (putI N) W⟩ := by
  intro l
  induction l with
  | nil => intro W _ _ _; rw [bits_Shift_l0, hu]; rfl
  | cons x l ih =>
    intro W hl hU hW
    have hx := hl x (by simp)
    rw [List.map_cons, List.foldl_cons, ← ih (putI N W (x + a)) (fun y hy => hl y (by simp [hy])) (putI_UL hU _) (by rw [putI_length]; exact hW), bits_Shift_l0, wrap_i64_of (x + a) (by omega) (by omega), ht]
    generalize x + a = y
    unfold putI
    by_cases c : 0 ≤ y ∧ y < (N : Int)
    · obtain ⟨n, rfl⟩ := Int.eq_ofNat_of_zero_le c.1
      rw [if_pos (by simpa using c), if_pos c, tdiv_nat _ (by omega), at_wd hU (by omega), Option.bind_some, tmod_nat, min64 _ (by omega), if_pos (by omega), wrap_shl (by omega), setcode hU _ (by omega)]
      rfl
    · rw [if_neg (by simpa using c), if_neg c]
def shp (N : Nat) (p : Nat → Bool) (a : Int) (n : Nat) : Bool := decide (n < N ∧ 0 ≤ (n : Int) - a) && p ((n : Int) - a).toNat
theorem al_mem (p : Nat → Bool) (N : Nat) (x : Int) : x ∈ al p N ↔ ∃ n : Nat, x = n ∧ n < N ∧ p n = true := by
  unfold al; rw [lst_mem]
  constructor
  · rintro ⟨n, h1, h2, h3, h4, h5⟩; exact ⟨n, h1, h4, h5⟩
  · rintro ⟨n, h1, h2, h3⟩; exact ⟨n, h1, by omega, by omega, h2, h3⟩
theorem shift_ev (b : api_Bits) (hb : WF b) (a : Int) (h0 : -9223372036854775808 ≤ a) (h1 : a < 9223372036854775808) (k : Nat) (hk : 9000 < k) : ∃ c, bits_Shift k b a = some c ∧ Is c (nN b) (shp (nN b) (pp b) a) := by
  have hi := may_is b hb.1
  have hle := hi.le
  have hz := zero_is (nN b) hi.le
  unfold bits_Shift
  rw [own_ev b hb.1 hb.2, Option.bind_some, hi.n, empty_ev _ hi.le, Option.bind_some, wrap_i64_of (0 - ((nN b : Nat) : Int)) (by omega) (by omega)]
  by_cases hc : a ≥ (nN b : Int) ∨ a ≤ 0 - (nN b : Int)
  · rw [if_pos (by simpa using hc)]
    refine ⟨_, rfl, hz.congr fun n => ?_⟩
    unfold shp
    by_cases h2 : n < nN b ∧ 0 ≤ (n : Int) - a
    · rw [hi.hi _ (show nN b ≤ ((n : Int) - a).toNat by omega)]; simp
    · rw [decide_eq_false h2]; rfl
  · obtain ⟨h3, h4⟩ := all_is hi k hk
    rw [if_neg (by simpa using hc), h3, Option.bind_some, h4, Option.bind_some, shift_l0 k (nN b) hi.le a (by omega) (by omega) _ _ hi.n rfl _ _ (fun x hx => by
      obtain ⟨n, rfl, h5, h6⟩ := (al_mem _ _ _).1 hx; omega) hz.u hz.cap.1]
    refine ⟨_, rfl, (fold_is (nN b) _ _ _ hz).congr fun n => ?_⟩
    unfold shp
    rw [Bool.eq_iff_iff]
    simp only [Bool.false_or, decide_eq_true_eq, Bool.and_eq_true, List.mem_map]
    constructor
    · rintro ⟨h5, x, h6, h7⟩
      obtain ⟨m, rfl, h8, h9⟩ := (al_mem _ _ _).1 h6
      refine ⟨⟨h5, by omega⟩, ?_⟩
      rw [show ((n : Int) - a).toNat = m by omega]; exact h9
    · rintro ⟨⟨h5, h6⟩, h7⟩
      refine ⟨h5, (n : Int) - a, (al_mem _ _ _).2 ⟨((n : Int) - a).toNat, by omega, ?_, h7⟩, by omega⟩
      rcases Nat.lt_or_ge ((n : Int) - a).toNat (nN b) with h8 | h8
      · exact h8
      · rw [hi.hi _ h8] at h7; cases h7
theorem shift_is {b : api_Bits} {N : Nat} {p : Nat → Bool} (h : Is b N p) (a : Int) (h0 : -9223372036854775808 ≤ a) (h1 : a < 9223372036854775808) (k : Nat) (hk : 9000 < k) : ∃ c, bits_Shift k b a = some c ∧ Is c N (shp N p a) := by
  obtain ⟨c, h2, h3⟩ := shift_ev b h.wf a h0 h1 k hk
  rw [h.nN, h.pq] at h3
  exact ⟨c, h2, h3⟩

/-! ### there and back -/
theorem lst_filter (p : Nat → Bool) (N : Nat) (g : Int → Bool) : ∀ d i, (lst p N d i).filter g = lst (fun n => p n && g (n : Int)) N d i := by
  intro d
  induction d with
  | zero => intro i; rfl
  | succ d ih =>
    intro i
    rw [lst, lst]
    by_cases h1 : i < N ∧ p i = true
    · rw [if_pos h1, List.filter_cons, ih]
      by_cases h2 : g (i : Int) = true
      · rw [if_pos h2, if_pos ⟨h1.1, by rw [h1.2, h2]; rfl⟩]
      · rw [if_neg h2, if_neg (by simp [h2])]
    · rw [if_neg h1, ih, if_neg (fun h => h1 ⟨h.1, by simp at h; exact h.2.1⟩)]
theorem lst_congr (p q : Nat → Bool) (N : Nat) (h : ∀ n, n < N → p n = q n) : ∀ d i, lst p N d i = lst q N d i := by
  intro d
  induction d with
  | zero => intro i; rfl
  | succ d ih =>
    intro i
    rw [lst, lst, ih]
    by_cases h1 : i < N
    · rw [h i h1]
    · simp [h1]
theorem back_l1 (N : Nat) (hN : N < 256) (a : Int) (h0 : -128 ≤ a) (h1 : a < 128) (L : List Int) (hL : L.length ≤ 8192) (hx : ∀ x ∈ L, 0 ≤ x ∧ x < 9000) (J : List Int → Option Bool) : ∀ (d i m : Nat) (acc : List Int), i + d = L.length → d < m → acc.length ≤ i →
    riddlelaw01_BitsBack_l1 (N : Int) a L J m (acc, (i : Int)) = J (acc ++ (L.drop i).filter (fun x => decide (0 ≤ x + a ∧ x + a < N))) := by
  intro d
  induction d with
  | zero =>
    intro i m acc h2 h3 h4
    obtain ⟨m, rfl⟩ : ∃ n, m = n + 1 := ⟨m - 1, by omega⟩
    rw [riddlelaw01_BitsBack_l1, if_neg (by simp; omega), List.drop_eq_nil_of_le (by omega)]; simp
  | succ d ih =>
    intro i m acc h2 h3 h4
    obtain ⟨m, rfl⟩ : ∃ n, m = n + 1 := ⟨m - 1, by omega⟩
    have hlt : i < L.length := by omega
    have hxi := hx L[i] (List.getElem_mem hlt)
    rw [riddlelaw01_BitsBack_l1, if_pos (by simpa using hlt), at_lt hlt, Option.bind_some, wrap_i64_of a (by omega) (by omega), wrap_i64_of (L[i] + a) (by omega) (by omega), wrap_i64_of (N : Int) (by omega) (by omega), wrapN i (by omega), List.drop_eq_getElem_cons hlt, List.filter_cons]
    by_cases c : 0 ≤ L[i] + a ∧ L[i] + a < (N : Int)
    · rw [if_pos (by simpa using c), if_pos (okApp8 (by simp; omega)), ih (i + 1) m _ (by omega) (by omega) (by simp; omega), if_pos (by simpa using c)]; simp
    · rw [if_neg (by simpa using c), ih (i + 1) m _ (by omega) (by omega) (by omega), if_neg (by simpa using c)]
theorem back_l0 {b : api_Bits} {N : Nat} {p : Nat → Bool} (h : Is b N p) (e : Int) (J : List Int → Option Bool) : ∀ (d f m : Nat) (r : Int × Bool) (acc : List Int), N ≤ f + d → d + 300 < m → FirstR p f r → acc.length ≤ f →
    riddlelaw01_BitsBack_l0 (N : Int) (b, e) J m (acc, r.1, r.2) = J (acc ++ lst p N d f) := by
  have hle := h.le
  intro d
  induction d using Nat.strongRecOn with
  | ind d ih =>
    intro f m r acc h1 h2 h3 h4
    obtain ⟨m, rfl⟩ : ∃ n, m = n + 1 := ⟨m - 1, by omega⟩
    rcases first_lst h.hi h3 d h1 with ⟨rfl, h5⟩ | ⟨n, rfl, h5, h6, h7, c, h8, h9, h10⟩
    · rw [riddlelaw01_BitsBack_l0, if_neg (by simp), h5]; simp
    · obtain ⟨r', e1, e2⟩ := first_is h ((n + 1 : Nat) : Int) (by omega) m (by omega)
      rw [riddlelaw01_BitsBack_l0, wrap_i64_of (N : Int) (by omega) (by omega), if_pos (by simp; omega), if_pos (okApp8 (by simp; omega)), wrapN n (by omega), e1, Option.bind_some, ih c h9 (n + 1) m r' _ h8 (by omega) e2 (by simp; omega), h10]
      simp
theorem shp_back (N : Nat) (p : Nat → Bool) (hp : ∀ n, N ≤ n → p n = false) (a : Int) (n : Nat) (h : n < N) : shp N (shp N p a) (-a) n = (p n && decide (0 ≤ (n : Int) + a ∧ (n : Int) + a < N)) := by
  unfold shp
  rw [Bool.eq_iff_iff]
  simp only [Bool.and_eq_true, decide_eq_true_eq]
  constructor
  · rintro ⟨⟨h1, h2⟩, ⟨h3, h4⟩, h5⟩
    rw [show (((((n : Int) - -a).toNat : Nat) : Int) - a).toNat = n by omega] at h5
    exact ⟨h5, by omega, by omega⟩
  · rintro ⟨h1, h2, h3⟩
    refine ⟨⟨h, by omega⟩, ⟨by omega, by omega⟩, ?_⟩
    rw [show (((((n : Int) - -a).toNat : Nat) : Int) - a).toNat = n by omega]; exact h1
theorem bitsBack_ev (n : Int) (l : List Int) (a : Int) (hn : 0 ≤ n ∧ n < 256) (hl : l.length ≤ 9223372036854775807) (ha : -128 ≤ a ∧ a < 128) (k : Nat) (hk : 18000 < k) (hkl : l.length < k) : riddlelaw01_BitsBack k n l a = some true := by
  have hk' : 9000 < k := by omega
  obtain ⟨N, rfl⟩ := Int.eq_ofNat_of_zero_le hn.1
  obtain ⟨hi, h2⟩ := new_is N (by omega) l
  have hnew := new_ev (N : Int) l hl k hkl
  revert hi h2 hnew
  generalize newB N l = x
  generalize (fun n => decide (n < N ∧ (n : Int) ∈ l)) = p
  obtain ⟨b, e⟩ := x
  simp only
  intro hi h2 hnew
  subst h2
  obtain ⟨c, e1, i1⟩ := shift_is hi a (by omega) (by omega) k hk'
  obtain ⟨d, e2, i2⟩ := shift_is i1 (-a) (by omega) (by omega) k hk'
  obtain ⟨r, e3, i3⟩ := first_is hi 0 (by decide) k (by omega)
  have hlen := lst_len p N N 0
  have hb := hi.len
  unfold riddlelaw01_BitsBack
  rw [live_k k (by omega), Option.bind_some, if_neg (by simp), wrap_i64_of (N : Int) (by omega) (by omega), hnew, Option.bind_some, if_neg (by simp)]
  simp only []
  rw [wrap_i64_of a (by omega) (by omega), e1, Option.bind_some, wrap_i64_of (0 - a) (by omega) (by omega), Int.zero_sub, e2, Option.bind_some, lall_is hi k hk', Option.bind_some]
  simp only [jn]
  have hL : ∀ x ∈ al p N, 0 ≤ x ∧ x < 9000 := fun x hx => by
    obtain ⟨n, rfl, h5, h6⟩ := (al_mem _ _ _).1 hx; omega
  rw [show (0 : Int) = ((0 : Nat) : Int) from rfl, back_l1 N (by omega) a ha.1 ha.2 (al p N) (by unfold al; omega) hL _ (al p N).length 0 k [] (by omega) (by unfold al; omega) (by simp)]
  rw [show ((0 : Nat) : Int) = 0 from rfl, e3, Option.bind_some, back_l0 hi 0 _ N 0 k r [] (by omega) (by omega) i3 (by simp), lall_is i2 k hk', Option.bind_some]
  have e4 : al (shp N (shp N p a) (-a)) N = [] ++ (List.drop 0 (al p N)).filter (fun x => decide (0 ≤ x + a ∧ x + a < N)) := by
    unfold al
    rw [List.drop_zero, List.nil_append, lst_filter]
    exact lst_congr _ _ _ (fun n h => shp_back N p hi.hi a n h) _ _
  have hlen2 := lst_len (shp N (shp N p a) (-a)) N N 0
  rw [← e4, equalI_ev _ _ (by unfold al; omega) k (by unfold al; omega), Option.bind_some, if_pos (by simp), Option.bind_some, equalI_ev _ _ (by simp; omega) k (by simp; omega)]
  simp [al]
theorem bitsLaws_w (q : riddlelaw01_Three) (hq : wf46 q) : ∃ k, riddlelaw01_BitsLaws k q = some true := by
  have hA := hq.2.1.1; have hB := hq.2.2.1.1; have hC := hq.2.2.2.1
  unfold maxLen at hA hB hC
  exact ⟨18001 + q.A.length + q.B.length + q.C.length, bitsLaws_ev q (u8_wf hq.1) (by omega) (by omega) (by omega) _ (by omega) (by omega) (by omega) (by omega)⟩
theorem bitsBack_w (n : Int) (l : List Int) (a : Int) (hn : wf5 n) (hl : wf22 l) (ha : wf23 a) : ∃ k, riddlelaw01_BitsBack k n l a = some true := by
  have h := hl.1
  unfold maxLen at h
  exact ⟨18001 + l.length, bitsBack_ev n l a (u8_wf hn) (by omega) (i8_wf ha) _ (by omega) (by omega)⟩
end Go.Proofs.YthjncgigdkdepaaDoor
