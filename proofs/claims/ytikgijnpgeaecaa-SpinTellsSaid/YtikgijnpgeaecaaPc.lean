/- YtikgijnpgeaecaaPc: a part of the proof; see the last text for what is proved. -/
import Derived.Test.YtikgijnpgeaecaaPa
set_option linter.unusedVariables false
set_option linter.unusedSimpArgs false
set_option maxRecDepth 100000
set_option exponentiation.threshold 2000
namespace Go.Proofs.Ytikgijnpgeaecaa
open Go.AE

theorem isF_lo : IsF 13970166044103278592 (-2147483648) := ⟨true, 4503599627370496, -21, by decide, by decide, by decide⟩
theorem isF_hi : IsF 4746794007244308480 2147483647 := ⟨false, 9007199250546688, -22, by decide, by decide, by decide⟩
theorem fgeq_ev {x y : Nat} {m n : Int} (hx : IsF x m) (hy : IsF y n) : fgeq x y = decide (m ≥ n) := by
  unfold fgeq
  have h1 : (FloatKind.format .f64).order x y = some (compare m n) := isF_order hx hy
  rw [h1]
  rcases Int.lt_trichotomy m n with h | h | h
  · rw [Int.compare_eq_lt.2 h]
    have : decide (m ≥ n) = false := by simp; omega
    rw [this]; rfl
  · subst h
    rw [Int.compare_eq_eq.2 rfl]; simp
  · rw [Int.compare_eq_gt.2 h]
    have : decide (m ≥ n) = true := by simp; omega
    rw [this]; rfl
theorem fleq_ev {x y : Nat} {m n : Int} (hx : IsF x m) (hy : IsF y n) : fleq x y = decide (m ≤ n) := by
  unfold fleq
  have h1 : (FloatKind.format .f64).order x y = some (compare m n) := isF_order hx hy
  rw [h1]
  rcases Int.lt_trichotomy m n with h | h | h
  · rw [Int.compare_eq_lt.2 h]
    have : decide (m ≤ n) = true := by simp; omega
    rw [this]; rfl
  · subst h
    rw [Int.compare_eq_eq.2 rfl]; simp
  · rw [Int.compare_eq_gt.2 h]
    have : decide (m ≤ n) = false := by simp; omega
    rw [this]; rfl
theorem fne_ev {x y : Nat} {m n : Int} (hx : IsF x m) (hy : IsF y n) : fne x y = !decide (m = n) := by
  unfold fne
  have h1 : (FloatKind.format .f64).order x y = some (compare m n) := isF_order hx hy
  rw [h1, bne, cmp_eq]
theorem f2i_ev {x : Nat} {n : Int} (h : IsF x n) (h1 : -9223372036854775808 ≤ n) (h2 : n ≤ 9223372036854775807) : f2i .i64 x = some n := by
  unfold f2i
  rw [isF_toInt h]
  exact if_pos ⟨h1, h2⟩
theorem mask32 (n : Int) : bits .and .u64 (IntKind.u64.wrap n) 4294967295 = n % 4294967296 := by
  have hw : IntKind.u64.wrap n = n % 18446744073709551616 := by rw [IntKind.wrap_u64]
  have h64 : n % 18446744073709551616 < 2 ^ 64 := by
    rw [show (2 : Int) ^ 64 = 18446744073709551616 from by decide]; omega
  have := bits_mask .u64 64 (by decide) (fun n h0 h1 => by rw [IntKind.wrap_u64]; omega) 32 (by omega) (n % 18446744073709551616) (by omega) h64
  have h2 : bits .and .u64 (n % 18446744073709551616) 4294967295 = (n % 18446744073709551616) % 4294967296 := this
  rw [hw, h2]; omega
theorem part_ev {x : Nat} {n : Int} (h : IsF x n) (h1 : -2147483648 ≤ n) (h2 : n < 2147483648) : spin_part x = some (n % 4294967296, true) := by
  unfold spin_part
  rw [fgeq_ev h isF_lo, fleq_ev h isF_hi, f2i_ev h (by omega) (by omega)]
  rw [if_pos (by simpa using h1), if_neg (by simp; omega)]
  simp only [Option.bind_some]
  rw [fne_ev h (i2f_is n (by omega) (by omega))]
  simp only [decide_true, Bool.not_true, Bool.false_eq_true, if_false]
  rw [mask32]
def wd (p : Pt) : Int := (p.1 % 4294967296) * 4294967296 + p.2 % 4294967296
theorem orw (a b : Int) (ha : 0 ≤ a ∧ a < 4294967296) (hb : 0 ≤ b ∧ b < 4294967296) : bits .or .u64 (IntKind.u64.wrap (a * 2 ^ 32)) b = a * 4294967296 + b := by
  obtain ⟨m, rfl⟩ : ∃ m : Nat, a = m := ⟨a.toNat, by omega⟩
  obtain ⟨n, rfl⟩ : ∃ n : Nat, b = n := ⟨b.toNat, by omega⟩
  rw [show (2 : Int) ^ 32 = 4294967296 from by decide, wrap_u64_of _ (by omega) (by omega)]
  have e : (m : Int) * 4294967296 = ((m * 4294967296 : Nat) : Int) := by omega
  rw [e, u64_or_nat _ _ (by omega) (by omega)]
  have h := Nat.shiftLeft_add_eq_or_of_lt (i := 32) (b := n) (by omega) m
  rw [Nat.shiftLeft_eq] at h
  rw [show (2 : Nat) ^ 32 = 4294967296 from by decide] at h
  rw [← h]; omega
theorem word_ev {z : Nat × Nat} {p : Pt} (h : IsC z p) {n : Nat} (hb : Bd n p) (hn : n < 2147483648) : spin_Word z = some (wd p) := by
  obtain ⟨h1, h2, h3, h4⟩ := hb
  unfold spin_Word
  rw [part_ev h.1 (by omega) (by omega), Option.bind_some, part_ev h.2 (by omega) (by omega), Option.bind_some, if_neg (by simp)]
  simp only
  rw [orw _ _ (by omega) (by omega)]; rfl
theorem rword_ev {p : Pt} : riddleref16_Word (pt p) = some (wd p) := by
  unfold riddleref16_Word pt
  simp only
  have e : ∀ x : Int, IntKind.u64.wrap (IntKind.u32.wrap x) = x % 4294967296 := by
    intro x
    rw [IntKind.wrap_u32, wrap_u64_of _ (by omega) (by omega)]
  rw [e, e, orw _ _ (by omega) (by omega)]; rfl
theorem wd_inj {p q : Pt} {n : Nat} (hp : Bd n p) (hq : Bd n q) (hn : n < 2147483648) (h : wd p = wd q) : p = q := by
  obtain ⟨h1, h2, h3, h4⟩ := hp
  obtain ⟨k1, k2, k3, k4⟩ := hq
  unfold wd at h
  refine Prod.ext ?_ ?_ <;> omega

theorem strOf_data (l : List Int) : ∀ s : ByteArray, (l.foldl (fun r n => r.push (UInt8.ofNat n.toNat)) s).data.toList = s.data.toList ++ l.map (fun n => UInt8.ofNat n.toNat) := by
  induction l with
  | nil => intro s; simp
  | cons x l ih => intro s; rw [List.foldl_cons, ih]; simp [ByteArray.push]
theorem strOf_inj {a b : List Int} (ha : By a) (hb : By b) (h3 : (strOf a).data.toList = (strOf b).data.toList) : a = b := by
  have h1 := strOf_data a ByteArray.empty
  have h2 := strOf_data b ByteArray.empty
  have h4 : a.map (fun n => UInt8.ofNat n.toNat) = b.map (fun n => UInt8.ofNat n.toNat) := by
    unfold strOf at h3
    rw [h1, h2] at h3
    exact List.append_cancel_left h3
  clear h1 h2 h3
  induction a generalizing b with
  | nil => cases b with
    | nil => rfl
    | cons y b => simp at h4
  | cons x a ih => cases b with
    | nil => simp at h4
    | cons y b =>
      simp only [List.map_cons, List.cons.injEq] at h4
      rw [ih ha.cons.2 hb.cons.2 h4.2]
      have e := congrArg UInt8.toNat h4.1
      simp only [UInt8.toNat_ofNat'] at e
      have := ha.cons.1
      have := hb.cons.1
      congr 1; omega
theorem bytesEq_true {a b : List Int} (ha : By a) (hb : By b) (h : ((strOf a).toList == (strOf b).toList) = true) : a = b := by
  have h1 : (strOf a).toList = (strOf b).toList := by simpa using h
  simp only [ByteArray.toList_eq] at h1
  exact strOf_inj ha hb h1

theorem bdW {w : List Int} (hB : By w) (hl : w.length ≤ 1048576) : Bd 15728640 (ofL 0 w) := (Bd.ofL w 0 hB).mono (by omega)
theorem gs_inj {c d : Int} (h : gs c = gs d) : c = d := by
  unfold gs at h
  simp only [Prod.mk.injEq] at h
  omega
theorem ofL_one (c : Int) : ofL 0 [c] = gs c := by
  unfold ofL; rw [show ofL (0 + 1) [] = (0, 0) from rfl, add2_comm, add2_zero]; rfl
theorem spinApart_ev (k : Nat) (a b : List Int) (c d : Int) (ha : By a) (hb : By b) (hc : 0 ≤ c ∧ c < 256) (hd : 0 ≤ d ∧ d < 256) (hk : a.length + b.length + 3 ≤ k) : riddlelaw16_SpinApart k a b c d = some true := by
  unfold riddlelaw16_SpinApart
  rw [begun_ev k (by omega), Option.bind_some, if_neg (by simp)]
  simp only [small_ev, Option.bind_some]
  by_cases h1 : (a.length : Int) ≤ 1048576
  · rw [if_neg (by simp [h1])]
    by_cases h2 : (b.length : Int) ≤ 1048576
    · have e2 : (!decide ((b.length : Int) ≤ 1048576)) = false := by simp [h2]
      rw [e2, Option.bind_some, if_neg (by simp)]
      obtain ⟨x, hx, hxc⟩ := of_ev k a ha (by omega) (by omega)
      obtain ⟨y, hy, hyc⟩ := of_ev k b hb (by omega) (by omega)
      rw [hx, Option.bind_some, hy, Option.bind_some, ceq_ev hxc hyc]
      have wx := word_ev hxc (bdW ha (by omega)) (by omega)
      have wy := word_ev hyc (bdW hb (by omega)) (by omega)
      have hweq : (wd (ofL 0 a) == wd (ofL 0 b)) = decide (ofL 0 a = ofL 0 b) := by
        by_cases he : ofL 0 a = ofL 0 b
        · rw [he]; simp
        · have : ¬ wd (ofL 0 a) = wd (ofL 0 b) := fun hh => he (wd_inj (bdW ha (by omega)) (bdW hb (by omega)) (by omega) hh)
          simp [this, he]
      have hv : ∀ X : Option Bool, X = some false → ((X).bind fun v6 => if v6 = true then some false else (spin_Of k [c]).bind fun t9_2 => (spin_Of k [d]).bind fun t9_4 => some (ceq t9_2.1 t9_2.2 t9_4.1 t9_4.2 == (c == d))) = some true := by
        intro X hX
        rw [hX, Option.bind_some, if_neg (by simp)]
        have hBc : By [c] := by intro b hb; simp at hb; omega
        have hBd : By [d] := by intro b hb; simp at hb; omega
        obtain ⟨u, hu, huc⟩ := of_ev k [c] hBc (by simp) (by simp; omega)
        obtain ⟨v, hv, hvc⟩ := of_ev k [d] hBd (by simp) (by simp; omega)
        rw [hu, Option.bind_some, hv, Option.bind_some, ceq_ev huc hvc, ofL_one, ofL_one]
        by_cases he : c = d
        · subst he; simp
        · have : ¬ gs c = gs d := fun hh => he (gs_inj hh)
          simp [he, this]
      apply hv
      have tail : ((spin_Word x).bind fun t6_4 => (spin_Word y).bind fun t6_6 => (if ((t6_4 == t6_6) != (decide (ofL 0 a = ofL 0 b))) = true then some true else (spin_Word x).bind fun t6_8 => (riddleref16_Of k a).bind fun t6_10 => (riddleref16_Word t6_10).bind fun t6_12 => some ((t6_8 != t6_12)))) = some false := by
        rw [wx, Option.bind_some, wy, Option.bind_some, hweq, if_neg (by simp), Option.bind_some, rof_ev k a ha (by omega) (by omega), Option.bind_some, rword_ev, Option.bind_some]
        simp
      split
      · rename_i hne
        unfold bytes_Equal
        rw [Option.bind_some, if_neg (by
          intro hh
          have := bytesEq_true ha hb hh
          subst this
          simp at hne)]
        exact tail
      · exact tail
    · have e2 : (!decide ((b.length : Int) ≤ 1048576)) = true := by simp [h2]
      rw [e2, Option.bind_some, if_pos rfl]
  · rw [if_pos (by simp [h1]), Option.bind_some, if_pos rfl]

/-! ### the windows, told -/
abbrev Wd := riddlelaw16_window
/-- r are the windows from place i on, by their fingerprints. -/
def Tells (w : List Int) (n : Nat) : Nat → List Wd → Prop
  | _, [] => True
  | i, x :: r => x.at_ = (i : Int) ∧ IsC x.z (ofL 0 ((w.drop i).take n)) ∧ Tells w n (i + 1) r
theorem Tells.take {w : List Int} {n : Nat} : ∀ {r : List Wd} {i : Nat} (m : Nat), Tells w n i r → Tells w n i (r.take m)
  | [], i, m, h => by simp [Tells]
  | x :: r, i, 0, h => by simp [Tells]
  | x :: r, i, m + 1, h => ⟨h.1, h.2.1, Tells.take m h.2.2⟩
theorem Tells.get {w : List Int} {n : Nat} : ∀ {r : List Wd} {i j : Nat} (h : Tells w n i r) (hj : j < r.length), r[j].at_ = ((i + j : Nat) : Int) ∧ IsC r[j].z (ofL 0 ((w.drop (i + j)).take n))
  | x :: r, i, 0, h, hj => ⟨h.1, h.2.1⟩
  | x :: r, i, j + 1, h, hj => by
    have := Tells.get (j := j) h.2.2 (by simpa using hj)
    rw [show i + 1 + j = i + (j + 1) by omega] at this
    exact this
theorem Tells.snoc {w : List Int} {n : Nat} : ∀ {r : List Wd} {i : Nat} {x : Wd}, Tells w n i r → x.at_ = ((i + r.length : Nat) : Int) → IsC x.z (ofL 0 ((w.drop (i + r.length)).take n)) → Tells w n i (r ++ [x])
  | [], i, x, h, h1, h2 => ⟨h1, h2, trivial⟩
  | y :: r, i, x, h, h1, h2 => ⟨h.1, h.2.1, Tells.snoc h.2.2 (by rw [h1]; simp only [List.length_cons]; omega) (by rw [show i + 1 + r.length = i + (y :: r).length by simp only [List.length_cons]; omega]; exact h2)⟩
theorem eqw_l0 {w : List Int} {n : Nat} (r s : List Wd) (hr : Tells w n 0 r) (hs : Tells w n 0 s) (he : r.length = s.length) (hl : r.length < 9223372036854775807) : ∀ (d i k : Nat), i + d = r.length → d < k →
    slices_Equal_riddle_riddlelaw16_window_riddle_riddlelaw16_window_l0 r s (fun _ => some true) k (i : Int) = some true := by
  intro d
  induction d with
  | zero =>
    intro i k hi hk
    obtain ⟨k, rfl⟩ : ∃ n, k = n + 1 := ⟨k - 1, by omega⟩
    rw [slices_Equal_riddle_riddlelaw16_window_riddle_riddlelaw16_window_l0, if_neg (by simp; omega)]
  | succ d ih =>
    intro i k hi hk
    obtain ⟨k, rfl⟩ : ∃ n, k = n + 1 := ⟨k - 1, by omega⟩
    have h1 : i < r.length := by omega
    have h2 : i < s.length := by omega
    have a1 := hr.get h1
    have a2 := hs.get h2
    rw [slices_Equal_riddle_riddlelaw16_window_riddle_riddlelaw16_window_l0, if_pos (by simpa using h1), at_lt h1, Option.bind_some, at_lt h2, Option.bind_some, ceq_ev a1.2 a2.2, a1.1, a2.1, if_neg (by simp), wrapN i (by omega)]
    exact ih (i + 1) k (by omega) (by omega)
theorem eqw_ev {w : List Int} {n : Nat} {r s : List Wd} (hr : Tells w n 0 r) (hs : Tells w n 0 s) (he : r.length = s.length) (hl : r.length < 9223372036854775807) (k : Nat) (hk : r.length < k) :
    slices_Equal_riddle_riddlelaw16_window_riddle_riddlelaw16_window k r s = some true := by
  unfold slices_Equal_riddle_riddlelaw16_window_riddle_riddlelaw16_window
  rw [if_neg (by simp [he])]
  simp only [jn]
  exact eqw_l0 r s hr hs he hl r.length 0 k (by omega) hk

/-- How many windows there are. -/
def nW (w : List Int) (n : Int) : Nat := if 1 ≤ n ∧ n ≤ w.length then w.length - n.toNat + 1 else 0
theorem all_l0 (w : List Int) (hB : By w) (n : Nat) (hn : 1 ≤ n) (hl : w.length ≤ 2000) : ∀ (d i k : Nat) (z : Nat × Nat), i + n + d = w.length → d < k → IsC z (ofL 0 ((w.drop i).take n)) →
    ∃ r, spin_All_1_v1_l0 (n : Int) w k (z, (i : Int)) = some r ∧ r.length = d + 1 ∧ Tells w n i (r.map fun x => riddlelaw16_window.mk x.1 x.2) := by
  intro d
  induction d with
  | zero =>
    intro i k z hi hk hz
    obtain ⟨k, rfl⟩ : ∃ n, k = n + 1 := ⟨k - 1, by omega⟩
    refine ⟨[(i, z)], ?_, rfl, ⟨rfl, hz, trivial⟩⟩
    rw [spin_All_1_v1_l0]
    rw [wrap_i64_of _ (by omega) (by omega), if_neg (by simp; omega)]; rfl
  | succ d ih =>
    intro i k z hi hk hz
    obtain ⟨k, rfl⟩ : ∃ n, k = n + 1 := ⟨k - 1, by omega⟩
    obtain ⟨z', hz', hc⟩ := roll_win hB hn (by omega : i + n < w.length) (by omega) hz
    obtain ⟨r, hr, hrl, hrt⟩ := ih (i + 1) k z' (by omega) (by omega) hc
    refine ⟨(i, z) :: r, ?_, by simp [hrl], ⟨rfl, hz, hrt⟩⟩
    rw [spin_All_1_v1_l0]
    rw [wrap_i64_of _ (by omega) (by omega), if_pos (by simp; omega), at_lt (by omega), Option.bind_some, ← Int.natCast_add, at_lt (by omega), Option.bind_some, hz', Option.bind_some, wrapN i (by omega), hr]; rfl
theorem all_ev (w : List Int) (hB : By w) (n : Int) (hl : w.length ≤ 2000) (k : Nat) (hk : w.length + 1 < k) :
    ∃ r, spin_All_1_v1 k n w = some r ∧ r.length = nW w n ∧ Tells w n.toNat 0 (r.map fun x => riddlelaw16_window.mk x.1 x.2) := by
  unfold spin_All_1_v1 nW
  by_cases h : 1 ≤ n ∧ n ≤ w.length
  · obtain ⟨m, rfl⟩ : ∃ m : Nat, n = m := ⟨n.toNat, by omega⟩
    rw [if_neg (by simp; omega), if_pos (by omega), if_pos h]
    have hs : sub_ w 0 (m : Int) = (w.drop 0).take m := by
      have := sub_win w 0 m
      rw [Nat.zero_add] at this; exact this
    have hlen : ((w.drop 0).take m).length = m := win_len (by omega)
    obtain ⟨z, hz, hzc⟩ := of_ev k ((w.drop 0).take m) ((hB.drop 0).take m) (by omega) (by omega)
    rw [hs, hz, Option.bind_some]
    obtain ⟨r, hr, hrl, hrt⟩ := all_l0 w hB m (by omega) hl (w.length - m) 0 k z (by omega) (by omega) hzc
    refine ⟨r, hr, by rw [hrl]; simp, hrt⟩
  · rw [if_pos (by simp; omega), if_neg h]
    exact ⟨[], rfl, rfl, trivial⟩
theorem told_l0 (k : Nat) (m : Int) : ∀ (r : List (Int × (Nat × Nat))) (acc : List Wd), acc.length + r.length ≤ 100000 → (acc.length : Int) ≤ m ∨ r = [] → 0 ≤ m →
    riddlelaw16_told_v1_l0 k m (fun v => some v) r acc = some (acc ++ (r.map fun x => riddlelaw16_window.mk x.1 x.2).take (m - acc.length).toNat)
  | [], acc, _, _, _ => by rw [riddlelaw16_told_v1_l0]; simp
  | x :: r, acc, hl, hm, h0 => by
    simp only [List.length_cons] at hl
    have hm' : (acc.length : Int) ≤ m := hm.resolve_right (by simp)
    rw [riddlelaw16_told_v1_l0]
    by_cases h : (acc.length : Int) ≥ m
    · rw [if_pos (by simpa using h), show (m - (acc.length : Int)).toNat = 0 by omega]; simp
    · rw [if_neg (by simpa using h), if_pos (by unfold okApp maxLen; simp; omega), told_l0 k m r _ (by simp; omega) (.inl (by simp; omega)) h0]
      obtain ⟨q, hq⟩ : ∃ q, (m - (acc.length : Int)).toNat = q + 1 := ⟨(m - (acc.length : Int)).toNat - 1, by omega⟩
      rw [hq, List.map_cons, List.take_succ_cons, List.append_assoc]
      have : (m - ((acc ++ [riddlelaw16_window.mk x.1 x.2]).length : Int)).toNat = q := by simp only [List.length_append, List.length_cons, List.length_nil]; omega
      rw [this]; rfl
theorem nW_le (w : List Int) (n : Int) : nW w n ≤ w.length := by unfold nW; split <;> omega
theorem told_ev (w : List Int) (hB : By w) (n : Int) (hl : w.length ≤ 2000) (k : Nat) (hk : w.length + 1 < k) (m : Int) (h0 : 0 ≤ m) :
    ∃ l, riddlelaw16_told_v1 k (n, w) m = some l ∧ l.length = min m.toNat (nW w n) ∧ Tells w n.toNat 0 l := by
  obtain ⟨r, hr, hrl, hrt⟩ := all_ev w hB n hl k hk
  have := nW_le w n
  refine ⟨(r.map fun x => riddlelaw16_window.mk x.1 x.2).take m.toNat, ?_, by rw [List.length_take, List.length_map, hrl], hrt.take _⟩
  unfold riddlelaw16_told_v1
  simp only [jn]
  rw [hr, Option.bind_some, told_l0 k m r [] (by simp; omega) (by left; simpa using h0) h0]
  simp
theorem clone_ev (w : List Int) (hl : w.length ≤ 2000) (n : Int) : spin_All w n = some (n, w) := by
  unfold spin_All slices_Clone_byte_byte
  rw [if_pos (by unfold okApp maxLen; simp; omega), Option.bind_some]; rfl
theorem want_l0 (w : List Int) (hB : By w) (n : Int) (hl : w.length ≤ 2000) (J : List Wd → Option Bool) (hJ : ∀ l, l.length = nW w n → Tells w n.toNat 0 l → J l = some true) (hn2 : n < 9223372036854775808) (hn3 : -9223372036854775808 ≤ n) :
    ∀ (d i k : Nat) (acc : List Wd), i + d = w.length → d + w.length < k → acc.length = min i (nW w n) → Tells w n.toNat 0 acc → riddlelaw16_SpinTells_l0 w n J k (acc, (i : Int)) = some true := by
  intro d
  have hnw := nW_le w n
  induction d with
  | zero =>
    intro i k acc hi hk ha ht
    obtain ⟨k, rfl⟩ : ∃ n, k = n + 1 := ⟨k - 1, by omega⟩
    rw [riddlelaw16_SpinTells_l0, if_neg (by simp; omega)]
    exact hJ acc (by omega) ht
  | succ d ih =>
    intro i k acc hi hk ha ht
    obtain ⟨k, rfl⟩ : ∃ n, k = n + 1 := ⟨k - 1, by omega⟩
    rw [riddlelaw16_SpinTells_l0, if_pos (by simp; omega), wrap_i64_of ((w.length : Int) - i) (by omega) (by omega)]
    by_cases h : 1 ≤ n ∧ n ≤ (w.length : Int) - i
    · obtain ⟨m, rfl⟩ : ∃ m : Nat, n = m := ⟨n.toNat, by omega⟩
      have hnW : nW w (m : Int) = w.length - m + 1 := by unfold nW; rw [if_pos (by omega)]; simp
      have hwl : ((w.drop i).take m).length = m := win_len (by omega)
      rw [if_pos (by simp; omega), wrap_i64_of ((i : Int) + m) (by omega) (by omega), ← Int.natCast_add, if_pos (by omega), sub_win, rof_ev k _ ((hB.drop i).take m) (by omega) (by omega), Option.bind_some]
      obtain ⟨p, hp, hpc⟩ := point_ev (bdOf ((hB.drop i).take m) 0 (by omega)) (by omega)
      rw [hp, Option.bind_some, if_pos (by unfold okApp maxLen; simp; omega), wrapN i (by omega)]
      refine ih (i + 1) k _ (by omega) (by omega) ?_ ?_
      · rw [List.length_append, ha]; simp only [List.length_cons, List.length_nil]; omega
      · have hai : acc.length = i := by omega
        refine ht.snoc (by rw [hai, Nat.zero_add]) ?_
        rw [hai, Nat.zero_add]; exact hpc
    · rw [if_neg (by simp; omega), wrapN i (by omega)]
      refine ih (i + 1) k acc (by omega) (by omega) ?_ ht
      rw [ha]
      have : nW w n ≤ i := by unfold nW; split <;> omega
      omega
theorem spinTells_ev (k : Nat) (w : List Int) (n m : Int) (hB : By w) (hn : -9223372036854775808 ≤ n ∧ n < 9223372036854775808) (hm : 0 ≤ m ∧ m < 256) (hk : 2 * w.length + 3 < k) : riddlelaw16_SpinTells k w n m = some true := by
  unfold riddlelaw16_SpinTells
  by_cases hl : (w.length : Int) > 2000
  · rw [if_pos (by simpa using hl)]
  · rw [if_neg (by simpa using hl)]
    simp only [jn]
    refine want_l0 w hB n (by omega) _ ?_ hn.2 hn.1 w.length 0 k [] (by omega) (by omega) (by simp) trivial
    intro l hll hlt
    have hnw := nW_le w n
    rw [begun_ev k (by omega), Option.bind_some, if_pos rfl, clone_ev w (by omega) n, Option.bind_some]
    obtain ⟨l1, e1, n1, t1⟩ := told_ev w hB n (by omega) k (by omega) 1048576 (by omega)
    rw [e1, Option.bind_some, eqw_ev t1 hlt (by omega) (by omega) k (by omega), Option.bind_some, if_pos rfl, Option.bind_some, wrap_i64_of m (by omega) (by omega)]
    obtain ⟨l2, e2, n2, t2⟩ := told_ev w hB n (by omega) k (by omega) m (by omega)
    have hmin : minI (l.length : Int) m = ((min l.length m.toNat : Nat) : Int) := by unfold minI; split <;> omega
    rw [e2, Option.bind_some, hmin, if_pos (by omega)]
    have hs : sub_ l 0 ((min l.length m.toNat : Nat) : Int) = l.take (min l.length m.toNat) := by unfold sub_; simp
    rw [hs, eqw_ev t2 (hlt.take _) (by rw [List.length_take]; omega) (by omega) k (by omega)]
    rfl
end Go.Proofs.Ytikgijnpgeaecaa
