/- YtikgijnpgeaecaaPa: a part of the proof; see the last text for what is proved. -/
import Derived.Test.YtikgijnpgeaecaaGa
import Derived.Test.YtikgijnpgeaecaaAaFloat
import Derived.Test.YtikgijnpgeaecaaAaArg
import Derived.Test.YtikgijnpgeaecaaAaNum
set_option linter.unusedVariables false
set_option linter.unusedSimpArgs false
set_option maxRecDepth 100000
set_option exponentiation.threshold 2000
namespace Go.Proofs.Ytikgijnpgeaecaa
open Go.AE

theorem wrapN (n : Nat) (h : n < 9223372036854775807) : IntKind.i64.wrap ((n : Int) + 1) = ((n + 1 : Nat) : Int) := by
  rw [wrap_i64_of _ (by omega) (by omega)]; omega
theorem at_lt {α : Type} {l : List α} {i : Nat} (h : i < l.length) : at_ l (i : Int) = some l[i] := by rw [at_nat, List.getElem?_eq_getElem h]

abbrev Pt := Int × Int
def IsC (z : Nat × Nat) (p : Pt) : Prop := IsF z.1 p.1 ∧ IsF z.2 p.2
def Bd (n : Nat) (p : Pt) : Prop := -(n : Int) ≤ p.1 ∧ p.1 ≤ n ∧ -(n : Int) ≤ p.2 ∧ p.2 ≤ n
def tqc (c : Int) (p : Pt) : Pt := if c = 1 then (-p.2, p.1) else if c = 2 then (-p.1, -p.2) else if c = 3 then (p.2, -p.1) else p
def add2 (p q : Pt) : Pt := (p.1 + q.1, p.2 + q.2)
def sub2 (p q : Pt) : Pt := (p.1 - q.1, p.2 - q.2)
def gs (b : Int) : Pt := (b / 16, b % 16)
def tn (k : Nat) : Int := ((k % 4 : Nat) : Int)
def ofL : Nat → List Int → Pt
  | _, [] => (0, 0)
  | k, b :: l => add2 (tqc (tn k) (gs b)) (ofL (k + 1) l)
def By (l : List Int) : Prop := ∀ b ∈ l, 0 ≤ b ∧ b < 256

theorem Bd.tqc {n : Nat} {p : Pt} (h : Bd n p) (c : Int) : Bd n (tqc c p) := by
  obtain ⟨h1, h2, h3, h4⟩ := h
  unfold Ytikgijnpgeaecaa.tqc Bd
  split
  · simp only; omega
  · split
    · simp only; omega
    · split
      · simp only; omega
      · exact ⟨h1, h2, h3, h4⟩
theorem Bd.add {m n : Nat} {p q : Pt} (h : Bd m p) (k : Bd n q) : Bd (m + n) (add2 p q) := by
  unfold Bd add2 at *; simp only at *; omega
theorem Bd.sub {m n : Nat} {p q : Pt} (h : Bd m p) (k : Bd n q) : Bd (m + n) (sub2 p q) := by
  unfold Bd sub2 at *; simp only at *; omega
theorem Bd.mono {m n : Nat} {p : Pt} (h : Bd m p) (k : m ≤ n) : Bd n p := by unfold Bd at *; omega
theorem Bd.gs {b : Int} (h : 0 ≤ b ∧ b < 256) : Bd 15 (gs b) := by unfold Bd Ytikgijnpgeaecaa.gs; simp only; omega
theorem By.cons {b : Int} {l : List Int} (h : By (b :: l)) : (0 ≤ b ∧ b < 256) ∧ By l := ⟨h b List.mem_cons_self, fun c hc => h c (List.mem_cons_of_mem _ hc)⟩
theorem Bd.ofL : ∀ (l : List Int) (k : Nat), By l → Bd (15 * l.length) (ofL k l)
  | [], k, _ => by unfold Ytikgijnpgeaecaa.ofL Bd; simp
  | b :: l, k, h => by
    have := (((Bd.gs h.cons.1).tqc (tn k)).add (Bd.ofL l (k + 1) h.cons.2))
    refine this.mono ?_
    simp only [List.length_cons]; omega

theorem add2_zero (p : Pt) : add2 (0, 0) p = p := by unfold add2; simp
theorem add2_comm (p q : Pt) : add2 p q = add2 q p := by unfold add2; simp only [Int.add_comm]
theorem add2_assoc (p q r : Pt) : add2 (add2 p q) r = add2 p (add2 q r) := by unfold add2; simp only [Int.add_assoc]
theorem tqc_add (c : Int) (p q : Pt) : tqc c (add2 p q) = add2 (tqc c p) (tqc c q) := by
  unfold tqc add2
  split
  · refine Prod.ext ?_ ?_ <;> simp only <;> omega
  · split
    · refine Prod.ext ?_ ?_ <;> simp only <;> omega
    · split
      · refine Prod.ext ?_ ?_ <;> simp only <;> omega
      · rfl
theorem tqc_tqc (a b : Nat) (p : Pt) : tqc (tn a) (tqc (tn b) p) = tqc (tn (a + b)) p := by
  have ha : a % 4 < 4 := Nat.mod_lt _ (by decide)
  have hb : b % 4 < 4 := Nat.mod_lt _ (by decide)
  have hab : (a + b) % 4 = (a % 4 + b % 4) % 4 := Nat.add_mod a b 4
  unfold tn
  rw [hab]
  generalize a % 4 = x at *
  generalize b % 4 = y at *
  obtain ⟨u, v⟩ := p
  have hx : x = 0 ∨ x = 1 ∨ x = 2 ∨ x = 3 := by omega
  have hy : y = 0 ∨ y = 1 ∨ y = 2 ∨ y = 3 := by omega
  rcases hx with rfl | rfl | rfl | rfl <;> rcases hy with rfl | rfl | rfl | rfl <;> simp [tqc]
theorem tqc_ofL (j : Nat) : ∀ (l : List Int) (k : Nat), tqc (tn j) (ofL k l) = ofL (j + k) l
  | [], k => by unfold ofL tqc; simp
  | b :: l, k => by
    unfold ofL
    rw [tqc_add, tqc_tqc, tqc_ofL j l (k + 1)]
    rfl
theorem tn_four (k : Nat) : tn (k + 4) = tn k := by unfold tn; congr 1; omega
theorem ofL_four : ∀ (l : List Int) (k : Nat), ofL (k + 4) l = ofL k l
  | [], k => rfl
  | b :: l, k => by
    unfold ofL
    rw [tn_four, show k + 4 + 1 = (k + 1) + 4 by omega, ofL_four l (k + 1)]
theorem ofL_append : ∀ (l m : List Int) (k : Nat), ofL k (l ++ m) = add2 (ofL k l) (ofL (k + l.length) m)
  | [], m, k => by rw [List.nil_append, show ofL k [] = (0, 0) from rfl, add2_zero]; rfl
  | b :: l, m, k => by
    rw [List.cons_append, show ofL k (b :: (l ++ m)) = add2 (tqc (tn k) (gs b)) (ofL (k + 1) (l ++ m)) from rfl, ofL_append l m (k + 1), ← add2_assoc]
    rw [show k + (b :: l).length = k + 1 + l.length by simp only [List.length_cons]; omega]
    rfl

/-! ### what the code does with numbers -/
theorem and3 (n : Nat) (h : n < 9223372036854775808) : bits .and .i64 (n : Int) 3 = tn n := by
  have h63 : (n : Int) < 2 ^ 63 := by
    rw [show (2 : Int) ^ 63 = 9223372036854775808 from by decide]; omega
  have := bits_mask .i64 63 (by decide) (fun n h0 h1 => by rw [IntKind.wrap_i64]; omega) 2 (by omega) (n : Int) (by omega) h63
  have h2 : bits .and .i64 (n : Int) 3 = (n : Int) % 4 := this
  unfold tn
  rw [h2]; omega
theorem turn_ev {z : Nat × Nat} {p : Pt} (h : IsC z p) (q : Int) : ∃ z', spin_Turn z q = some z' ∧ IsC z' (tqc (bits .and .i64 q 3) p) := by
  unfold spin_Turn tqc
  generalize bits .and .i64 q 3 = c
  by_cases h1 : c = 1
  · subst h1
    exact ⟨(fneg z.2, z.1), rfl, isF_neg h.2, h.1⟩
  · rw [if_neg (by simpa using h1), if_neg h1]
    by_cases h2 : c = 2
    · subst h2
      exact ⟨(fneg z.1, fneg z.2), rfl, isF_neg h.1, isF_neg h.2⟩
    · rw [if_neg (by simpa using h2), if_neg h2]
      by_cases h3 : c = 3
      · subst h3
        exact ⟨(z.2, fneg z.1), rfl, h.2, isF_neg h.1⟩
      · rw [if_neg (by simpa using h3), if_neg h3]
        exact ⟨z, rfl, h⟩
theorem turnN {z : Nat × Nat} {p : Pt} (h : IsC z p) (n : Nat) (hn : n < 9223372036854775808) : ∃ z', spin_Turn z (n : Int) = some z' ∧ IsC z' (tqc (tn n) p) := by
  rw [← and3 n hn]; exact turn_ev h n
theorem i2f_is (n : Int) (h1 : -9007199254740992 < n) (h2 : n < 9007199254740992) : IsF (i2f n) n := isF_nearest n h1 h2
theorem gauss_ev {b : Int} (h : 0 ≤ b ∧ b < 256) : ∃ z, spin_Gauss b = some z ∧ IsC z (gs b) := by
  refine ⟨_, rfl, ?_, ?_⟩
  · have : IntKind.u8.wrap (b.tdiv 16) = b / 16 := by
      rw [Int.tdiv_eq_ediv_of_nonneg h.1, wrap_u8_of _ (by omega) (by omega)]
    show IsF (i2f _) (b / 16)
    rw [this]; exact i2f_is _ (by omega) (by omega)
  · have : b.tmod 16 = b % 16 := Int.tmod_eq_emod_of_nonneg h.1
    show IsF (i2f _) (b % 16)
    rw [this]; exact i2f_is _ (by omega) (by omega)
theorem cadd_ev {x y : Nat × Nat} {p q : Pt} (hx : IsC x p) (hy : IsC y q) {n : Nat} (hb : Bd n (add2 p q)) (hn : n < 9007199254740992) : ∃ z, cadd x.1 x.2 y.1 y.2 = some z ∧ IsC z (add2 p q) := by
  obtain ⟨h1, h2, h3, h4⟩ := hb
  unfold add2 at *
  simp only at *
  obtain ⟨a, ha, ha'⟩ := isF_sum hx.1 hy.1 (by omega) (by omega)
  obtain ⟨b, hb, hb'⟩ := isF_sum hx.2 hy.2 (by omega) (by omega)
  have ha2 : (FloatKind.format .f64).add x.1 y.1 = some a := ha
  have hb2 : (FloatKind.format .f64).add x.2 y.2 = some b := hb
  refine ⟨(a, b), by unfold cadd; rw [ha2, hb2], ha', hb'⟩
theorem csub_ev {x y : Nat × Nat} {p q : Pt} (hx : IsC x p) (hy : IsC y q) {n : Nat} (hb : Bd n (sub2 p q)) (hn : n < 9007199254740992) : ∃ z, csub x.1 x.2 y.1 y.2 = some z ∧ IsC z (sub2 p q) := by
  obtain ⟨h1, h2, h3, h4⟩ := hb
  unfold sub2 at *
  simp only at *
  obtain ⟨a, ha, ha'⟩ := isF_sub hx.1 hy.1 (by omega) (by omega)
  obtain ⟨b, hb, hb'⟩ := isF_sub hx.2 hy.2 (by omega) (by omega)
  have ha2 : (FloatKind.format .f64).sub x.1 y.1 = some a := ha
  have hb2 : (FloatKind.format .f64).sub x.2 y.2 = some b := hb
  refine ⟨(a, b), by unfold csub; rw [ha2, hb2], ha', hb'⟩
theorem cmp_eq (a b : Int) : (some (compare a b) == some Ordering.eq) = decide (a = b) := by
  rcases Int.lt_trichotomy a b with h | h | h
  · rw [Int.compare_eq_lt.2 h]
    have : decide (a = b) = false := by simp; omega
    rw [this]; rfl
  · subst h
    rw [Int.compare_eq_eq.2 rfl]; simp
  · rw [Int.compare_eq_gt.2 h]
    have : decide (a = b) = false := by simp; omega
    rw [this]; rfl
theorem ceq_ev {x y : Nat × Nat} {p q : Pt} (hx : IsC x p) (hy : IsC y q) : ceq x.1 x.2 y.1 y.2 = decide (p = q) := by
  unfold ceq
  have h1 : (FloatKind.format .f64).order x.1 y.1 = some (compare p.1 q.1) := isF_order hx.1 hy.1
  have h2 : (FloatKind.format .f64).order x.2 y.2 = some (compare p.2 q.2) := isF_order hx.2 hy.2
  rw [h1, h2, cmp_eq, cmp_eq]
  by_cases h : p = q
  · subst h; simp
  · have : ¬ (p.1 = q.1 ∧ p.2 = q.2) := fun hh => h (Prod.ext hh.1 hh.2)
    simp only [h, decide_false, Bool.and_eq_false_iff, decide_eq_false_iff_not]
    exact Classical.not_and_iff_not_or_not.1 this

/-! ### fingerprints -/
def Win : Nat → List Int → List (Int × (Nat × Nat)) → Prop
  | _, [], r => r = []
  | i, b :: l, r => ∃ z r', r = ((i : Int), z) :: r' ∧ IsC z (gs b) ∧ Win (i + 1) l r'
theorem turned_l0 (a : List Int) (hB : By a) (hl : a.length < 9223372036854775807) : ∀ (d i k : Nat), i + d = a.length → d < k → ∃ r, spin_turned_1_v1_l0 a k (i : Int) = some r ∧ Win i (a.drop i) r := by
  intro d
  induction d with
  | zero =>
    intro i k hi hk
    obtain ⟨k, rfl⟩ : ∃ n, k = n + 1 := ⟨k - 1, by omega⟩
    refine ⟨[], by rw [spin_turned_1_v1_l0, if_neg (by simp; omega)], ?_⟩
    rw [List.drop_eq_nil_of_le (by omega)]; rfl
  | succ d ih =>
    intro i k hi hk
    obtain ⟨k, rfl⟩ : ∃ n, k = n + 1 := ⟨k - 1, by omega⟩
    have hlt : i < a.length := by omega
    obtain ⟨r, hr, hw⟩ := ih (i + 1) k (by omega) (by omega)
    obtain ⟨z, hz, hzc⟩ := gauss_ev (hB a[i] (List.getElem_mem hlt))
    refine ⟨(i, z) :: r, ?_, ?_⟩
    · rw [spin_turned_1_v1_l0, if_pos (by simpa using hlt), at_lt hlt]
      simp only [Option.bind_some]
      rw [hz]
      simp only [Option.bind_some]
      rw [wrapN i (by omega), hr]; rfl
    · rw [List.drop_eq_getElem_cons hlt]
      exact ⟨z, r, rfl, hzc, hw⟩
theorem of_l0 (k : Nat) : ∀ (l : List Int) (r : List (Int × (Nat × Nat))) (i m : Nat) (z : Nat × Nat) (p : Pt), By l → Win i l r → i + l.length < 9223372036854775807 → IsC z p → Bd m p → m + 15 * l.length < 9007199254740992 →
    ∃ z', spin_Of_l0 k r z = some z' ∧ IsC z' (add2 p (ofL i l)) := by
  intro l
  induction l with
  | nil =>
    intro r i m z p _ hw _ hz _ _
    have : r = [] := hw
    subst this
    refine ⟨z, rfl, ?_⟩
    rw [add2_comm]; unfold ofL; rw [add2_zero]; exact hz
  | cons b l ih =>
    intro r i m z p hB hw hi hz hm hbd
    obtain ⟨g, r', rfl, hg, hw'⟩ := hw
    simp only [List.length_cons] at hi hbd
    obtain ⟨g', hg', hgc⟩ := turnN hg i (by omega)
    have hb1 := hm.add ((Bd.gs hB.cons.1).tqc (tn i))
    obtain ⟨s, hs, hsc⟩ := cadd_ev hz hgc hb1 (by omega)
    obtain ⟨z', hz', hc'⟩ := ih r' (i + 1) (m + 15) s _ hB.cons.2 hw' (by omega) hsc hb1 (by omega)
    refine ⟨z', ?_, ?_⟩
    · rw [spin_Of_l0]
      simp only
      rw [hg']
      simp only [Option.bind_some]
      rw [hs]
      simp only [Option.bind_some]
      exact hz'
    · rw [show ofL i (b :: l) = add2 (tqc (tn i) (gs b)) (ofL (i + 1) l) from rfl, ← add2_assoc]; exact hc'
theorem isF_zero : IsF 0 0 := ⟨false, 0, -1074, by decide, by decide, by decide⟩
theorem of_ev (k : Nat) (w : List Int) (hB : By w) (hl : w.length ≤ 2097152) (hk : w.length < k) : ∃ z, spin_Of k w = some z ∧ IsC z (ofL 0 w) := by
  obtain ⟨r, hr, hw⟩ := turned_l0 w hB (by omega) w.length 0 k (by omega) hk
  rw [List.drop_zero] at hw
  obtain ⟨z, hz, hc⟩ := of_l0 k w r 0 0 (0, 0) (0, 0) hB hw (by omega) ⟨isF_zero, isF_zero⟩ (by unfold Bd; simp) (by omega)
  rw [add2_zero] at hc
  refine ⟨z, ?_, hc⟩
  unfold spin_Of spin_turned spin_turned_1_v1
  simp only [Option.bind_some]
  rw [show (0 : Int) = ((0 : Nat) : Int) from rfl, hr]
  exact hz

/-- The reference's number. -/
def pt (p : Pt) : riddleref16_Point := ⟨p.1, p.2⟩
theorem rgauss_ev {b : Int} (h : 0 ≤ b ∧ b < 256) : riddleref16_Gauss b = some (pt (gs b)) := by
  unfold riddleref16_Gauss pt gs
  rw [Int.tdiv_eq_ediv_of_nonneg h.1, Int.tmod_eq_emod_of_nonneg h.1, wrap_u8_of _ (by omega) (by omega), wrap_i64_of _ (by omega) (by omega), wrap_i64_of _ (by omega) (by omega)]
theorem rturn_ev {n : Nat} {p : Pt} (hp : Bd n p) (hn : n < 9223372036854775807) (q : Int) : riddleref16_Turn (pt p) q = some (pt (tqc (bits .and .i64 q 3) p)) := by
  obtain ⟨h1, h2, h3, h4⟩ := hp
  unfold riddleref16_Turn tqc pt
  simp only
  generalize bits .and .i64 q 3 = c
  rw [wrap_i64_of _ (by omega) (by omega), wrap_i64_of _ (by omega) (by omega)]
  by_cases c1 : c = 1
  · subst c1; simp
  · rw [if_neg (by simpa using c1), if_neg c1]
    by_cases c2 : c = 2
    · subst c2; simp
    · rw [if_neg (by simpa using c2), if_neg c2]
      by_cases c3 : c = 3
      · subst c3; simp
      · rw [if_neg (by simpa using c3), if_neg c3]
theorem rplus_ev {n : Nat} {p q : Pt} (hb : Bd n (add2 p q)) (hn : n < 9223372036854775807) : riddleref16_Plus (pt p) (pt q) = some (pt (add2 p q)) := by
  obtain ⟨h1, h2, h3, h4⟩ := hb
  unfold riddleref16_Plus pt add2 at *
  simp only at *
  rw [wrap_i64_of _ (by omega) (by omega), wrap_i64_of _ (by omega) (by omega)]
theorem rof_l0 (a : List Int) (J : Int × Int → Option riddleref16_Point) (hB : By a) (hl : a.length ≤ 2097152) : ∀ (d i m k : Nat) (p : Pt), i + d = a.length → d < k → Bd m p → m + 15 * d < 9007199254740992 →
    riddleref16_Of_l0 a J k ((i : Int), p.1, p.2) = J (add2 p (ofL i (a.drop i))) := by
  intro d
  induction d with
  | zero =>
    intro i m k p hi hk _ _
    obtain ⟨k, rfl⟩ : ∃ n, k = n + 1 := ⟨k - 1, by omega⟩
    rw [riddleref16_Of_l0, if_neg (by simp; omega), List.drop_eq_nil_of_le (by omega), add2_comm]
    unfold ofL; rw [add2_zero]
  | succ d ih =>
    intro i m k p hi hk hm hb
    obtain ⟨k, rfl⟩ : ∃ n, k = n + 1 := ⟨k - 1, by omega⟩
    have hlt : i < a.length := by omega
    have hby := hB a[i] (List.getElem_mem hlt)
    have hb1 := hm.add ((Bd.gs hby).tqc (tn i))
    rw [riddleref16_Of_l0, if_pos (by simpa using hlt), at_lt hlt]
    simp only [Option.bind_some]
    rw [rgauss_ev hby]
    simp only [Option.bind_some]
    rw [rturn_ev (Bd.gs hby) (by omega), and3 i (by omega)]
    simp only [Option.bind_some]
    rw [show riddleref16_Point.mk p.1 p.2 = pt p from rfl, rplus_ev hb1 (by omega)]
    simp only [Option.bind_some]
    rw [wrapN i (by omega)]
    have := ih (i + 1) (m + 15) k _ (by omega) (by omega) hb1 (by omega)
    rw [show (pt (add2 p (tqc (tn i) (gs a[i])))).Re = (add2 p (tqc (tn i) (gs a[i]))).1 from rfl, show (pt (add2 p (tqc (tn i) (gs a[i])))).Im = (add2 p (tqc (tn i) (gs a[i]))).2 from rfl, this]
    rw [List.drop_eq_getElem_cons hlt, show ofL i (a[i] :: a.drop (i + 1)) = add2 (tqc (tn i) (gs a[i])) (ofL (i + 1) (a.drop (i + 1))) from rfl, add2_assoc]
theorem rof_ev (k : Nat) (w : List Int) (hB : By w) (hl : w.length ≤ 2097152) (hk : w.length < k) : riddleref16_Of k w = some (pt (ofL 0 w)) := by
  unfold riddleref16_Of
  simp only [jn]
  have := rof_l0 w (fun v4 => some (riddleref16_Point.mk v4.1 v4.2)) hB hl w.length 0 0 k (0, 0) (by omega) hk (by unfold Bd; simp) (by omega)
  rw [List.drop_zero, add2_zero] at this
  exact this
theorem point_ev {n : Nat} {p : Pt} (hb : Bd n p) (hn : n < 9007199254740992) : ∃ z, riddlelaw16_point (pt p) = some z ∧ IsC z p := by
  obtain ⟨h1, h2, h3, h4⟩ := hb
  exact ⟨(i2f p.1, i2f p.2), rfl, i2f_is p.1 (by omega) (by omega), i2f_is p.2 (by omega) (by omega)⟩
theorem roll_ev {z : Nat × Nat} {p : Pt} (hz : IsC z p) {m n : Nat} (hm : Bd m p) (hmn : m + 30 < 9007199254740992) (hn : 1 ≤ n) (hn2 : n < 9223372036854775807) {out inn : Int} (ho : 0 ≤ out ∧ out < 256) (hi : 0 ≤ inn ∧ inn < 256) :
    ∃ z', spin_Roll z (n : Int) out inn = some z' ∧ IsC z' (add2 (tqc 3 (sub2 p (gs out))) (tqc (tn (n - 1)) (gs inn))) := by
  obtain ⟨g, hg, hgc⟩ := gauss_ev ho
  obtain ⟨s, hs, hsc⟩ := csub_ev hz hgc (hm.sub (Bd.gs ho)) (by omega)
  obtain ⟨t, ht, htc⟩ := turn_ev hsc (-1)
  obtain ⟨g2, hg2, hgc2⟩ := gauss_ev hi
  obtain ⟨t2, ht2, htc2⟩ := turnN hgc2 (n - 1) (by omega)
  have h3 : bits .and .i64 (-1) 3 = 3 := by decide
  rw [h3] at htc
  obtain ⟨r, hr, hrc⟩ := cadd_ev htc htc2 ((((hm.sub (Bd.gs ho)).tqc 3).add ((Bd.gs hi).tqc _))) (by omega)
  refine ⟨r, ?_, hrc⟩
  unfold spin_Roll
  have hw : IntKind.i64.wrap ((n : Int) - 1) = ((n - 1 : Nat) : Int) := by rw [wrap_i64_of _ (by omega) (by omega)]; omega
  rw [hg, Option.bind_some, hs, Option.bind_some, ht, Option.bind_some, hg2, Option.bind_some, hw, ht2, Option.bind_some, hr, Option.bind_some]
/-- What is rolled is the next window's. -/
theorem roll_window (out inn : Int) (t : List Int) : add2 (tqc 3 (sub2 (ofL 0 (out :: t)) (gs out))) (tqc (tn ((out :: t).length - 1)) (gs inn)) = ofL 0 (t ++ [inn]) := by
  have h1 : sub2 (ofL 0 (out :: t)) (gs out) = ofL 1 t := by
    show sub2 (add2 (tqc (tn 0) (gs out)) (ofL 1 t)) (gs out) = ofL 1 t
    unfold sub2 add2 tqc tn
    refine Prod.ext ?_ ?_ <;> simp <;> omega
  rw [h1, show (3 : Int) = tn 3 from rfl, tqc_ofL, show 3 + 1 = 0 + 4 from rfl, ofL_four, ofL_append]
  congr 1
  rw [List.length_cons, Nat.add_sub_cancel, Nat.zero_add]
  unfold ofL
  rw [show ofL (t.length + 1) [] = (0, 0) from rfl, add2_comm, add2_zero]

theorem isF_c1 : IsF 13837309855095848960 (-3) := ⟨true, 6755399441055744, -51, by decide, by decide, by decide⟩
theorem isF_c2 : IsF 4617315517961601024 5 := ⟨false, 5629499534213120, -50, by decide, by decide, by decide⟩
theorem isF_c3 : IsF 4621256167635550208 9 := ⟨false, 5066549580791808, -49, by decide, by decide, by decide⟩
theorem begun_ev (k : Nat) (hk : 3 ≤ k) : riddlelaw16_begun k = some true := by
  have hB : By [18, 52] := by intro b hb; simp at hb; omega
  obtain ⟨z, hz, hc⟩ := of_ev k [18, 52] hB (by simp) (by simp; omega)
  have e1 : ofL 0 [18, 52] = (-3, 5) := by decide
  rw [e1] at hc
  have h1 := ceq_ev (y := (13837309855095848960, 4617315517961601024)) (q := (-3, 5)) hc ⟨isF_c1, isF_c2⟩
  simp only [decide_true] at h1
  obtain ⟨r, hr, hrc⟩ := roll_ev hc (m := 5) (n := 2) (by unfold Bd; simp) (by omega) (by omega) (by omega) (out := 18) (inn := 86) (by omega) (by omega)
  have e2 : add2 (tqc 3 (sub2 (-3, 5) (gs 18))) (tqc (tn (2 - 1)) (gs 86)) = (-3, 9) := by decide
  rw [e2] at hrc
  have h2 := ceq_ev (y := (13837309855095848960, 4621256167635550208)) (q := (-3, 9)) hrc ⟨isF_c1, isF_c3⟩
  simp only [decide_true] at h2
  unfold riddlelaw16_begun
  rw [hz, Option.bind_some, if_pos h1]
  have hr' : spin_Roll z 2 18 86 = some r := hr
  rw [hr', Option.bind_some, h2]; rfl
end Go.Proofs.Ytikgijnpgeaecaa
set_option linter.unusedVariables false
set_option linter.unusedSimpArgs false
set_option maxRecDepth 100000
set_option exponentiation.threshold 2000
namespace Go.Proofs.Ytikgijnpgeaecaa
open Go.AE

theorem small_ev (n : Int) : riddlelaw16_small n = some (decide (n ≤ 1048576)) := rfl
theorem bdOf {w : List Int} (hB : By w) (k : Nat) (hl : w.length ≤ 2097152) : Bd 31457280 (ofL k w) := (Bd.ofL w k hB).mono (by omega)

theorem spinMakes_ev (k : Nat) (b re im q : Int) (w : List Int) (hb : 0 ≤ b ∧ b < 256) (hr : -2147483648 ≤ re ∧ re < 2147483648) (hi : -2147483648 ≤ im ∧ im < 2147483648) (hB : By w) (hk : w.length < k) (h3 : 3 ≤ k) :
    riddlelaw16_SpinMakes k b re im q w = some true := by
  unfold riddlelaw16_SpinMakes
  rw [small_ev, Option.bind_some]
  by_cases hs : (w.length : Int) ≤ 1048576
  · have e1 : (!decide ((w.length : Int) ≤ 1048576)) = false := by simp [hs]
    rw [e1, if_neg (by simp), begun_ev k h3, Option.bind_some, if_pos rfl]
    obtain ⟨g, hg, hgc⟩ := gauss_ev hb
    obtain ⟨p1, hp1, hpc1⟩ := point_ev (Bd.gs hb) (by omega)
    rw [hg, Option.bind_some, rgauss_ev hb, Option.bind_some, hp1, Option.bind_some]
    rw [if_pos (by rw [ceq_ev hgc hpc1]; simp)]
    rw [wrap_i64_of re (by omega) (by omega), wrap_i64_of im (by omega) (by omega)]
    have hbd : Bd 2147483648 (re, im) := by unfold Bd; simp only; omega
    obtain ⟨p2, hp2, hpc2⟩ := point_ev hbd (by omega)
    have hp2' : riddlelaw16_point (riddleref16_Point.mk re im) = some p2 := hp2
    obtain ⟨t, ht, htc⟩ := turn_ev hpc2 q
    have hrt := rturn_ev hbd (by omega) q
    have hrt' : riddleref16_Turn (riddleref16_Point.mk re im) q = some (pt (tqc (bits .and .i64 q 3) (re, im))) := hrt
    obtain ⟨p3, hp3, hpc3⟩ := point_ev (hbd.tqc (bits .and .i64 q 3)) (by omega)
    rw [hp2', Option.bind_some, ht, Option.bind_some, hrt', Option.bind_some, hp3, Option.bind_some, if_pos (by rw [ceq_ev htc hpc3]; simp)]
    obtain ⟨z, hz, hzc⟩ := of_ev k w hB (by omega) hk
    obtain ⟨p4, hp4, hpc4⟩ := point_ev (bdOf hB 0 (by omega)) (by omega)
    rw [hz, Option.bind_some, rof_ev k w hB (by omega) hk, Option.bind_some, hp4, Option.bind_some, ceq_ev hzc hpc4]
    simp
  · have e1 : (!decide ((w.length : Int) ≤ 1048576)) = true := by simp [hs]
    rw [e1, if_pos rfl]

/-! ### lists put together -/
theorem concat_l1 (a b : List Int) (J : Int → Option (List Int)) (ha : a.length + b.length < 9223372036854775807) (k : Nat) (hk : 3 ≤ k) :
    slices_Concat_byte_byte_l1 [a, b] J k (0, 0) = J ((a.length + b.length : Nat) : Int) := by
  obtain ⟨k, rfl⟩ : ∃ n, k = n + 3 := ⟨k - 3, by omega⟩
  rw [slices_Concat_byte_byte_l1, if_pos (by simp), show at_ [a, b] 0 = some a from rfl, Option.bind_some, Int.zero_add, wrap_i64_of (a.length : Int) (by omega) (by omega), if_neg (by simp)]
  rw [show IntKind.i64.wrap ((0 : Int) + 1) = 1 from by decide]
  rw [slices_Concat_byte_byte_l1, if_pos (by simp), show at_ [a, b] 1 = some b from rfl, Option.bind_some, wrap_i64_of ((a.length : Int) + b.length) (by omega) (by omega), if_neg (by simp; omega)]
  rw [show IntKind.i64.wrap ((1 : Int) + 1) = 2 from by decide]
  rw [slices_Concat_byte_byte_l1, if_neg (by simp)]
  congr 1
theorem concat_l0 (a b : List Int) (J : List Int → Option (List Int)) (ha : a.length + b.length ≤ 140737488355328) (k : Nat) (hk : 3 ≤ k) :
    slices_Concat_byte_byte_l0 [a, b] J k ([], 0) = J (a ++ b) := by
  obtain ⟨k, rfl⟩ : ∃ n, k = n + 3 := ⟨k - 3, by omega⟩
  have o1 : okApp 1 (([] : List Int).length + a.length) := by unfold okApp maxLen; simp; omega
  have o2 : okApp 1 ((([] : List Int) ++ a).length + b.length) := by unfold okApp maxLen; simp; omega
  rw [slices_Concat_byte_byte_l0, if_pos (by simp), show at_ [a, b] 0 = some a from rfl, Option.bind_some, if_pos o1]
  rw [show IntKind.i64.wrap ((0 : Int) + 1) = 1 from by decide]
  rw [slices_Concat_byte_byte_l0, if_pos (by simp), show at_ [a, b] 1 = some b from rfl, Option.bind_some, if_pos o2]
  rw [show IntKind.i64.wrap ((1 : Int) + 1) = 2 from by decide]
  rw [slices_Concat_byte_byte_l0, if_neg (by simp)]
  simp
theorem concat_ev (k : Nat) (a b : List Int) (h : a.length + b.length ≤ 140737488355328) (hk : 3 ≤ k) : slices_Concat_byte_byte k [a, b] = some (a ++ b) := by
  have hg : slices_Grow_byte_byte_v1 () ((a.length + b.length : Nat) : Int) = some [] := by
    unfold slices_Grow_byte_byte_v1
    simp only [jn]
    rw [if_neg (by simp; omega), Int.sub_zero, wrap_i64_of _ (by omega) (by omega)]
    split
    · rw [if_pos (by unfold okZ maxLen; omega), if_pos ⟨by omega, by omega, by omega⟩]
      rfl
    · rfl
  unfold slices_Concat_byte_byte
  simp only [jn]
  rw [concat_l1 a b _ (by omega) k hk, hg, Option.bind_some, concat_l0 a b _ h k hk]

theorem join_ev {x y : Nat × Nat} {p q : Pt} (hx : IsC x p) (hy : IsC y q) {m n : Nat} (hm : Bd m p) (hn : Bd n q) (hb : m + n < 9007199254740992) (l : Nat) (hl : l < 9223372036854775808) : ∃ z, spin_Join x (l : Int) y = some z ∧ IsC z (add2 p (tqc (tn l) q)) := by
  obtain ⟨t, ht, htc⟩ := turnN hy l hl
  obtain ⟨s, hs, hsc⟩ := cadd_ev hx htc (hm.add (hn.tqc _)) hb
  exact ⟨s, by unfold spin_Join; rw [ht, Option.bind_some, hs, Option.bind_some], hsc⟩
theorem ofL_join (a b : List Int) : add2 (ofL 0 a) (tqc (tn a.length) (ofL 0 b)) = ofL 0 (a ++ b) := by
  rw [tqc_ofL, ofL_append, Nat.add_zero, Nat.zero_add]
theorem By.append {a b : List Int} (ha : By a) (hb : By b) : By (a ++ b) := fun x hx => (List.mem_append.1 hx).elim (ha x) (hb x)

theorem spinJoins_ev (k : Nat) (a b c : List Int) (ha : By a) (hb : By b) (hc : By c) (la : a.length < 3074457345618258602) (lb : b.length < 3074457345618258602) (lc : c.length < 3074457345618258602) (hk : a.length + b.length + c.length + 3 ≤ k) :
    riddlelaw16_SpinJoins k a b c = some true := by
  unfold riddlelaw16_SpinJoins
  rw [begun_ev k (by omega), Option.bind_some, if_neg (by simp)]
  simp only [small_ev, Option.bind_some]
  by_cases h1 : (a.length : Int) ≤ 1048576
  · rw [if_neg (by simp [h1])]
    by_cases h2 : (b.length : Int) ≤ 1048576
    · rw [if_neg (by simp [h2])]
      by_cases h3 : (c.length : Int) ≤ 1048576
      · rw [if_neg (by simp [h3])]
        simp only [Option.bind_some]
        rw [wrap_i64_of ((a.length : Int) + b.length) (by omega) (by omega), wrap_i64_of _ (by omega) (by omega)]
        by_cases h4 : (a.length : Int) + b.length + c.length ≤ 1048576
        · rw [if_neg (by simp [h4])]
          obtain ⟨x, hx, hxc⟩ := of_ev k a ha (by omega) (by omega)
          obtain ⟨y, hy, hyc⟩ := of_ev k b hb (by omega) (by omega)
          obtain ⟨z, hz, hzc⟩ := of_ev k c hc (by omega) (by omega)
          obtain ⟨ab, hab, habc⟩ := join_ev hxc hyc (bdOf ha 0 (by omega)) (bdOf hb 0 (by omega)) (by omega) a.length (by omega)
          rw [ofL_join] at habc
          have hBab := ha.append hb
          have hlab : (a ++ b).length = a.length + b.length := List.length_append
          rw [hx, Option.bind_some, hy, Option.bind_some, hz, Option.bind_some, hab, Option.bind_some, concat_ev k a b (by omega) (by omega), Option.bind_some, rof_ev k _ hBab (by omega) (by omega), Option.bind_some]
          obtain ⟨p1, hp1, hpc1⟩ := point_ev (bdOf hBab 0 (by omega)) (by omega)
          rw [hp1, Option.bind_some, if_neg (by rw [ceq_ev habc hpc1]; simp)]
          have hv : (if ((((a.length : Int)).tmod 4) == 0) = true then (cadd x.1 x.2 y.1 y.2).bind fun t7_8 => some ((!ceq ab.1 ab.2 t7_8.1 t7_8.2)) else some false) = some false := by
            split
            · rename_i h0
              obtain ⟨s, hs, hsc⟩ := cadd_ev hxc hyc ((bdOf ha 0 (by omega)).add (bdOf hb 0 (by omega))) (by omega)
              have h0' : a.length % 4 = 0 := by
                have := Int.tmod_eq_emod_of_nonneg (a := (a.length : Int)) (b := 4) (by omega)
                rw [this] at h0
                have : ((a.length : Int) % 4) = 0 := by simpa using h0
                omega
              have e : add2 (ofL 0 a) (ofL 0 b) = ofL 0 (a ++ b) := by
                rw [← ofL_join]
                congr 1
                unfold tn; rw [h0']; rfl
              rw [e] at hsc
              rw [hs, Option.bind_some, ceq_ev habc hsc]; simp
            · rfl
          rw [hv, Option.bind_some, if_neg (by simp)]
          obtain ⟨u, hu, huc⟩ := join_ev habc hzc (bdOf hBab 0 (by omega)) (bdOf hc 0 (by omega)) (by omega) (a.length + b.length) (by omega)
          obtain ⟨v, hv2, hvc⟩ := join_ev hyc hzc (bdOf hb 0 (by omega)) (bdOf hc 0 (by omega)) (by omega) b.length (by omega)
          rw [ofL_join] at hvc
          have hBbc := hb.append hc
          have hlbc : (b ++ c).length = b.length + c.length := List.length_append
          obtain ⟨t, ht, htc⟩ := join_ev hxc hvc (bdOf ha 0 (by omega)) (bdOf hBbc 0 (by omega)) (by omega) a.length (by omega)
          rw [ofL_join] at htc
          rw [← hlab, ofL_join] at huc
          have hu' : spin_Join ab ((a.length : Int) + b.length) z = some u := by rw [← Int.natCast_add]; exact hu
          rw [hu', Option.bind_some, hv2, Option.bind_some, ht, Option.bind_some, ceq_ev huc htc, List.append_assoc]; simp
        · rw [if_pos (by simp [h4])]
      · rw [if_pos (by simp [h3])]; simp [begun_ev k (by omega : 3 ≤ k)]
    · rw [if_pos (by simp [h2])]; simp [begun_ev k (by omega : 3 ≤ k)]
  · rw [if_pos (by simp [h1])]; simp [begun_ev k (by omega : 3 ≤ k)]

/-! ### from window to window -/
theorem win_next {l : List Int} {i n : Nat} (hn : 1 ≤ n) (hi : i + n < l.length) : ∃ t, (l.drop i).take n = l[i] :: t ∧ (l.drop (i + 1)).take n = t ++ [l[i + n]] := by
  refine ⟨(l.drop (i + 1)).take (n - 1), ?_, ?_⟩
  · obtain ⟨n, rfl⟩ : ∃ m, n = m + 1 := ⟨n - 1, by omega⟩
    rw [List.drop_eq_getElem_cons (by omega), List.take_succ_cons]; simp
  · obtain ⟨n, rfl⟩ : ∃ m, n = m + 1 := ⟨n - 1, by omega⟩
    rw [Nat.add_sub_cancel, List.take_add_one]
    congr 1
    rw [List.getElem?_drop, List.getElem?_eq_getElem (by omega)]
    simp only [Option.toList_some, List.cons.injEq, and_true]
    congr 1; omega
theorem By.drop {l : List Int} (h : By l) (i : Nat) : By (l.drop i) := fun x hx => h x (List.mem_of_mem_drop hx)
theorem By.take {l : List Int} (h : By l) (i : Nat) : By (l.take i) := fun x hx => h x (List.mem_of_mem_take hx)
theorem win_len {l : List Int} {i n : Nat} (h : i + n ≤ l.length) : ((l.drop i).take n).length = n := by rw [List.length_take, List.length_drop]; omega
theorem roll_win {l : List Int} (hB : By l) {i n : Nat} (hn : 1 ≤ n) (hi : i + n < l.length) (hs : n ≤ 2097152) {z : Nat × Nat} (hz : IsC z (ofL 0 ((l.drop i).take n))) :
    ∃ z', spin_Roll z (n : Int) l[i] l[i + n] = some z' ∧ IsC z' (ofL 0 ((l.drop (i + 1)).take n)) := by
  obtain ⟨t, h1, h2⟩ := win_next hn hi
  have hlen : ((l.drop i).take n).length = n := win_len (by omega)
  obtain ⟨z', hz', hc⟩ := roll_ev hz (bdOf ((hB.drop i).take n) 0 (by omega)) (by omega) hn (by omega) (out := l[i]) (inn := l[i + n]) (hB _ (List.getElem_mem (by omega))) (hB _ (List.getElem_mem (by omega : i + n < l.length)))
  refine ⟨z', hz', ?_⟩
  rw [h1] at hc hlen
  have := roll_window l[i] l[i + n] t
  rw [hlen] at this
  rw [this] at hc
  rw [h2]; exact hc
theorem sub_win (l : List Int) (i n : Nat) : sub_ l (i : Int) ((i + n : Nat) : Int) = (l.drop i).take n := by
  unfold sub_
  rw [Int.toNat_natCast, show (((i + n : Nat) : Int) - (i : Int)).toNat = n by omega]

theorem rolls_l0 (a m all : List Int) (hall : all = a ++ m) (hB : By all) (hn : 1 ≤ a.length) (hs : a.length ≤ 1048576) (hm : m.length ≤ 2000) : ∀ (d i k : Nat) (z : Nat × Nat), i + d = m.length → d + a.length < k → IsC z (ofL 0 ((all.drop i).take a.length)) →
    riddlelaw16_SpinRolls_l0 a m all (fun _ => some true) k (z, (i : Int)) = some true := by
  intro d
  have hlen : all.length = a.length + m.length := by rw [hall, List.length_append]
  induction d with
  | zero =>
    intro i k z hi hk hz
    obtain ⟨k, rfl⟩ : ∃ n, k = n + 1 := ⟨k - 1, by omega⟩
    rw [riddlelaw16_SpinRolls_l0, if_neg (by simp; omega)]
  | succ d ih =>
    intro i k z hi hk hz
    obtain ⟨k, rfl⟩ : ∃ n, k = n + 1 := ⟨k - 1, by omega⟩
    have hlt : i < m.length := by omega
    have hlt2 : i < all.length := by omega
    obtain ⟨z', hz', hc⟩ := roll_win hB hn (by omega : i + a.length < all.length) (by omega) hz
    have hin : all[i + a.length]'(by omega) = m[i] := by
      subst hall
      rw [List.getElem_append_right (by omega)]
      congr 1; omega
    rw [hin] at hz'
    have hw2 : ((all.drop (i + 1)).take a.length).length = a.length := win_len (by omega)
    rw [riddlelaw16_SpinRolls_l0, if_pos (by simpa using hlt), at_lt hlt, Option.bind_some, at_lt hlt2, Option.bind_some, hz', Option.bind_some, wrapN i (by omega)]
    rw [wrap_i64_of (((i + 1 : Nat) : Int) + a.length) (by omega) (by omega), ← Int.natCast_add]
    rw [if_pos (by omega), sub_win, rof_ev k _ ((hB.drop _).take _) (by omega) (by omega), Option.bind_some]
    obtain ⟨p, hp, hpc⟩ := point_ev (bdOf ((hB.drop (i + 1)).take a.length) 0 (by omega)) (by omega)
    rw [hp, Option.bind_some, if_neg (by rw [ceq_ev hc hpc]; simp)]
    split
    · rfl
    · exact ih (i + 1) k z' (by omega) (by omega) hc
theorem spinRolls_ev (k : Nat) (a m : List Int) (ha : By a) (hm : By m) (hk : a.length + m.length + 3 ≤ k) : riddlelaw16_SpinRolls k a m = some true := by
  unfold riddlelaw16_SpinRolls
  rw [begun_ev k (by omega), Option.bind_some, if_neg (by simp)]
  simp only [small_ev, Option.bind_some]
  by_cases h0 : a.length = 0
  · simp [h0]
  · have e0 : ((a.length : Int) == 0) = false := by simp; intro h; exact h0 (by rw [h]; rfl)
    rw [e0, if_neg (by simp)]
    by_cases h1 : (a.length : Int) ≤ 1048576
    · rw [if_neg (by simp [h1])]
      simp only [Option.bind_some]
      by_cases h2 : (m.length : Int) > 2000
      · rw [if_pos (by simp [h2])]
      · rw [if_neg (by simpa using h2)]
        obtain ⟨z, hz, hzc⟩ := of_ev k a ha (by omega) (by omega)
        rw [hz, Option.bind_some, concat_ev k a m (by omega) (by omega), Option.bind_some]
        simp only [jn]
        refine rolls_l0 a m (a ++ m) rfl (ha.append hm) (by omega) (by omega) (by omega) m.length 0 k z (by omega) (by omega) ?_
        rw [List.drop_zero, List.take_left]; exact hzc
    · rw [if_pos (by simp [h1])]; simp
end Go.Proofs.Ytikgijnpgeaecaa
