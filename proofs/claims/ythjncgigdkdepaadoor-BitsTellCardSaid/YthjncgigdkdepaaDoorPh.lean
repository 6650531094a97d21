/- YthjncgigdkdepaaDoorPh: a part of the proof; see the last text for what is proved. -/
import Derived.Test.YthjncgigdkdepaaDoorPg
set_option linter.unusedVariables false
set_option linter.unusedSimpArgs false
/- Chapter 1, part h: how many there are. -/
namespace Go.Proofs.YthjncgigdkdepaaDoor
open Go.AE

/-! ### bytes -/
def val : List Nat → Nat
  | [] => 0
  | a :: l => a + 256 * val l
def msk (c : Nat) : Nat → Nat
  | 0 => 0
  | k + 1 => c + 256 * msk c k
theorem and_step {a b x y : Nat} (ha : a < 256) (hb : b < 256) : (a + 256 * x) &&& (b + 256 * y) = (a &&& b) + 256 * (x &&& y) := by
  have h1 := Nat.div_add_mod ((a + 256 * x) &&& (b + 256 * y)) (2 ^ 8)
  rw [Nat.and_div_two_pow, Nat.and_mod_two_pow, show (2 : Nat) ^ 8 = 256 from rfl, show (a + 256 * x) / 256 = x by omega, show (b + 256 * y) / 256 = y by omega, show (a + 256 * x) % 256 = a by omega, show (b + 256 * y) % 256 = b by omega] at h1
  omega
def g1 (a : Nat) : Nat := ((a / 2) &&& 85) + (a &&& 85)
def g2 (a : Nat) : Nat := ((a / 4) &&& 51) + (a &&& 51)
def g3 (a : Nat) : Nat := (a / 16 + a) &&& 15
theorem d1 : ∀ a : Fin 256, ∀ e : Fin 2, (a.val / 2 + 128 * e.val) &&& 85 = (a.val / 2) &&& 85 := by decide +kernel
theorem d2 : ∀ a : Fin 256, ∀ e : Fin 4, (a.val / 4 + 64 * e.val) &&& 51 = (a.val / 4) &&& 51 := by decide +kernel
theorem d3 : ∀ a : Fin 69, ∀ e : Fin 5, (a.val / 16 + 16 * e.val + a.val) &&& 15 = g3 a.val := by decide +kernel
def AllB (l : List Nat) : Prop := ∀ a ∈ l, a < 256
theorem st1 : ∀ l : List Nat, AllB l → ((val l / 2) &&& msk 85 l.length) + (val l &&& msk 85 l.length) = val (l.map g1)
  | [], _ => rfl
  | a :: l, h => by
    have ha := h a (by simp)
    have ih := st1 l (fun x hx => h x (by simp [hx]))
    have e := d1 ⟨a, ha⟩ ⟨val l % 2, by omega⟩
    simp only at e
    simp only [val, List.length_cons, msk, List.map_cons]
    rw [show (a + 256 * val l) / 2 = (a / 2 + 128 * (val l % 2)) + 256 * (val l / 2) by omega, and_step (by omega) (by decide), and_step ha (by decide), e, ← ih]
    unfold g1; omega
theorem st2 : ∀ l : List Nat, AllB l → ((val l / 4) &&& msk 51 l.length) + (val l &&& msk 51 l.length) = val (l.map g2)
  | [], _ => rfl
  | a :: l, h => by
    have ha := h a (by simp)
    have ih := st2 l (fun x hx => h x (by simp [hx]))
    have e := d2 ⟨a, ha⟩ ⟨val l % 4, by omega⟩
    simp only at e
    simp only [val, List.length_cons, msk, List.map_cons]
    rw [show (a + 256 * val l) / 4 = (a / 4 + 64 * (val l % 4)) + 256 * (val l / 4) by omega, and_step (by omega) (by decide), and_step ha (by decide), e, ← ih]
    unfold g2; omega
theorem st3 : ∀ l : List Nat, (∀ a ∈ l, a < 69 ∧ a % 16 < 5) → (val l / 16 + val l) &&& msk 15 l.length = val (l.map g3) ∧ val l % 16 < 5
  | [], _ => ⟨rfl, by decide⟩
  | a :: l, h => by
    have ha := h a (by simp)
    obtain ⟨ih, ih2⟩ := st3 l (fun x hx => h x (by simp [hx]))
    have e := d3 ⟨a, ha.1⟩ ⟨val l % 16, ih2⟩
    simp only at e
    simp only [val, List.length_cons, msk, List.map_cons]
    constructor
    · rw [show (a + 256 * val l) / 16 + (a + 256 * val l) = (a / 16 + 16 * (val l % 16) + a) + 256 * (val l / 16 + val l) by omega, and_step (by omega) (by decide), e, ← ih]
    · omega
def cnt (p : Nat → Bool) : Nat → Nat → Nat
  | 0, _ => 0
  | d + 1, i => (if p i = true then 1 else 0) + cnt p d (i + 1)
theorem d4 : ∀ a : Fin 256, g1 a.val < 256 ∧ g2 (g1 a.val) < 69 ∧ g2 (g1 a.val) % 16 < 5 ∧ g3 (g2 (g1 a.val)) = cnt a.val.testBit 8 0 ∧ g3 (g2 (g1 a.val)) ≤ 8 := by decide +kernel
def c8 (a : Nat) : Nat := cnt a.testBit 8 0
theorem stages (l : List Nat) (h : AllB l) : (val ((l.map g1).map g2) / 16 + val ((l.map g1).map g2)) &&& msk 15 l.length = val (l.map c8) := by
  have h1 := (st3 ((l.map g1).map g2) (fun a ha => by
    simp only [List.map_map, List.mem_map] at ha
    obtain ⟨b, hb, rfl⟩ := ha
    have := d4 ⟨b, h b hb⟩
    exact ⟨this.2.1, this.2.2.1⟩)).1
  rw [List.length_map, List.length_map] at h1
  rw [h1, List.map_map, List.map_map]
  congr 1
  apply List.map_congr_left
  intro a ha
  exact (d4 ⟨a, h a ha⟩).2.2.2.1
theorem c8_le {a : Nat} (h : a < 256) : c8 a ≤ 8 := by
  have := d4 ⟨a, h⟩
  unfold c8
  rw [← this.2.2.2.1]; exact this.2.2.2.2
theorem allB_g1 (l : List Nat) (h : AllB l) : AllB (l.map g1) := fun a ha => by
  obtain ⟨b, hb, rfl⟩ := List.mem_map.1 ha
  exact (d4 ⟨b, h b hb⟩).1
def by8 (w : Nat) : List Nat := [w % 256, w / 256 % 256, w / 65536 % 256, w / 16777216 % 256, w / 4294967296 % 256, w / 1099511627776 % 256, w / 281474976710656 % 256, w / 72057594037927936 % 256]
theorem by8_all (w : Nat) : AllB (by8 w) := fun a ha => by
  unfold by8 at ha
  simp only [List.mem_cons, List.not_mem_nil, or_false] at ha
  omega
theorem by8_val (w : Nat) (h : w < 18446744073709551616) : val (by8 w) = w := by
  simp only [by8, val]; omega
def pcw (w : Nat) : Nat := ((by8 w).map c8).foldr (· + ·) 0
theorem pcw_le (w : Nat) : pcw w ≤ 64 := by
  have h := fun a ha => c8_le (by8_all w a ha)
  unfold pcw by8 at *
  simp only [List.map_cons, List.map_nil, List.foldr_cons, List.foldr_nil, List.mem_cons, List.not_mem_nil, or_false, forall_eq_or_imp, forall_eq] at *
  omega
def F1 (w : Int) : Int := IntKind.u64.wrap (bits .and .u64 (w.fdiv (2 ^ 1)) 6148914691236517205 + bits .and .u64 w 6148914691236517205)
def F2 (w : Int) : Int := IntKind.u64.wrap (bits .and .u64 (w.fdiv (2 ^ 2)) 3689348814741910323 + bits .and .u64 w 3689348814741910323)
def F3 (w : Int) : Int := bits .and .u64 (IntKind.u64.wrap (w.fdiv (2 ^ 4) + w)) 1085102592571150095
def F4 (w : Int) : Int := IntKind.u64.wrap (w + w.fdiv (2 ^ 8))
def F5 (w : Int) : Int := IntKind.u64.wrap (w + w.fdiv (2 ^ 16))
def F6 (w : Int) : Int := IntKind.u64.wrap (w + w.fdiv (2 ^ 32))
theorem ones_def (a : Int) : bits_OnesCount64 a = some (bits .and .i64 (IntKind.i64.wrap (F6 (F5 (F4 (F3 (F2 (F1 a))))))) 127) := by kernel_rfl
theorem F1_ev (w : Nat) (hw : w < 18446744073709551616) : F1 (w : Int) = ((val ((by8 w).map g1) : Nat) : Int) := by
  have a1 := st1 (by8 w) (by8_all w)
  rw [by8_val w hw, show (by8 w).length = 8 from rfl, show msk 85 8 = 6148914691236517205 by decide] at a1
  have q1 : w / 2 ^ 1 &&& 6148914691236517205 ≤ 6148914691236517205 := Nat.and_le_right
  have q2 : w &&& 6148914691236517205 ≤ 6148914691236517205 := Nat.and_le_right
  unfold F1
  rw [fdiv_nat, show (6148914691236517205 : Int) = ((6148914691236517205 : Nat) : Int) from rfl, u64_and_nat _ _ (div_lt hw _) (by decide), u64_and_nat _ _ hw (by decide), ← Int.natCast_add, wrap_u64_nat _ (by omega), ← a1]
theorem val_lt (n : Nat) : ∀ l : List Nat, (∀ a ∈ l, a < n) → 0 < n → val l ≤ (n - 1) * val (l.map fun _ => 1)
  | [], _, _ => by simp [val]
  | a :: l, h, h0 => by
    have ih := val_lt n l (fun x hx => h x (by simp [hx])) h0
    have ha := h a (by simp)
    simp only [val, List.map_cons]
    rw [Nat.mul_add, Nat.mul_one, Nat.mul_left_comm]
    omega
theorem F2_ev (w : Nat) : F2 ((val ((by8 w).map g1) : Nat) : Int) = ((val (((by8 w).map g1).map g2) : Nat) : Int) := by
  have hB := allB_g1 _ (by8_all w)
  have y2 := val_lt 256 _ hB (by decide)
  have a2 := st2 ((by8 w).map g1) hB
  rw [List.length_map, show (by8 w).length = 8 from rfl, show msk 51 8 = 3689348814741910323 by decide] at a2
  rw [List.map_map, show val (List.map ((fun _ => 1) ∘ g1) (by8 w)) = 72340172838076673 by simp [by8, val]] at y2
  rw [← a2]
  generalize val ((by8 w).map g1) = v at y2
  have q1 : v / 2 ^ 2 &&& 3689348814741910323 ≤ 3689348814741910323 := Nat.and_le_right
  have q2 : v &&& 3689348814741910323 ≤ 3689348814741910323 := Nat.and_le_right
  have y : v < 18446744073709551616 := by omega
  unfold F2
  rw [fdiv_nat, show (3689348814741910323 : Int) = ((3689348814741910323 : Nat) : Int) from rfl, u64_and_nat _ _ (div_lt y _) (by decide), u64_and_nat _ _ y (by decide), ← Int.natCast_add, wrap_u64_nat _ (by omega)]
theorem F3_ev (w : Nat) : F3 ((val (((by8 w).map g1).map g2) : Nat) : Int) = ((val ((by8 w).map c8) : Nat) : Int) := by
  have hB := by8_all w
  have a3 := stages (by8 w) hB
  have y3 := val_lt 69 (((by8 w).map g1).map g2) (fun a ha => by
      simp only [List.map_map, List.mem_map] at ha
      obtain ⟨b, hb, rfl⟩ := ha
      exact (d4 ⟨b, hB b hb⟩).2.1) (by decide)
  rw [show (by8 w).length = 8 from rfl, show msk 15 8 = 1085102592571150095 by decide] at a3
  rw [show val (List.map (fun _ => 1) (((by8 w).map g1).map g2)) = 72340172838076673 by simp [by8, val]] at y3
  rw [← a3]
  generalize val (((by8 w).map g1).map g2) = v at y3
  unfold F3
  rw [fdiv_nat, show (1085102592571150095 : Int) = ((1085102592571150095 : Nat) : Int) from rfl, ← Int.natCast_add, wrap_u64_nat _ (by omega), u64_and_nat _ _ (by omega) (by decide), show (2 : Nat) ^ 4 = 16 from rfl]
def v8 (a0 a1 a2 a3 a4 a5 a6 a7 : Nat) : Nat := a0 + 256 * a1 + 65536 * a2 + 16777216 * a3 + 4294967296 * a4 + 1099511627776 * a5 + 281474976710656 * a6 + 72057594037927936 * a7
theorem v8_lt (a0 a1 a2 a3 a4 a5 a6 a7 : Nat) (h0 : a0 < 128) (h1 : a1 < 128) (h2 : a2 < 128) (h3 : a3 < 128) (h4 : a4 < 128) (h5 : a5 < 128) (h6 : a6 < 128) (h7 : a7 < 128) : v8 a0 a1 a2 a3 a4 a5 a6 a7 < 9223372036854775808 := by unfold v8; omega
theorem v8_div8 (a0 a1 a2 a3 a4 a5 a6 a7 : Nat) (h : a0 < 256) : v8 a0 a1 a2 a3 a4 a5 a6 a7 / 256 = v8 a1 a2 a3 a4 a5 a6 a7 0 := by unfold v8; omega
theorem v8_add (a0 a1 a2 a3 a4 a5 a6 a7 b0 b1 b2 b3 b4 b5 b6 b7 : Nat) : v8 a0 a1 a2 a3 a4 a5 a6 a7 + v8 b0 b1 b2 b3 b4 b5 b6 b7 = v8 (a0 + b0) (a1 + b1) (a2 + b2) (a3 + b3) (a4 + b4) (a5 + b5) (a6 + b6) (a7 + b7) := by unfold v8; omega
theorem and127 (v : Nat) (hl : v < 9223372036854775808) : bits .and .i64 (IntKind.i64.wrap (v : Int)) 127 = ((v % 128 : Nat) : Int) := by
  have f7 := bits_mask .i64 63 (by decide) (fun n h0 h1 => by rw [IntKind.wrap_i64]; omega) 7 (by omega) (v : Int) (by omega) (by omega)
  rw [wrap_i64_of _ (by omega) (by omega)]
  rw [show ((2 : Int) ^ 7 - 1) = 127 by decide, show ((2 : Int) ^ 7) = 128 by decide] at f7
  rw [f7]; omega
theorem fin_ev (z0 z1 z2 z3 z4 z5 z6 z7 : Nat) (hz : z0 ≤ 8 ∧ z1 ≤ 8 ∧ z2 ≤ 8 ∧ z3 ≤ 8 ∧ z4 ≤ 8 ∧ z5 ≤ 8 ∧ z6 ≤ 8 ∧ z7 ≤ 8) :
    bits .and .i64 (IntKind.i64.wrap (F6 (F5 (F4 ((v8 z0 z1 z2 z3 z4 z5 z6 z7 : Nat) : Int))))) 127 = ((z0 + z1 + (z2 + z3) + (z4 + z5 + (z6 + z7)) : Nat) : Int) := by
  obtain ⟨h0, h1, h2, h3, h4, h5, h6, h7⟩ := hz
  have f4 : F4 ((v8 z0 z1 z2 z3 z4 z5 z6 z7 : Nat) : Int) = ((v8 (z0 + z1) (z1 + z2) (z2 + z3) (z3 + z4) (z4 + z5) (z5 + z6) (z6 + z7) (z7 + 0) : Nat) : Int) := by
    have hl := v8_lt (z0 + z1) (z1 + z2) (z2 + z3) (z3 + z4) (z4 + z5) (z5 + z6) (z6 + z7) (z7 + 0) (by omega) (by omega) (by omega) (by omega) (by omega) (by omega) (by omega) (by omega)
    unfold F4
    rw [fdiv_nat, show (2 : Nat) ^ 8 = 256 from rfl, v8_div8 _ _ _ _ _ _ _ _ (by omega), ← Int.natCast_add, v8_add]
    exact wrap_u64_nat _ (Nat.lt_trans hl (by decide))
  rw [f4]
  have f5 : F5 ((v8 (z0 + z1) (z1 + z2) (z2 + z3) (z3 + z4) (z4 + z5) (z5 + z6) (z6 + z7) (z7 + 0) : Nat) : Int) = ((v8 (z0 + z1 + (z2 + z3)) (z1 + z2 + (z3 + z4)) (z2 + z3 + (z4 + z5)) (z3 + z4 + (z5 + z6)) (z4 + z5 + (z6 + z7)) (z5 + z6 + (z7 + 0)) (z6 + z7 + 0) (z7 + 0 + 0) : Nat) : Int) := by
    have hl := v8_lt (z0 + z1 + (z2 + z3)) (z1 + z2 + (z3 + z4)) (z2 + z3 + (z4 + z5)) (z3 + z4 + (z5 + z6)) (z4 + z5 + (z6 + z7)) (z5 + z6 + (z7 + 0)) (z6 + z7 + 0) (z7 + 0 + 0) (by omega) (by omega) (by omega) (by omega) (by omega) (by omega) (by omega) (by omega)
    unfold F5
    rw [fdiv_nat, show (2 : Nat) ^ 16 = 256 * 256 from rfl, ← Nat.div_div_eq_div_mul, v8_div8 _ _ _ _ _ _ _ _ (by omega), v8_div8 _ _ _ _ _ _ _ _ (by omega), ← Int.natCast_add, v8_add]
    exact wrap_u64_nat _ (Nat.lt_trans hl (by decide))
  rw [f5]
  have f6 : F6 ((v8 (z0 + z1 + (z2 + z3)) (z1 + z2 + (z3 + z4)) (z2 + z3 + (z4 + z5)) (z3 + z4 + (z5 + z6)) (z4 + z5 + (z6 + z7)) (z5 + z6 + (z7 + 0)) (z6 + z7 + 0) (z7 + 0 + 0) : Nat) : Int) = ((v8 (z0 + z1 + (z2 + z3) + (z4 + z5 + (z6 + z7))) (z1 + z2 + (z3 + z4) + (z5 + z6 + (z7 + 0))) (z2 + z3 + (z4 + z5) + (z6 + z7 + 0)) (z3 + z4 + (z5 + z6) + (z7 + 0 + 0)) (z4 + z5 + (z6 + z7) + 0) (z5 + z6 + (z7 + 0) + 0) (z6 + z7 + 0 + 0) (z7 + 0 + 0 + 0) : Nat) : Int) ∧ v8 (z0 + z1 + (z2 + z3) + (z4 + z5 + (z6 + z7))) (z1 + z2 + (z3 + z4) + (z5 + z6 + (z7 + 0))) (z2 + z3 + (z4 + z5) + (z6 + z7 + 0)) (z3 + z4 + (z5 + z6) + (z7 + 0 + 0)) (z4 + z5 + (z6 + z7) + 0) (z5 + z6 + (z7 + 0) + 0) (z6 + z7 + 0 + 0) (z7 + 0 + 0 + 0) < 9223372036854775808 := by
    have hl := v8_lt (z0 + z1 + (z2 + z3) + (z4 + z5 + (z6 + z7))) (z1 + z2 + (z3 + z4) + (z5 + z6 + (z7 + 0))) (z2 + z3 + (z4 + z5) + (z6 + z7 + 0)) (z3 + z4 + (z5 + z6) + (z7 + 0 + 0)) (z4 + z5 + (z6 + z7) + 0) (z5 + z6 + (z7 + 0) + 0) (z6 + z7 + 0 + 0) (z7 + 0 + 0 + 0) (by omega) (by omega) (by omega) (by omega) (by omega) (by omega) (by omega) (by omega)
    refine ⟨?_, hl⟩
    unfold F6
    rw [fdiv_nat, show (2 : Nat) ^ 32 = 256 * 256 * 256 * 256 from rfl, ← Nat.div_div_eq_div_mul, ← Nat.div_div_eq_div_mul, ← Nat.div_div_eq_div_mul, v8_div8 _ _ _ _ _ _ _ _ (by omega), v8_div8 _ _ _ _ _ _ _ _ (by omega), v8_div8 _ _ _ _ _ _ _ _ (by omega), v8_div8 _ _ _ _ _ _ _ _ (by omega), ← Int.natCast_add, v8_add]
    exact wrap_u64_nat _ (Nat.lt_trans hl (by decide))
  obtain ⟨f6, hl⟩ := f6
  rw [f6]
  have hm : v8 (z0 + z1 + (z2 + z3) + (z4 + z5 + (z6 + z7))) (z1 + z2 + (z3 + z4) + (z5 + z6 + (z7 + 0))) (z2 + z3 + (z4 + z5) + (z6 + z7 + 0)) (z3 + z4 + (z5 + z6) + (z7 + 0 + 0)) (z4 + z5 + (z6 + z7) + 0) (z5 + z6 + (z7 + 0) + 0) (z6 + z7 + 0 + 0) (z7 + 0 + 0 + 0) % 128 = z0 + z1 + (z2 + z3) + (z4 + z5 + (z6 + z7)) := by unfold v8; omega
  rw [and127 _ hl, hm]
theorem ones_ev (w : Nat) (hw : w < 18446744073709551616) : bits_OnesCount64 (w : Int) = some ((pcw w : Nat) : Int) := by
  have hc := fun a ha => c8_le (by8_all w a ha)
  rw [ones_def, F1_ev w hw, F2_ev, F3_ev]
  unfold pcw
  simp only [by8, List.map_cons, List.map_nil, List.mem_cons, List.not_mem_nil, or_false, forall_eq_or_imp, forall_eq, val, List.foldr_cons, List.foldr_nil, Nat.mul_zero, Nat.add_zero] at hc ⊢
  have hx : ∀ z0 z1 z2 z3 z4 z5 z6 z7 : Nat, z0 + 256 * (z1 + 256 * (z2 + 256 * (z3 + 256 * (z4 + 256 * (z5 + 256 * (z6 + 256 * z7)))))) = v8 z0 z1 z2 z3 z4 z5 z6 z7 := fun _ _ _ _ _ _ _ _ => by unfold v8; omega
  rw [hx, fin_ev _ _ _ _ _ _ _ _ hc]
  simp only [Nat.add_assoc]

/-! ### how many -/
theorem cnt_add (p : Nat → Bool) : ∀ d e i, cnt p (d + e) i = cnt p d i + cnt p e (i + d) := by
  intro d
  induction d with
  | zero => intro e i; simp [cnt]
  | succ d ih => intro e i; rw [show d + 1 + e = (d + e) + 1 by omega, cnt, cnt, ih, show i + 1 + d = i + (d + 1) by omega]; omega
theorem cnt_congr (p q : Nat → Bool) : ∀ d i j, (∀ m, m < d → p (i + m) = q (j + m)) → cnt p d i = cnt q d j := by
  intro d
  induction d with
  | zero => intro i j h; rfl
  | succ d ih =>
    intro i j h
    have h0 := h 0 (by omega)
    simp only [Nat.add_zero] at h0
    rw [cnt, cnt, h0, ih (i + 1) (j + 1) (fun m hm => by have := h (m + 1) (by omega); rw [show i + 1 + m = i + (m + 1) by omega, show j + 1 + m = j + (m + 1) by omega]; exact this)]
theorem cnt_zero (p : Nat → Bool) : ∀ d i, (∀ m, i ≤ m → p m = false) → cnt p d i = 0 := by
  intro d
  induction d with
  | zero => intro i h; rfl
  | succ d ih => intro i h; rw [cnt, h i (Nat.le_refl _), ih (i + 1) (fun m hm => h m (by omega))]; rfl
theorem lst_cnt (p : Nat → Bool) (N : Nat) (hN : ∀ n, N ≤ n → p n = false) : ∀ d i, (lst p N d i).length = cnt p d i := by
  intro d
  induction d with
  | zero => intro i; rfl
  | succ d ih =>
    intro i; rw [lst, cnt]
    by_cases h : i < N ∧ p i = true
    · rw [if_pos h, if_pos h.2, List.length_cons, ih]; omega
    · rw [if_neg h, if_neg, ih]
      · omega
      · intro hp
        rcases Nat.lt_or_ge i N with h1 | h1
        · exact h ⟨h1, hp⟩
        · rw [hN i h1] at hp; cases hp
theorem cnt_val : ∀ l : List Nat, AllB l → cnt (val l).testBit (8 * l.length) 0 = (l.map c8).foldr (· + ·) 0
  | [], _ => rfl
  | a :: l, h => by
    have ha := h a (by simp)
    have ih := cnt_val l (fun x hx => h x (by simp [hx]))
    rw [List.map_cons, List.foldr_cons, ← ih, List.length_cons, show 8 * (l.length + 1) = 8 + 8 * l.length by omega, cnt_add]
    unfold c8
    congr 1
    · apply cnt_congr
      intro m hm
      simp only [Nat.zero_add]
      have : ((a + 256 * val l) % 2 ^ 8).testBit m = (a + 256 * val l).testBit m := by rw [Nat.testBit_mod_two_pow]; simp [hm]
      rw [show val (a :: l) = a + 256 * val l from rfl, ← this, show (a + 256 * val l) % 2 ^ 8 = a by omega]
    · apply cnt_congr
      intro m hm
      have : ((a + 256 * val l) / 2 ^ 8).testBit m = (a + 256 * val l).testBit (m + 8) := by rw [Nat.testBit_div_two_pow]
      rw [show val (a :: l) = a + 256 * val l from rfl, show 0 + 8 + m = m + 8 by omega, ← this, show (a + 256 * val l) / 2 ^ 8 = val l by omega, Nat.zero_add]
theorem cnt_word (w : Nat) (h : w < 18446744073709551616) : cnt w.testBit 64 0 = pcw w := by
  have := cnt_val (by8 w) (by8_all w)
  rw [by8_val w h, show 8 * (by8 w).length = 64 from rfl] at this
  exact this
theorem count_l0 {b : api_Bits} {N : Nat} {p : Nat → Bool} (h : Is b N p) (J : Int → Option Int) : ∀ (d i m : Nat), i + d = b.Words.length → d < m →
    bits_Count_l0 b J m (((cnt p (64 * i) 0 : Nat) : Int), (i : Int)) = J ((cnt p (64 * b.Words.length) 0 : Nat) : Int) := by
  have h1 := h.len; have h2 := h.le
  have hle : ∀ d i, cnt p d i ≤ d := by
    intro d
    induction d with
    | zero => intro i; exact Nat.le_refl _
    | succ d ih => intro i; rw [cnt]; have := ih (i + 1); split <;> omega
  intro d
  induction d with
  | zero =>
    intro i m hi hm
    obtain ⟨m, rfl⟩ : ∃ n, m = n + 1 := ⟨m - 1, by omega⟩
    rw [bits_Count_l0, if_neg (by simp; omega), show i = b.Words.length by omega]
  | succ d ih =>
    intro i m hi hm
    obtain ⟨m, rfl⟩ : ∃ n, m = n + 1 := ⟨m - 1, by omega⟩
    have e : cnt p (64 * (i + 1)) 0 = cnt p (64 * i) 0 + pcw (wd b.Words i) := by
      have hcc : cnt p 64 (0 + 64 * i) = cnt (wd b.Words i).testBit 64 0 := cnt_congr _ _ _ _ _ (fun m hm => by rw [Nat.zero_add, Nat.zero_add, ← h.tb, tb_at _ _ _ hm])
      rw [show 64 * (i + 1) = 64 * i + 64 by omega, cnt_add, ← cnt_word _ (wd_lt h.u i), hcc]
    have hb := hle (64 * i) 0
    have hp := pcw_le (wd b.Words i)
    rw [bits_Count_l0, if_pos (by simp; omega), at_wd h.u (by omega), Option.bind_some, ones_ev _ (wd_lt h.u i), Option.bind_some, wrapN i (by omega), wrap_i64_of _ (by omega) (by omega), ← ih (i + 1) m (by omega) (by omega), e, Int.natCast_add (cnt p (64 * i) 0)]
theorem count_ev (b : api_Bits) (hb : WF b) (k : Nat) (hk : 300 < k) : bits_Count k b = some (((al (pp b) (nN b)).length : Nat) : Int) := by
  have hi := may_is b hb.1
  have h1 := hi.len; have h2 := hi.le
  unfold bits_Count al
  rw [own_ev b hb.1 hb.2, Option.bind_some]
  simp only [jn]
  have := count_l0 hi (fun v4 => some v4) (mayB b).Words.length 0 k (by omega) (by omega)
  rw [show ((cnt (pp b) (64 * 0) 0 : Nat) : Int) = 0 from rfl, show ((0 : Nat) : Int) = 0 from rfl] at this
  rw [this, lst_cnt _ _ hi.hi]
  congr 2
  rw [show 64 * (mayB b).Words.length = nN b + (64 * (mayB b).Words.length - nN b) by omega, cnt_add, cnt_zero (pp b) (64 * (mayB b).Words.length - nN b) (0 + nN b) (fun m hm => hi.hi m (by omega))]; rfl

/-! ### the law -/
theorem bitsTell_ev (b : api_Bits) (hb : WF b) (a : Int) (h0 : -9223372036854775808 ≤ a) (h1 : a < 9223372036854775808) (k : Nat) (hk : 18000 < k) : riddlelaw01_BitsTell k b a = some true := by
  have hk' : 9000 < k := by omega
  have hi := may_is b hb.1
  have hle := hi.le
  obtain ⟨r, e1, i1⟩ := First_ev b hb a h1 k (by omega)
  obtain ⟨r', e2, i2⟩ := rFirst_ev b hb a k hk
  obtain ⟨t, e3, i3⟩ := Last_ev b hb k (by omega)
  obtain ⟨c, e4, i4⟩ := shift_ev b hb a h0 h1 k hk'
  obtain ⟨c', e5, i5⟩ := rshift_ev b hb a k hk
  have er := i1.uniq i2
  subst er
  have hlen := lst_len (pp b) (nN b) (nN b) 0
  unfold riddlelaw01_BitsTell
  rw [live_k k (by omega), Option.bind_some, if_neg (by simp), list_ev b hb k hk, Option.bind_some, e1, Option.bind_some, e2, Option.bind_some, e3, Option.bind_some, e4, e5, lall_ev b hb k hk', count_ev b hb k (by omega)]
  simp only [Option.bind_some]
  rw [i4.exact i5 k hk', equalI_ev _ _ (by unfold al; omega) k (by unfold al; omega)]
  rcases last_al hi.hi i3 with ⟨rfl, h2⟩ | ⟨n, rfl, h2, h3⟩
  · simp [h2]
  · have e6 : at_ (al (pp b) (nN b)) (IntKind.i64.wrap ((((al (pp b) (nN b)).length : Nat) : Int) - 1)) = some (n : Int) := by
      have : (al (pp b) (nN b)).length ≤ 8192 := by unfold al; omega
      rw [show (((al (pp b) (nN b)).length : Nat) : Int) - 1 = (((al (pp b) (nN b)).length - 1 : Nat) : Int) by omega, wrap_i64_of _ (by omega) (by omega), at_nat, h3]
    simp [e6, h2]
theorem i64_wf {n : Int} (h : wfI .i64 n) : -9223372036854775808 ≤ n ∧ n < 9223372036854775808 := by
  simp [wfI, Lit.wf, IntKind.min, IntKind.max, IntKind.signed, IntKind.bits] at h
  exact ⟨by omega, by omega⟩
theorem bitsTell_w (b : api_Bits) (a : Int) (hb : wf27 b) (ha : wf3 a) : ∃ k, riddlelaw01_BitsTell k b a = some true := ⟨18001, bitsTell_ev b (bits_wf hb) a (i64_wf ha).1 (i64_wf ha).2 _ (by omega)⟩
end Go.Proofs.YthjncgigdkdepaaDoor
