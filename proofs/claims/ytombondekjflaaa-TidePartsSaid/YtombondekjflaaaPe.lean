/- YtombondekjflaaaPe: a part of the proof; see the last text for what is proved. -/
import Derived.Test.YtombondekjflaaaPa
set_option linter.unusedVariables false
set_option linter.unusedSimpArgs false
set_option maxRecDepth 100000
namespace Go.Proofs.Ytombondekjflaaa
open Go.AE

theorem runT_split (t : api_Tide) (w tr : List Int) : ∀ (d e i : Nat) (o : List Int) (a : Int), runT t w tr (d + e) i o a = runT t w tr e (i + d) (runT t w tr d i o a).1 (runT t w tr d i o a).2
  | 0, e, i, o, a => by simp [runT]
  | d + 1, e, i, o, a => by
    rw [show d + 1 + e = (d + e) + 1 by omega]
    simp only [runT]
    rw [runT_split t w tr d e (i + 1), show i + 1 + d = i + (d + 1) by omega]
theorem outAt_acc (t : api_Tide) (tr : List Int) (i : Nat) (a : Int) (o : List Int) : outAt t tr i a o = o ++ outAt t tr i a [] := by
  unfold outAt; split <;> simp
theorem runT_acc (t : api_Tide) (w tr : List Int) : ∀ (d i : Nat) (o : List Int) (a : Int), runT t w tr d i o a = (o ++ (runT t w tr d i [] a).1, (runT t w tr d i [] a).2)
  | 0, i, o, a => by simp [runT]
  | d + 1, i, o, a => by
    simp only [runT]
    rw [runT_acc t w tr d (i + 1) (outAt t tr i a o), runT_acc t w tr d (i + 1) (outAt t tr i a []), outAt_acc t tr i a o]
    simp
/-- Two runs that see the same: places apart by A. -/
theorem runT_shift (t : api_Tide) (A : Nat) (v w tr1 tr2 : List Int) : ∀ (d i : Nat) (a : Int), (∀ j, i ≤ j → j < i + d → ((((A + j : Nat) : Int) ∈ tr1) ↔ ((j : Int) ∈ tr2)) ∧ v[A + j]? = w[j]?) →
    runT t v tr1 d (A + i) [] a = ((runT t w tr2 d i [] a).1.map (· + (A : Int)), (runT t w tr2 d i [] a).2)
  | 0, i, a, h => by simp [runT]
  | d + 1, i, a, h => by
    have h0 := h i (Nat.le_refl _) (by omega)
    have ha : ageAt t tr1 (A + i) a = ageAt t tr2 i a := by simp only [ageAt, h0.1]
    have ho : outAt t tr1 (A + i) a [] = (outAt t tr2 i a []).map (· + (A : Int)) := by
      simp only [outAt, ha]
      split
      · simp; omega
      · rfl
    simp only [runT, ha, h0.2]
    rw [ho, runT_acc t v tr1 d (A + i + 1), runT_acc t w tr2 d (i + 1), show A + i + 1 = A + (i + 1) by omega, runT_shift t A v w tr1 tr2 d (i + 1) _ (fun j h1 h2 => h j (by omega) (by omega))]
    simp
theorem runT_in (t : api_Tide) (w tr : List Int) : ∀ (d i : Nat) (a : Int), ∀ x ∈ (runT t w tr d i [] a).1, (i : Int) ≤ x ∧ x < ((i + d : Nat) : Int)
  | 0, i, a => by simp [runT]
  | d + 1, i, a => by
    intro x hx
    simp only [runT] at hx
    rw [runT_acc] at hx
    rcases List.mem_append.1 hx with h | h
    · unfold outAt at h
      split at h
      · simp at h; omega
      · simp at h
    · have := runT_in t w tr d (i + 1) _ x h
      omega
theorem st_id (t : api_Tide) (a : Int) (h0 : -1 ≤ a) (h1 : a ≤ (mayT t).Least) : stT t ⟨a⟩ = ⟨a⟩ := by
  unfold stT
  rw [if_neg]
  simp only [out, Bool.or_eq_true, decide_eq_true_eq]
  omega
theorem least_may (t : api_Tide) : 0 ≤ (mayT t).Least ∧ (mayT t).Least ≤ 1000 := by
  have h := bad_may t
  simp only [bad, Bool.or_eq_false_iff, decide_eq_false_iff_not] at h
  omega
theorem st_in (t : api_Tide) (s : api_TideState) : -1 ≤ (stT t s).Age ∧ (stT t s).Age ≤ (mayT t).Least := by
  have h := least_may t
  unfold stT
  split
  · simp; omega
  · rename_i hh
    simp only [out, Bool.or_eq_true, decide_eq_true_eq] at hh
    omega
theorem ste_in (t : api_Tide) (s : api_TideState) (x : Int) : -1 ≤ (steT t s x).Age ∧ (steT t s x).Age ≤ (mayT t).Least := by
  have h := least_may t
  have h2 := st_in t s
  unfold steT
  split
  · simp; omega
  · rename_i hh
    simp only [not_or] at hh
    rw [wrap_i64_of _ (by omega) (by omega)]
    unfold minI; simp only; split <;> omega
theorem age_in (t : api_Tide) (tr : List Int) (i : Nat) (a : Int) (h : -1 ≤ a ∧ a ≤ (mayT t).Least) : -1 ≤ ageAt t tr i a ∧ ageAt t tr i a ≤ (mayT t).Least := by
  unfold ageAt; split
  · have := tr_ge t ⟨a⟩; omega
  · exact h
theorem run_in (t : api_Tide) (w tr : List Int) : ∀ (d i : Nat) (o : List Int) (a : Int), -1 ≤ a ∧ a ≤ (mayT t).Least → -1 ≤ (runT t w tr d i o a).2 ∧ (runT t w tr d i o a).2 ≤ (mayT t).Least
  | 0, i, o, a, h => h
  | d + 1, i, o, a, h => by
    simp only [runT]
    refine run_in t w tr d _ _ _ ?_
    have h1 := age_in t tr i a h
    split
    · exact ste_in _ _ _
    · exact h1

/-- Of triggers: those of the first text. -/
def T1 (A B : Nat) (tr : List Int) : List Int := tr.filter fun i => decide (0 ≤ i ∧ i ≤ (A : Int) ∧ i ≤ (A : Int) + B)
def T2 (A B : Nat) (tr : List Int) : List Int := (tr.filter fun i => decide (0 ≤ i ∧ (A : Int) ≤ i ∧ i ≤ (A : Int) + B)).map (· - (A : Int))
def glue (A : Nat) (a b : List Int) : List Int := b.foldl (fun l i => if i > 0 ∨ ¬ (A : Int) ∈ l then l ++ [i + (A : Int)] else l) a
theorem glue_pos (A : Nat) (b : List Int) (h : ∀ x ∈ b, x > 0) : ∀ c : List Int, glue A c b = c ++ b.map (· + (A : Int)) := by
  induction b with
  | nil => intro c; simp [glue]
  | cons x b ih =>
    intro c
    have hx := h x List.mem_cons_self
    have := ih (fun y hy => h y (List.mem_cons_of_mem _ hy)) (c ++ [x + (A : Int)])
    simp only [glue, List.foldl_cons] at this ⊢
    rw [if_pos (.inl hx), this]
    simp
theorem parts (t : api_Tide) (s : api_TideState) (v w tr : List Int) :
    runR t s (v ++ w) tr = (glue v.length (runR t s v (T1 v.length w.length tr)).1 (runR t ⟨(runR t s v (T1 v.length w.length tr)).2⟩ w (T2 v.length w.length tr)).1,
      (runR t ⟨(runR t s v (T1 v.length w.length tr)).2⟩ w (T2 v.length w.length tr)).2) := by
  obtain ⟨A, hA⟩ : ∃ A, A = v.length := ⟨_, rfl⟩
  obtain ⟨B, hB⟩ : ∃ B, B = w.length := ⟨_, rfl⟩
  obtain ⟨t1, ht1⟩ : ∃ x, x = T1 v.length w.length tr := ⟨_, rfl⟩
  obtain ⟨t2, ht2⟩ : ∃ x, x = T2 v.length w.length tr := ⟨_, rfl⟩
  have m1 : ∀ j : Nat, j ≤ A → ((j : Int) ∈ tr ↔ (j : Int) ∈ t1) := by
    intro j hj
    rw [ht1]; simp only [T1, List.mem_filter, decide_eq_true_eq, ← hA, ← hB]
    exact ⟨fun h => ⟨h, by omega⟩, fun h => h.1⟩
  have m2 : ∀ j : Nat, j ≤ B → (((A + j : Nat) : Int) ∈ tr ↔ (j : Int) ∈ t2) := by
    intro j hj
    rw [ht2]; simp only [T2, List.mem_map, List.mem_filter, decide_eq_true_eq, ← hA, ← hB]
    constructor
    · intro h
      exact ⟨_, ⟨h, by omega⟩, by omega⟩
    · rintro ⟨x, ⟨h, _⟩, h2⟩
      have : x = ((A + j : Nat) : Int) := by omega
      rwa [← this]
  rw [← ht1, ← ht2]
  unfold runR
  rw [← hA, ← hB, List.length_append, ← hA, ← hB]
  have hg := st_in t s
  generalize (stT t s).Age = g at hg ⊢
  -- the whole run
  have w1 : runT t (v ++ w) tr (A + B + 1) 0 [] g = runT t (v ++ w) tr (B + 1) A (runT t v t1 A 0 [] g).1 (runT t v t1 A 0 [] g).2 := by
    rw [show A + B + 1 = A + (B + 1) by omega, runT_split]
    have := runT_shift t 0 (v ++ w) v tr t1 A 0 g (fun j _ h => by
      refine ⟨by simpa using m1 j (by omega), ?_⟩
      rw [Nat.zero_add, List.getElem?_append_left (by omega)])
    simp only [Nat.zero_add, Int.natCast_zero, Int.add_zero, List.map_id'] at this
    rw [this]
    simp
  have w2 : runT t v t1 (A + 1) 0 [] g = (outAt t t1 A (runT t v t1 A 0 [] g).2 (runT t v t1 A 0 [] g).1, ageAt t t1 A (runT t v t1 A 0 [] g).2) := by
    rw [runT_split, Nat.zero_add]
    simp only [runT]
    rw [List.getElem?_eq_none (by omega)]
  have hin := run_in t v t1 A 0 [] g hg
  have hpl := runT_in t v t1 A 0 g
  rw [w1, w2]
  generalize (runT t v t1 A 0 [] g).1 = o1 at hpl ⊢
  generalize (runT t v t1 A 0 [] g).2 = a1 at hin ⊢
  rw [runT_acc]
  have w3 := runT_shift t A (v ++ w) w tr t2 (B + 1) 0 a1 (fun j _ h => ⟨m2 j (by omega), by
    rw [hA, List.getElem?_append_right (by omega)]; congr 1; omega⟩)
  have w3' : runT t (v ++ w) tr (B + 1) A [] a1 = _ := w3
  rw [w3']
  have hx := age_in t t1 A a1 hin
  have hag : ageAt t t2 0 (ageAt t t1 A a1) = ageAt t t2 0 a1 := by
    have e1 : ((A : Int) ∈ t1) ↔ ((0 : Nat) : Int) ∈ t2 := by rw [← m1 A (Nat.le_refl _), ← m2 0 (by omega)]; simp
    simp only [ageAt, e1]
    split
    · rw [tr_tr]
    · rfl
  have hag2 : ageAt t t1 A a1 = ageAt t t2 0 a1 := by
    have e1 : ((A : Int) ∈ t1) ↔ ((0 : Nat) : Int) ∈ t2 := by rw [← m1 A (Nat.le_refl _), ← m2 0 (by omega)]; simp
    simp only [ageAt, e1]
  have w4 : runT t w t2 (B + 1) 0 [] (ageAt t t1 A a1) = runT t w t2 (B + 1) 0 [] a1 := by
    simp only [runT, outAt, hag]
  have hst : (stT t ⟨ageAt t t1 A a1⟩).Age = ageAt t t1 A a1 := by rw [st_id t _ hx.1 hx.2]
  simp only [hst, w4]
  refine Prod.ext ?_ rfl
  simp only
  have hb : runT t w t2 (B + 1) 0 [] a1 = (outAt t t2 0 a1 [] ++ (runT t w t2 B 1 [] (match w[0]? with | some x => (steT t ⟨ageAt t t2 0 a1⟩ x).Age | none => ageAt t t2 0 a1)).1, (runT t w t2 B 1 [] (match w[0]? with | some x => (steT t ⟨ageAt t t2 0 a1⟩ x).Age | none => ageAt t t2 0 a1)).2) := by
    exact runT_acc t w t2 B 1 _ _
  rw [hb]
  have hpos := runT_in t w t2 B 1 (match w[0]? with | some x => (steT t ⟨ageAt t t2 0 a1⟩ x).Age | none => ageAt t t2 0 a1)
  generalize (runT t w t2 B 1 [] (match w[0]? with | some x => (steT t ⟨ageAt t t2 0 a1⟩ x).Age | none => ageAt t t2 0 a1)).1 = b' at hpos ⊢
  simp only [outAt, hag2]
  have hp : ∀ x ∈ b', x > 0 := fun x hx => by have := hpos x hx; omega
  by_cases hr : reT t ⟨ageAt t t2 0 a1⟩ = true
  · simp only [hr, if_true]
    have h1 : glue A (o1 ++ [(A : Int)]) ([] ++ [((0 : Nat) : Int)] ++ b') = glue A (o1 ++ [(A : Int)]) b' := by simp [glue]
    rw [h1, glue_pos A b' hp]
    simp
  · simp only [hr, if_false, Bool.false_eq_true]
    rw [List.nil_append, glue_pos A b' hp]
end Go.Proofs.Ytombondekjflaaa
set_option linter.unusedVariables false
set_option linter.unusedSimpArgs false
set_option maxRecDepth 100000
namespace Go.Proofs.Ytombondekjflaaa
open Go.AE

theorem grow_ev (n : Nat) (h : n ≤ 100000) : slices_Grow_byte_byte_v1 () (n : Int) = some [] := by
  have hm : 100000 ≤ maxLen := by decide
  unfold slices_Grow_byte_byte_v1
  simp only [jn]
  rw [if_neg (by simp), Int.sub_zero, wrap_i64_of _ (by omega) (by omega)]
  by_cases hn : (n : Int) > 0
  · rw [if_pos (by simpa using hn), if_pos ⟨by omega, by omega, by omega⟩, if_pos (by omega)]
    simp [sub_]
  · rw [if_neg (by simpa using hn)]
theorem concat_ev (v w : List Int) (hv : v.length ≤ 1000) (hw : w.length ≤ 1000) (m : Nat) : slices_Concat_byte_byte (m + 3) [v, w] = some (v ++ w) := by
  have hm : 100000 ≤ maxLen := by decide
  unfold slices_Concat_byte_byte
  simp only [jn]
  have a0 : at_ [v, w] (0 : Int) = some v := rfl
  have a1 : at_ [v, w] (1 : Int) = some w := rfl
  have k1 : IntKind.i64.wrap (0 + (v.length : Int)) = (v.length : Int) := by rw [Int.zero_add]; exact wrap_i64_of _ (by omega) (by omega)
  have k2 : IntKind.i64.wrap ((v.length : Int) + (w.length : Int)) = ((v.length + w.length : Nat) : Int) := by rw [wrap_i64_of _ (by omega) (by omega)]; omega
  have k3 : IntKind.i64.wrap (0 + 1) = 1 := by decide
  have k4 : IntKind.i64.wrap (1 + 1) = 2 := by decide
  rw [slices_Concat_byte_byte_l1, if_pos (by simp), a0]
  simp only [Option.bind_some]
  rw [k1, if_neg (by simp), k3, slices_Concat_byte_byte_l1, if_pos (by simp), a1]
  simp only [Option.bind_some]
  rw [k2, if_neg (by simp; omega), k4, slices_Concat_byte_byte_l1, if_neg (by simp)]
  rw [grow_ev _ (by omega)]
  simp only [Option.bind_some]
  rw [slices_Concat_byte_byte_l0, if_pos (by simp), a0]
  simp only [Option.bind_some]
  rw [if_pos ⟨by simp; omega, by simp; omega⟩, k3, slices_Concat_byte_byte_l0, if_pos (by simp), a1]
  simp only [Option.bind_some]
  rw [if_pos ⟨by simp; omega, by simp; omega⟩, k4, slices_Concat_byte_byte_l0, if_neg (by simp)]
  simp

theorem parts_l1 (v w tr : List Int) (hv : v.length ≤ 200) (hw : w.length ≤ 200) (htl : tr.length ≤ 200) (J : List Int × List Int → Option Bool) : ∀ (d i m : Nat) (a b : List Int), i + d = tr.length → d < m → a.length ≤ i → b.length ≤ i →
    riddlelaw14_TideParts_l1 v w tr J m (a, b, (i : Int)) = J (a ++ T1 v.length w.length (tr.drop i), b ++ T2 v.length w.length (tr.drop i)) := by
  intro d
  induction d with
  | zero =>
    intro i m a b hi hm ha hb
    obtain ⟨m, rfl⟩ : ∃ n, m = n + 1 := ⟨m - 1, by omega⟩
    rw [riddlelaw14_TideParts_l1, if_neg (by simp; omega), List.drop_eq_nil_of_le (by omega)]
    simp [T1, T2]
  | succ d ih =>
    intro i m a b hi hm ha hb
    obtain ⟨m, rfl⟩ : ∃ n, m = n + 1 := ⟨m - 1, by omega⟩
    have hlt : i < tr.length := by omega
    rw [riddlelaw14_TideParts_l1, if_pos (by simpa using hlt), at_lt hlt]
    simp only [Option.bind_some]
    rw [wrapN i (by omega), List.drop_eq_getElem_cons hlt, wrap_i64_of ((v.length : Int) + (w.length : Int)) (by omega) (by omega)]
    generalize tr[i] = x
    by_cases h1 : x < 0 ∨ x > (v.length : Int) + w.length
    · rw [if_pos (by simpa using h1), ih (i + 1) m a b (by omega) (by omega) (by omega) (by omega)]
      have e1 : T1 v.length w.length (x :: tr.drop (i + 1)) = T1 v.length w.length (tr.drop (i + 1)) := by
        unfold T1; rw [List.filter_cons, if_neg]; simp; omega
      have e2 : T2 v.length w.length (x :: tr.drop (i + 1)) = T2 v.length w.length (tr.drop (i + 1)) := by
        unfold T2; rw [List.filter_cons, if_neg]; simp; omega
      rw [e1, e2]
    · rw [if_neg (by simpa using h1)]
      simp only [not_or] at h1
      simp only [jn]
      have hm : 100000 ≤ maxLen := by decide
      have e1 : T1 v.length w.length (x :: tr.drop (i + 1)) = (if x ≤ (v.length : Int) then [x] else []) ++ T1 v.length w.length (tr.drop (i + 1)) := by
        unfold T1; rw [List.filter_cons]
        by_cases h : x ≤ (v.length : Int)
        · rw [if_pos (by simp; omega), if_pos h]; rfl
        · rw [if_neg (by simp; omega), if_neg h]; rfl
      have e2 : T2 v.length w.length (x :: tr.drop (i + 1)) = (if x ≥ (v.length : Int) then [x - (v.length : Int)] else []) ++ T2 v.length w.length (tr.drop (i + 1)) := by
        unfold T2; rw [List.filter_cons]
        by_cases h : x ≥ (v.length : Int)
        · rw [if_pos (by simp; omega), if_pos h]; simp
        · rw [if_neg (by simp; omega), if_neg h]; simp
      rw [e1, e2, ← List.append_assoc, ← List.append_assoc]
      have tail : ∀ a' : List Int, a'.length ≤ i + 1 → (if (decide (x ≥ (v.length : Int))) = true then (if okApp 8 (b.length + ([(IntKind.i64.wrap (x - (v.length : Int)))]).length) then riddlelaw14_TideParts_l1 v w tr J m (a', b ++ ([(IntKind.i64.wrap (x - (v.length : Int)))]), ((i + 1 : Nat) : Int)) else none) else riddlelaw14_TideParts_l1 v w tr J m (a', b, ((i + 1 : Nat) : Int)))
          = J (a' ++ T1 v.length w.length (tr.drop (i + 1)), b ++ (if x ≥ (v.length : Int) then [x - (v.length : Int)] else []) ++ T2 v.length w.length (tr.drop (i + 1))) := by
        intro a' ha'
        by_cases h : x ≥ (v.length : Int)
        · rw [if_pos (by simpa using h), if_pos (okApp_of (by simp; omega)), if_pos h, wrap_i64_of _ (by omega) (by omega), ih (i + 1) m _ _ (by omega) (by omega) ha' (by simp; omega)]
        · rw [if_neg (by simpa using h), if_neg h, ih (i + 1) m _ _ (by omega) (by omega) ha' (by omega)]
          simp
      by_cases h : x ≤ (v.length : Int)
      · rw [if_pos (by simpa using h), if_pos (okApp_of (by simp; omega)), if_pos h]
        exact tail _ (by simp; omega)
      · rw [if_neg (by simpa using h), if_neg h]
        simpa using tail a (by omega)

theorem parts_l0 (v : List Int) (hv : v.length ≤ 200) (p : api_TideState × List Int) (hp : p.2.length ≤ 300) (hpx : ∀ x ∈ p.2, 0 ≤ x ∧ x ≤ 300) (J : List Int → Option Bool) : ∀ (d i m : Nat) (a : List Int), i + d = p.2.length → d + 1000 ≤ m → a.length + d ≤ 600 →
    riddlelaw14_TideParts_l0 v p J m (a, (i : Int)) = J (glue v.length a (p.2.drop i)) := by
  intro d
  induction d with
  | zero =>
    intro i m a hi hm ha
    obtain ⟨m, rfl⟩ : ∃ n, m = n + 1 := ⟨m - 1, by omega⟩
    rw [riddlelaw14_TideParts_l0, if_neg (by simp; omega), List.drop_eq_nil_of_le (by omega)]
    simp [glue]
  | succ d ih =>
    intro i m a hi hm ha
    obtain ⟨m, rfl⟩ : ∃ n, m = n + 1 := ⟨m - 1, by omega⟩
    have hlt : i < p.2.length := by omega
    rw [riddlelaw14_TideParts_l0, if_pos (by simpa using hlt), at_lt hlt]
    simp only [Option.bind_some]
    have hx := hpx p.2[i] (List.getElem_mem hlt)
    rw [wrapN i (by omega), List.drop_eq_getElem_cons hlt, contains_ev _ _ (by omega) m (by omega), wrap_i64_of _ (by omega) (by omega)]
    simp only [Option.bind_some]
    generalize p.2[i] = x at hx ⊢
    have hg : ∀ l : List Int, glue v.length a (x :: l) = glue v.length (if x > 0 ∨ ¬ (v.length : Int) ∈ a then a ++ [x + (v.length : Int)] else a) l := fun l => rfl
    rw [hg]
    by_cases h1 : x > 0
    · rw [if_pos (by simpa using h1)]
      simp only [Option.bind_some, if_true]
      rw [if_pos (okApp_of (by simp; omega)), if_pos (.inl h1), ih (i + 1) m _ (by omega) (by omega) (by simp; omega)]
    · rw [if_neg (by simpa using h1)]
      simp only [Option.bind_some]
      by_cases h2 : (v.length : Int) ∈ a
      · rw [if_neg (by simpa using h2), if_neg (by simp [h2]; omega), ih (i + 1) m _ (by omega) (by omega) (by omega)]
      · rw [if_pos (by simpa using h2), if_pos (okApp_of (by simp; omega)), if_pos (.inr h2), ih (i + 1) m _ (by omega) (by omega) (by simp; omega)]

/-- TideParts' plain law. -/
theorem tideParts (t : api_Tide) (s : api_TideState) (v w tr : List Int) (ht : U64c t.Class) (hv : bytesOk v) (hw : bytesOk w) : ∃ k, riddlelaw14_TideParts k t s v w tr = some true := by
  suffices h : ∀ K, K = 4000 → riddlelaw14_TideParts K t s v w tr = some true from ⟨4000, h 4000 rfl⟩
  intro K hK
  have hbeg := begun_ev 3900
  rw [show 3900 + 100 = K by omega] at hbeg
  have hcon := fun a b => concat_ev v w a b 3997
  rw [show 3997 + 3 = K by omega] at hcon
  unfold riddlelaw14_TideParts
  rw [hbeg]
  simp only [Option.bind_some]
  by_cases hl : v.length > 200
  · rw [if_pos (by simp; omega)]
  by_cases hl2 : w.length > 200
  · rw [if_pos (by simp; omega)]
  by_cases hl3 : tr.length > 200
  · rw [if_pos (by simp; omega)]
  rw [if_neg (by simp; omega)]
  simp only [jn]
  have h0 := parts_l1 v w tr (by omega) (by omega) (by omega) (fun v7 => (tide_Run K t s v v7.1).bind fun t39_2 => (tide_Run K t t39_2.1 w v7.2).bind fun t40_2 => (slices_Concat_byte_byte K ([v, w])).bind fun t41_2 => (tide_Run K t s t41_2 tr).bind fun t41_4 => riddlelaw14_TideParts_l0 v t40_2 (fun v43 => ((if ((t40_2.1.Age == t41_4.1.Age) && true) = true then (slices_Equal_int_int K v43 t41_4.2).bind fun t61_2 => some t61_2 else some false) : Option (Bool)).bind fun v61 => some v61) K (t39_2.2, 0)) tr.length 0 K [] [] (by omega) (by omega) (by simp) (by simp)
  simp only [Int.natCast_zero, List.drop_zero, List.nil_append] at h0
  refine Eq.trans h0 ?_
  have l1 : (T1 v.length w.length tr).length ≤ 200 := by
    have := List.length_filter_le (fun i => decide (0 ≤ i ∧ i ≤ (v.length : Int) ∧ i ≤ (v.length : Int) + w.length)) tr
    unfold T1; omega
  have l2 : (T2 v.length w.length tr).length ≤ 200 := by
    have := List.length_filter_le (fun i => decide (0 ≤ i ∧ (v.length : Int) ≤ i ∧ i ≤ (v.length : Int) + w.length)) tr
    unfold T2; rw [List.length_map]; omega
  rw [run_ev t ht s v _ hv (by omega) (by omega) K (by omega)]
  simp only [Option.bind_some]
  rw [run_ev t ht _ w _ hw (by omega) (by omega) K (by omega), hcon (by omega) (by omega)]
  simp only [Option.bind_some]
  rw [run_ev t ht s (v ++ w) tr (fun x hx => (List.mem_append.1 hx).elim (hv x) (hw x)) (by rw [List.length_append]; omega) (by omega) K (by rw [List.length_append]; omega)]
  simp only [Option.bind_some]
  have hp := parts t s v w tr
  have n1 := runT_len t v (T1 v.length w.length tr) (v.length + 1) 0 [] (stT t s).Age (by simp)
  have n2 := fun g => runT_len t w (T2 v.length w.length tr) (w.length + 1) 0 [] g (by simp)
  have n3 := runT_len t (v ++ w) tr ((v ++ w).length + 1) 0 [] (stT t s).Age (by simp)
  have n4 := fun g => runT_in t w (T2 v.length w.length tr) (w.length + 1) 0 g
  rw [List.length_append] at n3
  have q1 := fun J => parts_l0 v (by omega) (⟨(runR t ⟨(runR t s v (T1 v.length w.length tr)).2⟩ w (T2 v.length w.length tr)).2⟩, (runR t ⟨(runR t s v (T1 v.length w.length tr)).2⟩ w (T2 v.length w.length tr)).1) (by
      have := n2 (stT t ⟨(runR t s v (T1 v.length w.length tr)).2⟩).Age
      simp only [runR] at this ⊢; omega) (by
      intro x hx
      have := n4 (stT t ⟨(runR t s v (T1 v.length w.length tr)).2⟩).Age x hx
      omega) J (runR t ⟨(runR t s v (T1 v.length w.length tr)).2⟩ w (T2 v.length w.length tr)).1.length 0 K (runR t s v (T1 v.length w.length tr)).1 (by simp) (by
      have := n2 (stT t ⟨(runR t s v (T1 v.length w.length tr)).2⟩).Age
      simp only [runR] at this ⊢; omega) (by
      have := n2 (stT t ⟨(runR t s v (T1 v.length w.length tr)).2⟩).Age
      simp only [runR] at this n1 ⊢; omega)
  simp only [Int.natCast_zero, List.drop_zero] at q1
  refine Eq.trans (q1 _) ?_
  rw [hp]
  simp only [beq_self_eq_true, Bool.and_true, if_true]
  rw [equal_ev]
  · simp
  · have h9 : (runR t s (v ++ w) tr).1.length ≤ 500 := by
      unfold runR; rw [List.length_append]; omega
    rw [hp] at h9; simp only at h9; omega
  · have h9 : (runR t s (v ++ w) tr).1.length ≤ 500 := by
      unfold runR; rw [List.length_append]; omega
    rw [hp] at h9; simp only at h9; omega
end Go.Proofs.Ytombondekjflaaa
