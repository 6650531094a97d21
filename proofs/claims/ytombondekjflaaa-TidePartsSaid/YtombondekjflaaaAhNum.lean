/- YtombondekjflaaaAhNum: a part of the proof; see the last text for what is proved. -/
import Derived.Test.YtombondekjflaaaAhRow
import Derived.Laws.BitsAllLaws
import Derived.Laws.BitsLemmas
set_option linter.unusedVariables false
namespace Go.AE

theorem u64_and_nat (a b : Nat) (ha : a < 18446744073709551616) (hb : b < 18446744073709551616) : bits .and .u64 (a : Int) (b : Int) = ((a &&& b : Nat) : Int) := by
  have h := bits_nat .u64 64 (Nat.le_refl _) (fun n h0 h1 => by rw [IntKind.wrap_u64]; omega) a b (by simpa using ha) (by simpa using hb)
  exact h.1
theorem u64_or_nat (a b : Nat) (ha : a < 18446744073709551616) (hb : b < 18446744073709551616) : bits .or .u64 (a : Int) (b : Int) = ((a ||| b : Nat) : Int) := by
  have h := bits_nat .u64 64 (Nat.le_refl _) (fun n h0 h1 => by rw [IntKind.wrap_u64]; omega) a b (by simpa using ha) (by simpa using hb)
  exact h.2
theorem u64_and1 (x : Int) (h0 : 0 ≤ x) (h1 : x < 18446744073709551616) : bits .and .u64 x 1 = x % 2 := by
  have := bits_mask .u64 64 (Nat.le_refl _) (fun n h0 h1 => by rw [IntKind.wrap_u64]; omega) 1 (by omega) x h0 (by simpa using h1)
  simpa using this
theorem u8_and63 (x : Int) (h0 : 0 ≤ x) (h1 : x < 256) : bits .and .u8 x 63 = x % 64 := by
  have := bits_mask .u8 8 (Nat.le_refl _) (fun n h0 h1 => by rw [IntKind.wrap_u8]; omega) 6 (by omega) x h0 (by simpa using h1)
  simpa using this
theorem wrap_u8_of (x : Int) (h0 : 0 ≤ x) (h1 : x < 256) : IntKind.u8.wrap x = x := by rw [IntKind.wrap_u8]; omega
theorem wrap_u64_of (x : Int) (h0 : 0 ≤ x) (h1 : x < 18446744073709551616) : IntKind.u64.wrap x = x := by rw [IntKind.wrap_u64]; omega
theorem wrap_i64_of (x : Int) (h0 : -9223372036854775808 ≤ x) (h1 : x < 9223372036854775808) : IntKind.i64.wrap x = x := by rw [IntKind.wrap_i64]; omega

def ints (k : IntKind) (zs : List Int) : List PV := zs.map fun z => .s (.int k z)
theorem ints_length {k : IntKind} {zs : List Int} : (ints k zs).length = zs.length := by simp [ints]
theorem ints_get {k : IntKind} {zs : List Int} {i : Nat} {z : Int} (h : zs[i]? = some z) : (ints k zs)[i]? = some (.s (.int k z)) := by simp [ints, h]
theorem ints_nil {k : IntKind} : ints k [] = [] := rfl
theorem ints_snoc {k : IntKind} {zs : List Int} {z : Int} : ints k zs ++ [.s (.int k z)] = ints k (zs ++ [z]) := by simp [ints]
def intsV (t : Tag) (k : IntKind) (zs : List Int) : PV := .sl t zs.length (ints k zs)
theorem CT_ints {P : Program} {f : Nat} {e : TypeId} {k : IntKind} (he : P.underlying e = some (.int k)) : ∀ (es : List (List PV)), (∀ x ∈ es, CT P f e x) → ∃ zs : List Int, es.flatten = ints k zs ∧ es.length = zs.length ∧ ∀ z ∈ zs, (Lit.int k z).wf = true
  | [], _ => ⟨[], rfl, rfl, fun z hz => by simp at hz⟩
  | x :: es, h => by
    obtain ⟨zs, h1, h2, h3⟩ := CT_ints he es (fun y hy => h y (List.mem_cons_of_mem _ hy))
    have hx := h x List.mem_cons_self
    cases f with
    | zero => exact hx.elim
    | succ f =>
      simp only [CT, he] at hx
      obtain ⟨n, rfl, hn⟩ := hx
      refine ⟨n :: zs, by simp [h1, ints], by simp [h2], fun z hz => ?_⟩
      rcases List.mem_cons.1 hz with rfl | hz
      · exact hn
      · exact h3 z hz
end Go.AE
