/- YtpifpjeeijhhdaaDoorAaSub: a part of the proof; see the last text for what is proved. -/
import Derived.Test.YtpifpjeeijhhdaaDoorAaEnc
set_option linter.unusedVariables false
set_option linter.unusedSimpArgs false
namespace Go.AE
theorem SlO {α : Type} (e : Enc α) (d : Nat) (l : List α) (lo hi : Int) (h : 0 ≤ lo ∧ lo ≤ hi ∧ hi ≤ (l.length : Nat)) :
    (if 0 ≤ lo ∧ lo ≤ hi ∧ hi ≤ ((l.length : Nat) : Int) then some (AV.sub d (lo.toNat * e.k) (hi - lo).toNat) else none) = some (.sub d (lo.toNat * e.k) (hi - lo).toNat) := if_pos h
def cpyAt {α : Type} (l : List α) (lo hi : Int) (m : List α) : List α := l.take lo.toNat ++ (cpy (sub_ l lo hi) m ++ l.drop hi.toNat)
theorem cpyAt_length {α : Type} (l : List α) (lo hi : Int) (m : List α) (h : 0 ≤ lo ∧ lo ≤ hi ∧ hi ≤ (l.length : Nat)) : (cpyAt l lo hi m).length = l.length := by
  unfold cpyAt
  rw [List.length_append, List.length_append, cpy_length, sub_length h]
  simp; omega
theorem Cp_set {α : Type} (e : Enc α) (l m : List α) : setL 0 ((encL e m).take (min m.length l.length * e.k)) (encL e l) = encL e (cpy l m) := by
  have := Cp e 0 0 l m
  rw [if_pos (encL_length e m)] at this
  simp only [if_true, Option.some.injEq, Prod.mk.injEq, Obj.row.injEq] at this
  exact this.2.1.2.2.2
theorem cpyAt_set {α : Type} (e : Enc α) (l m : List α) (lo hi : Int) (h : 0 ≤ lo ∧ lo ≤ hi ∧ hi ≤ (l.length : Nat)) : setL (lo.toNat * e.k) ((encL e m).take (min m.length (hi - lo).toNat * e.k)) (encL e l) = encL e (cpyAt l lo hi m) := by
  have hs := sub_length h
  have hl : l = l.take lo.toNat ++ (sub_ l lo hi ++ l.drop hi.toNat) := by
    have h1 : sub_ l lo hi ++ l.drop hi.toNat = l.drop lo.toNat := by
      unfold sub_
      have : l.drop hi.toNat = (l.drop lo.toNat).drop (hi - lo).toNat := by rw [List.drop_drop]; congr 1; omega
      rw [this, List.take_append_drop]
    rw [h1, List.take_append_drop]
  have hla : (encL e (l.take lo.toNat)).length = lo.toNat * e.k := by rw [encL_length, List.length_take]; congr 1; omega
  have hvs : ((encL e m).take (min m.length (hi - lo).toNat * e.k)).length ≤ (encL e (sub_ l lo hi)).length := by
    rw [List.length_take, encL_length, encL_length, hs]
    exact Nat.le_trans (Nat.min_le_left _ _) (Nat.mul_le_mul_right _ (Nat.min_le_right _ _))
  have e1 : encL e l = encL e (l.take lo.toNat) ++ (encL e (sub_ l lo hi) ++ encL e (l.drop hi.toNat)) := by
    rw [← encL_append, ← encL_append, ← hl]
  have e2 := setL_append_right ((encL e m).take (min m.length (hi - lo).toNat * e.k)) 0 (encL e (l.take lo.toNat)) (encL e (sub_ l lo hi) ++ encL e (l.drop hi.toNat)) (by rw [List.length_append]; omega)
  rw [Nat.add_zero, hla] at e2
  rw [e1, e2, setL_append_left _ _ _ _ (by omega)]
  have := Cp_set e (sub_ l lo hi) m
  rw [hs] at this
  rw [this]
  unfold cpyAt
  rw [encL_append, encL_append]
theorem encL_sub {α : Type} (e : Enc α) (l : List α) (lo hi : Int) : ((encL e l).drop (lo.toNat * e.k)).take ((hi - lo).toNat * e.k) = encL e (sub_ l lo hi) := by
  unfold sub_
  rw [encL_drop, encL_take]
theorem CpSS {α : Type} (e : Enc α) (d E : Nat) (l : List α) (lo hi lo2 hi2 : Int) (h : 0 ≤ lo ∧ lo ≤ hi ∧ hi ≤ (l.length : Nat)) (h2 : 0 ≤ lo2 ∧ lo2 ≤ hi2 ∧ hi2 ≤ (l.length : Nat)) (h0 : lo < hi) :
    (match (if lo2.toNat * e.k + (hi2 - lo2).toNat * e.k ≤ (encL e l).length then some ((hi2 - lo2).toNat, ((encL e l).drop (lo2.toNat * e.k)).take ((hi2 - lo2).toNat * e.k)) else none) with
      | some (m', xs) => if e.k = e.k ∧ 0 < (hi - lo).toNat ∧ lo.toNat * e.k + (hi - lo).toNat * e.k ≤ l.length * e.k then some (d, Obj.row E e.k l.length (setL (lo.toNat * e.k) (xs.take (min m' (hi - lo).toNat * e.k)) (encL e l)), min m' (hi - lo).toNat) else none
      | none => none) = some (d, .row E e.k (cpyAt l lo hi (sub_ l lo2 hi2)).length (encL e (cpyAt l lo hi (sub_ l lo2 hi2))), min (hi2 - lo2).toNat (hi - lo).toNat) := by
  have b1 : lo2.toNat * e.k + (hi2 - lo2).toNat * e.k ≤ (encL e l).length := by
    rw [encL_length, ← Nat.add_mul]; exact Nat.mul_le_mul_right _ (by omega)
  have b2 : lo.toNat * e.k + (hi - lo).toNat * e.k ≤ l.length * e.k := by
    rw [← Nat.add_mul]; exact Nat.mul_le_mul_right _ (by omega)
  rw [if_pos b1, encL_sub]
  simp only
  rw [if_pos ⟨trivial, by omega, b2⟩, cpyAt_length l lo hi _ h]
  have := cpyAt_set e l (sub_ l lo2 hi2) lo hi h
  rw [sub_length h2] at this
  rw [this]
end Go.AE
