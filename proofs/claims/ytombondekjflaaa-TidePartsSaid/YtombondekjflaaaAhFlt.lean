/- YtombondekjflaaaAhFlt: a part of the proof; see the last text for what is proved. -/
import Derived.Test.YtombondekjflaaaAhShort
set_option linter.unusedVariables false
set_option linter.unusedSimpArgs false
namespace Go.AE

def fadd (a b : Nat) : Option Nat := (FloatKind.format .f64).add a b
def fsub (a b : Nat) : Option Nat := (FloatKind.format .f64).sub a b
def fneg (a : Nat) : Nat := Op.negFloat .f64 a
def feq (a b : Nat) : Bool := (FloatKind.format .f64).order a b == some .eq
def fne (a b : Nat) : Bool := (FloatKind.format .f64).order a b != some .eq
def flss (a b : Nat) : Bool := (FloatKind.format .f64).order a b == some .lt
def fleq (a b : Nat) : Bool := (FloatKind.format .f64).order a b == some .lt || (FloatKind.format .f64).order a b == some .eq
def fgtr (a b : Nat) : Bool := (FloatKind.format .f64).order a b == some .gt
def fgeq (a b : Nat) : Bool := (FloatKind.format .f64).order a b == some .gt || (FloatKind.format .f64).order a b == some .eq
def cadd (a b c d : Nat) : Option (Nat × Nat) := match (FloatKind.format .f64).add a c, (FloatKind.format .f64).add b d with
  | some r, some i => some (r, i)
  | _, _ => none
def csub (a b c d : Nat) : Option (Nat × Nat) := match (FloatKind.format .f64).sub a c, (FloatKind.format .f64).sub b d with
  | some r, some i => some (r, i)
  | _, _ => none
def ceq (a b c d : Nat) : Bool := (FloatKind.format .f64).order a c == some .eq && (FloatKind.format .f64).order b d == some .eq
def i2f (n : Int) : Nat := FloatKind.nearest .f64 n
def f2i (k : IntKind) (b : Nat) : Option Int := match (FloatKind.decode .f64 b).toInt .zero with
  | some n => if k.min ≤ n ∧ n ≤ k.max then some n else none
  | none => none

def eF : Enc Nat := ⟨fun x => [.s (.float .f64 x)], 1, fun _ => rfl, Nat.one_pos⟩
def eC : Enc (Nat × Nat) := ⟨fun x => [.s (.complex .f64 x.1 x.2)], 1, fun _ => rfl, Nat.one_pos⟩

theorem Fadd {a b v : Nat} (h : fadd a b = some v) : (((FloatKind.format .f64).add a b).map (Value.float .f64)).map (fun r => AV.p (.s r)) = some (.p (.s (.float .f64 v))) := by
  unfold fadd at h; rw [h]; rfl
theorem Fsub {a b v : Nat} (h : fsub a b = some v) : (((FloatKind.format .f64).sub a b).map (Value.float .f64)).map (fun r => AV.p (.s r)) = some (.p (.s (.float .f64 v))) := by
  unfold fsub at h; rw [h]; rfl
theorem Cadd {a b c d : Nat} {v : Nat × Nat} (h : cadd a b c d = some v) : (complexOp .add .f64 a b c d).map (fun r => AV.p (.s r)) = some (.p (.s (.complex .f64 v.1 v.2))) := by
  unfold cadd at h; unfold complexOp
  cases h1 : (FloatKind.format .f64).add a c with
  | none => rw [h1] at h; cases h
  | some r => cases h2 : (FloatKind.format .f64).add b d with
    | none => rw [h1, h2] at h; cases h
    | some i => rw [h1, h2] at h; obtain rfl := Option.some.inj h; simp only [h1, h2]; rfl
theorem Csub {a b c d : Nat} {v : Nat × Nat} (h : csub a b c d = some v) : (complexOp .sub .f64 a b c d).map (fun r => AV.p (.s r)) = some (.p (.s (.complex .f64 v.1 v.2))) := by
  unfold csub at h; unfold complexOp
  cases h1 : (FloatKind.format .f64).sub a c with
  | none => rw [h1] at h; cases h
  | some r => cases h2 : (FloatKind.format .f64).sub b d with
    | none => rw [h1, h2] at h; cases h
    | some i => rw [h1, h2] at h; obtain rfl := Option.some.inj h; simp only [h1, h2]; rfl
theorem F2i {k : IntKind} {b : Nat} {v : Int} (h : f2i k b = some v) : (match (FloatKind.decode .f64 b).toInt .zero with
    | some n => if k.min ≤ n ∧ n ≤ k.max then some (Value.int k n) else none
    | none => none).map (fun r => AV.p (.s r)) = some (.p (.s (.int k v))) := by
  unfold f2i at h
  cases e : (FloatKind.decode .f64 b).toInt .zero with
  | none => rw [e] at h; cases h
  | some n =>
    rw [e] at h
    obtain ⟨hr, rfl⟩ : (k.min ≤ n ∧ n ≤ k.max) ∧ n = v := by
      simp only at h
      split at h
      · exact ⟨‹_›, Option.some.inj h⟩
      · cases h
    simp only [if_pos hr]
    rfl

def okZ (b : Nat) (n : Int) : Prop := 0 ≤ n ∧ n.toNat * b ≤ 140737488355328 ∧ n.toNat ≤ maxLen
instance (b : Nat) (n : Int) : Decidable (okZ b n) := inferInstanceAs (Decidable (_ ∧ _ ∧ _))
theorem ApZ {α : Type} (e : Enc α) (zs : List Value) (z : α) (E b : Nat) (n : Int) (h : zs.map cellA = e.cells z) (h1 : zs.length = e.k) (hb : okZ b n) :
    (match (if 0 < zs.length ∧ 0 ≤ n ∧ n.toNat * b ≤ 140737488355328 ∧ n.toNat ≤ maxLen then some ((none : Option Nat), Obj.row E zs.length n.toNat (repZ n.toNat zs)) else none) with
      | some r => some r
      | none => none) = some (none, rowV E e (List.replicate n.toNat z)) := by
  rw [if_pos ⟨by rw [h1]; exact e.pos, hb.1, hb.2.1, hb.2.2⟩, repZ_encL h h1, h1, rowV, List.length_replicate]
theorem u8s_encL : ∀ l : List Int, u8s (encL (eI .u8) l) = some l
  | [] => rfl
  | x :: l => by
    show (u8s (encL (eI .u8) l)).map (x :: ·) = some (x :: l)
    rw [u8s_encL l]; rfl
theorem CvB (l : List Int) : (if (encL (eI .u8) l).length = l.length then (u8s (encL (eI .u8) l)).map fun l => AV.p (.s (.string (strOf l))) else none) = some (.p (.s (.string (strOf l)))) := by
  have : (encL (eI .u8) l).length = l.length := by rw [encL_length]; show l.length * 1 = _; omega
  rw [if_pos this, u8s_encL]; rfl
end Go.AE
