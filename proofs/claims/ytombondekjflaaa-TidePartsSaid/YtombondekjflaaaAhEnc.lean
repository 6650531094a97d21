/- YtombondekjflaaaAhEnc: a part of the proof; see the last text for what is proved. -/
import Derived.Test.YtombondekjflaaaAhGo
set_option linter.unusedVariables false
set_option linter.unusedSimpArgs false
namespace Go.AE
open Go.RowKit

variable {P : Program}

structure Enc (α : Type) where
  cells : α → List PV
  k : Nat
  len : ∀ a, (cells a).length = k
  pos : 0 < k

section
variable {α : Type}
def encL (e : Enc α) : List α → List PV
  | [] => []
  | x :: l => e.cells x ++ encL e l
theorem encL_length (e : Enc α) : ∀ l : List α, (encL e l).length = l.length * e.k
  | [] => by simp [encL]
  | x :: l => by simp [encL, encL_length e l, e.len, Nat.succ_mul, Nat.add_comm]
theorem encL_append (e : Enc α) : ∀ l m : List α, encL e (l ++ m) = encL e l ++ encL e m
  | [], m => rfl
  | x :: l, m => by simp [encL, encL_append e l m]
theorem encL_drop (e : Enc α) : ∀ (n : Nat) (l : List α), (encL e l).drop (n * e.k) = encL e (l.drop n)
  | 0, l => by simp
  | n + 1, [] => by simp [encL]
  | n + 1, x :: l => by
    rw [Nat.succ_mul, Nat.add_comm, encL, List.drop_append, e.len]
    simp only [List.drop_succ_cons]
    rw [List.drop_eq_nil_of_le (by rw [e.len]; omega), List.nil_append, show e.k + n * e.k - e.k = n * e.k by omega]
    exact encL_drop e n l
theorem encL_take (e : Enc α) : ∀ (n : Nat) (l : List α), (encL e l).take (n * e.k) = encL e (l.take n)
  | 0, l => by simp [encL]
  | n + 1, [] => by simp [encL]
  | n + 1, x :: l => by
    rw [Nat.succ_mul, Nat.add_comm, encL, List.take_append, e.len, List.take_of_length_le (by rw [e.len]; omega), show e.k + n * e.k - e.k = n * e.k by omega, encL_take e n l]
    rfl

def eI (q : IntKind) : Enc Int := ⟨fun x => [.s (.int q x)], 1, fun _ => rfl, Nat.one_pos⟩
def eB : Enc Bool := ⟨fun x => [.s (.bool x)], 1, fun _ => rfl, Nat.one_pos⟩
def eStr : Enc ByteArray := ⟨fun x => [.s (.string x)], 1, fun _ => rfl, Nat.one_pos⟩
def eSl (e : Enc α) : Enc (List α) := ⟨fun l => [.sl .any l.length (encL e l)], 1, fun _ => rfl, Nat.one_pos⟩
abbrev slV (e : Enc α) (l : List α) : PV := .sl .any l.length (encL e l)
abbrev rowV (T : Nat) (e : Enc α) (l : List α) : Obj := .row T e.k l.length (encL e l)

def at_ (l : List α) (i : Int) : Option α := if 0 ≤ i then l[i.toNat]? else none
theorem at_some {l : List α} {i : Int} {z : α} (h : at_ l i = some z) : 0 ≤ i ∧ i < (l.length : Nat) ∧ l[i.toNat]? = some z := by
  unfold at_ at h
  split at h
  · rename_i h0
    have := (List.getElem?_eq_some_iff.1 h).1
    exact ⟨h0, by omega, h⟩
  · cases h
theorem at_of {l : List α} {i : Int} {z : α} (h0 : 0 ≤ i) (h : l[i.toNat]? = some z) : at_ l i = some z := by
  unfold at_; rw [if_pos h0]; exact h
theorem at_nat {l : List α} {i : Nat} : at_ l (i : Int) = l[i]? := by
  unfold at_; rw [if_pos (by omega)]; simp
theorem drop_at {e : Enc α} {l : List α} {i : Int} {z : α} (h : at_ l i = some z) : (encL e l).drop (i.toNat * e.k) = e.cells z ++ encL e (l.drop (i.toNat + 1)) := by
  rw [encL_drop]
  obtain ⟨_, _, h⟩ := at_some h
  obtain ⟨hlt, he⟩ := List.getElem?_eq_some_iff.1 h
  rw [List.drop_eq_getElem_cons hlt, he]
  rfl
theorem drop_at' {e : Enc α} {l : List α} {i : Int} {z : α} (h : at_ l i = some z) (off : Nat) : (encL e l).drop (i.toNat * e.k + off) = (e.cells z ++ encL e (l.drop (i.toNat + 1))).drop off := by
  rw [← drop_at h, List.drop_drop]

/-! ### Conditions -/
theorem Ix (e : Enc α) {l : List α} {i : Int} {z : α} (h : at_ l i = some z) :
    (if 0 ≤ i ∧ i < (l.length : Nat) ∧ (encL e l).length = l.length * e.k ∧ 0 < e.k then some (AV.p (.rop ((encL e l).drop (i.toNat * e.k)))) else none) = some (.p (.rop (e.cells z ++ encL e (l.drop (i.toNat + 1))))) := by
  obtain ⟨h0, h1, _⟩ := at_some h
  rw [if_pos ⟨h0, h1, encL_length e l, e.pos⟩, drop_at h]
theorem IxS {s : ByteArray} {l : List Int} {i : Int} {z : Int} (hl : s.data.toList.map (fun b => ((b.toNat : Nat) : Int)) = l) (h : at_ l i = some z) :
    (if 0 ≤ i then (s[i.toNat]?).map (fun b => AV.p (.s (.int .u8 b.toNat))) else none) = some (.p (.s (.int .u8 z))) := by
  obtain ⟨h0, _, h2⟩ := at_some h
  rw [if_pos h0]
  subst hl
  rw [List.getElem?_map] at h2
  obtain ⟨b, hb, rfl⟩ := Option.map_eq_some_iff.1 h2
  have : s[i.toNat]? = some b := by
    have h3 : s.data[i.toNat]? = some b := by rw [← Array.getElem?_toList]; exact hb
    obtain ⟨hlt, he⟩ := Array.getElem?_eq_some_iff.1 h3
    rw [getElem?_pos s i.toNat hlt]
    exact congrArg some he
  rw [this]; rfl
theorem IxG (e : Enc α) {l : List α} {i : Int} {z : α} (len : Nat) (hl : l.length = len) (h : at_ l i = some z) :
    (if 0 ≤ i ∧ i < (len : Nat) then some (AV.p (.rop ((encL e l).drop (i.toNat * e.k)))) else none) = some (.p (.rop (e.cells z ++ encL e (l.drop (i.toNat + 1))))) := by
  obtain ⟨h0, h1, _⟩ := at_some h
  subst hl
  rw [if_pos ⟨h0, h1⟩, drop_at h]
theorem IxO (d k : Nat) {l : List α} {i : Int} {z : α} (h : at_ l i = some z) :
    (if 0 ≤ i ∧ i < (l.length : Nat) then some (AV.ptr d (i.toNat * k)) else none) = some (.ptr d (i.toNat * k)) := by
  obtain ⟨h0, h1, _⟩ := at_some h
  rw [if_pos ⟨h0, h1⟩]
theorem LdO (P : Program) (e : Enc α) (T : TypeId) (off : Nat) {l : List α} {i : Int} {z : α} (h : at_ l i = some z) :
    (loadL P T PV.agg ((encL e l).drop (i.toNat * e.k + off))).map AV.p = (loadL P T PV.agg ((e.cells z ++ encL e (l.drop (i.toNat + 1))).drop off)).map AV.p := by rw [drop_at' h]
theorem LdO0 (P : Program) (e : Enc α) (T : TypeId) {l : List α} {i : Int} {z : α} (h : at_ l i = some z) :
    (loadL P T PV.agg ((encL e l).drop (i.toNat * e.k))).map AV.p = (loadL P T PV.agg (e.cells z ++ encL e (l.drop (i.toNat + 1)))).map AV.p := by rw [drop_at h]
theorem setL_append_left {β : Type} : ∀ (vs : List β) (off : Nat) (a b : List β), off + vs.length ≤ a.length → setL off vs (a ++ b) = setL off vs a ++ b := by
  intro vs off a b h
  rw [setL_eq vs off (a ++ b) (by simp; omega), setL_eq vs off a h, List.take_append_of_le_length (by omega), List.drop_append_of_le_length h]
  simp
theorem setL_append_right {β : Type} (vs : List β) (off : Nat) (a b : List β) (h : off + vs.length ≤ b.length) : setL (a.length + off) vs (a ++ b) = a ++ setL off vs b := by
  rw [setL_eq vs _ (a ++ b) (by simp; omega), setL_eq vs off b h, List.take_length_add_append, Nat.add_assoc, List.drop_length_add_append]
  simp
theorem encL_set {e : Enc α} {ps : List PV} {off : Nat} {z z' : α} (hp : setL off ps (e.cells z) = e.cells z') (hl : off + ps.length ≤ e.k) : ∀ (l : List α) (n : Nat), l[n]? = some z → setL (n * e.k + off) ps (encL e l) = encL e (l.set n z')
  | [], n, h => by simp at h
  | x :: l, 0, h => by
    simp only [List.getElem?_cons_zero, Option.some.injEq] at h
    subst h
    simp only [Nat.zero_mul, Nat.zero_add, encL, List.set_cons_zero]
    rw [setL_append_left _ _ _ _ (by rw [e.len]; exact hl), hp]
  | x :: l, n + 1, h => by
    simp only [List.getElem?_cons_succ] at h
    have hlt := (List.getElem?_eq_some_iff.1 h).1
    have h2 : (n + 1) * e.k + off = (e.cells x).length + (n * e.k + off) := by rw [e.len, Nat.succ_mul]; omega
    have h3 : n * e.k + off + ps.length ≤ (encL e l).length := by
      rw [encL_length]
      have : (n + 1) * e.k ≤ l.length * e.k := Nat.mul_le_mul_right _ hlt
      rw [Nat.succ_mul] at this
      omega
    simp only [encL, List.set_cons_succ]
    rw [h2, setL_append_right _ _ _ _ h3, encL_set hp hl l n h]
theorem StO (e : Enc α) (d E sz m off : Nat) (ps : List PV) (z' : α) {l : List α} {i : Int} {z : α} (h : at_ l i = some z) (hp : setL off ps (e.cells z) = e.cells z') (hm : ps.length = m) (hl : off + m ≤ e.k) :
    (if m = m ∧ i.toNat * e.k + off + m ≤ (encL e l).length then some (d, Obj.row E sz l.length (setL (i.toNat * e.k + off) ps (encL e l))) else none) = some (d, .row E sz (l.set i.toNat z').length (encL e (l.set i.toNat z'))) := by
  obtain ⟨h0, h1, h2⟩ := at_some h
  have hlt := (List.getElem?_eq_some_iff.1 h2).1
  have h3 : i.toNat * e.k + off + m ≤ (encL e l).length := by
    rw [encL_length]
    have : (i.toNat + 1) * e.k ≤ l.length * e.k := Nat.mul_le_mul_right _ hlt
    rw [Nat.succ_mul] at this
    omega
  rw [if_pos ⟨rfl, h3⟩, encL_set hp (by rw [hm]; exact hl) l _ h2, List.length_set]
theorem StO0 (e : Enc α) (d E sz m : Nat) (ps : List PV) (z' : α) {l : List α} {i : Int} {z : α} (h : at_ l i = some z) (hp : setL 0 ps (e.cells z) = e.cells z') (hm : ps.length = m) (hl : m ≤ e.k) :
    (if m = m ∧ i.toNat * e.k + m ≤ (encL e l).length then some (d, Obj.row E sz l.length (setL (i.toNat * e.k) ps (encL e l))) else none) = some (d, .row E sz (l.set i.toNat z').length (encL e (l.set i.toNat z'))) := by
  have := StO e d E sz m 0 ps z' h hp hm (by omega)
  simpa using this
theorem Ap (e : Enc α) (d0 : Option Nat) (E b k : Nat) (l m : List α) (hb : (l.length + m.length) * b ≤ 140737488355328 ∧ l.length + m.length ≤ maxLen) :
    (if true = true ∧ (l.length + m.length) * b ≤ 140737488355328 ∧ l.length + m.length ≤ maxLen then some (d0, Obj.row E k (l.length + m.length) (encL e l ++ encL e m)) else none) = some (d0, .row E k (l ++ m).length (encL e (l ++ m))) := by
  rw [if_pos ⟨rfl, hb⟩, encL_append, List.length_append]
theorem ApS (e : Enc α) (d0 : Option Nat) (E b : Nat) (l m : List α) (hb : (l.length + m.length) * b ≤ 140737488355328 ∧ l.length + m.length ≤ maxLen) :
    (match (if (encL e m).length = m.length * e.k then some (m.length, encL e m) else none) with
      | some (m', xs) => if true = true ∧ (l.length + m') * b ≤ 140737488355328 ∧ l.length + m' ≤ maxLen then some (d0, Obj.row E e.k (l.length + m') (encL e l ++ xs)) else none
      | none => none) = some (d0, .row E e.k (l ++ m).length (encL e (l ++ m))) := by
  rw [if_pos (encL_length e m)]
  exact Ap e d0 E b e.k l m hb
def okApp (b : Nat) (n : Nat) : Prop := n * b ≤ 140737488355328 ∧ n ≤ maxLen
instance (b n : Nat) : Decidable (okApp b n) := inferInstanceAs (Decidable (_ ∧ _))
theorem repZ_encL {e : Enc α} {zs : List Value} {z : α} (h : zs.map cellA = e.cells z) (h1 : zs.length = e.k) : ∀ n, repZ n zs = encL e (List.replicate n z) := by
  intro n
  rw [repZ_list]
  induction n with
  | zero => simp [encL]
  | succ n ih =>
    have hzk : zs.length = e.k := h1
    rw [Nat.succ_mul, Nat.add_comm, List.range_add, List.map_append, List.replicate_succ, encL, ← ih, ← h]
    congr 1
    · apply List.ext_getElem
      · simp
      · intro i h1 h2
        simp only [List.getElem_map, List.getElem_range]
        simp only [List.length_map, List.length_range] at h1
        rw [Nat.mod_eq_of_lt h1, List.getD_eq_getElem?_getD, List.getElem?_eq_getElem h1, Option.getD_some]
    · rw [List.map_map]
      apply List.map_congr_left
      intro i _
      simp [Function.comp]
theorem Mk (e : Enc α) (zs : List Value) (z : α) (E b : Nat) (n : Int) (h : zs.map cellA = e.cells z) (h1 : zs.length = e.k) (hb : 0 ≤ n ∧ n ≤ n ∧ (b : Int) * n ≤ 281474976710656 ∧ n ≤ 9223372036854775807) :
    (if 0 ≤ n ∧ n ≤ n ∧ (b : Int) * n ≤ 281474976710656 ∧ n ≤ 9223372036854775807 then some (Obj.row E zs.length n.toNat (repZ n.toNat zs)) else none) = some (.row E e.k (List.replicate n.toNat z).length (encL e (List.replicate n.toNat z))) := by
  rw [if_pos hb, repZ_encL h h1, List.length_replicate, h1]
def okMake (b : Nat) (n : Int) : Prop := 0 ≤ n ∧ n ≤ n ∧ (b : Int) * n ≤ 281474976710656 ∧ n ≤ 9223372036854775807
instance (b : Nat) (n : Int) : Decidable (okMake b n) := inferInstanceAs (Decidable (_ ∧ _ ∧ _ ∧ _))
def sub_ (l : List α) (lo hi : Int) : List α := (l.drop lo.toNat).take (hi - lo).toNat
theorem sub_length {l : List α} {lo hi : Int} (h : 0 ≤ lo ∧ lo ≤ hi ∧ hi ≤ (l.length : Nat)) : (sub_ l lo hi).length = (hi - lo).toNat := by
  unfold sub_; simp; omega
theorem Sl (e : Enc α) (l : List α) (lo hi : Int) (h : 0 ≤ lo ∧ lo ≤ hi ∧ hi ≤ (l.length : Nat)) :
    (if 0 ≤ lo ∧ lo ≤ hi ∧ hi ≤ (l.length : Nat) ∧ (encL e l).length = l.length * e.k then some (AV.p (.sl .any (hi - lo).toNat (((encL e l).drop (lo.toNat * e.k)).take ((hi - lo).toNat * e.k)))) else none) = some (.p (.sl .any (sub_ l lo hi).length (encL e (sub_ l lo hi)))) := by
  rw [if_pos ⟨h.1, h.2.1, h.2.2, encL_length e l⟩, sub_length h, encL_drop, encL_take]
  rfl
theorem Shl (k : IntKind) (a b : Int) (h : ¬ b < 0) : (shiftOp .shl k a b).map (fun r => AV.p (.s r)) = some (.p (.s (.int k (k.wrap (a * 2 ^ min b.toNat k.bits))))) := by
  unfold shiftOp; rw [if_neg h]; rfl
theorem Shr (k : IntKind) (a b : Int) (h : ¬ b < 0) : (shiftOp .shr k a b).map (fun r => AV.p (.s r)) = some (.p (.s (.int k (a.fdiv (2 ^ min b.toNat k.bits))))) := by
  unfold shiftOp; rw [if_neg h]; rfl
theorem Quo (k : IntKind) (a b : Int) (h : ¬ b = 0) : (if b = 0 then none else some (Value.int k (k.wrap (a.tdiv b)))).map (fun r => AV.p (.s r)) = some (.p (.s (.int k (k.wrap (a.tdiv b))))) := by
  rw [if_neg h]; rfl
theorem Rem (k : IntKind) (a b : Int) (h : ¬ b = 0) : (if b = 0 then none else some (Value.int k (a.tmod b))).map (fun r => AV.p (.s r)) = some (.p (.s (.int k (a.tmod b)))) := by
  rw [if_neg h]; rfl
end

theorem Bl {a b : Bool} (h : a = b) : some (AV.p (.s (.bool a))) = some (.p (.s (.bool b))) := by rw [h]

/-! ### Ways of a printed function -/
theorem bind_some {α β : Type} {x : Option α} {f : α → Option β} {r : β} (h : x.bind f = some r) : ∃ v, x = some v ∧ f v = some r := Option.bind_eq_some_iff.1 h
theorem if_some {c : Prop} [Decidable c] {α : Type} {x : Option α} {r : α} (h : (if c then x else none) = some r) : c ∧ x = some r := by
  split at h
  · exact ⟨‹_›, h⟩
  · cases h
theorem if_or {c : Bool} {α : Type} {x y : Option α} {r : α} (h : (if c = true then x else y) = some r) : (c = true ∧ x = some r) ∨ (c = false ∧ y = some r) := by
  cases c
  · exact .inr ⟨rfl, by simpa using h⟩
  · exact .inl ⟨rfl, by simpa using h⟩

def jn {α β : Type} (J : α → Option β) (b : (α → Option β) → Option β) : Option β := b J
theorem jn_some {α β : Type} {J : α → Option β} {b : (α → Option β) → Option β} {r : β} (h : jn J b = some r) : ∃ J', (∀ v, J' v = J v) ∧ b J' = some r := ⟨J, fun _ => rfl, h⟩
theorem WC.join {P : Program} {X : Env P} {Q : Exit → St → Prop} {k : List Fr} {c : Code} {st : St} {α : Type} (S : α → St) (pre : α → Prop) (h2 : ∀ v, pre v → WC X Q k .normal (S v))
    (h1 : (∀ v, pre v → WC X Q k .normal (S v)) → WC X Q (.code c :: k) .normal st) : WC X Q (.code c :: k) .normal st := h1 h2

theorem flats_append {a b : List PV} : PV.flats (a ++ b) = (PV.flats a && PV.flats b) := by
  induction a with
  | nil => rfl
  | cons x l ih => simp only [List.cons_append, PV.flats, ih, Bool.and_assoc]
theorem flats_encL {α : Type} (e : Enc α) (h : ∀ a, PV.flats (e.cells a) = true) : ∀ l : List α, PV.flats (encL e l) = true
  | [] => rfl
  | x :: l => by rw [encL, flats_append, h, flats_encL e h l]; rfl

def cpy {α : Type} (l m : List α) : List α := m.take l.length ++ l.drop m.length
theorem cpy_length {α : Type} (l m : List α) : (cpy l m).length = l.length := by unfold cpy; simp; omega
theorem Cp {α : Type} (e : Enc α) (d E : Nat) (l m : List α) :
    (match (if (encL e m).length = m.length * e.k then some (m.length, encL e m) else none) with
      | some (m', xs) => if e.k = e.k then some (d, Obj.row E e.k l.length (setL 0 (xs.take (min m' l.length * e.k)) (encL e l)), min m' l.length) else none
      | none => none) = some (d, .row E e.k (cpy l m).length (encL e (cpy l m)), min m.length l.length) := by
  rw [if_pos (encL_length e m)]
  simp only [if_true]
  have hk : (List.take (min m.length l.length * e.k) (encL e m)).length = min m.length l.length * e.k := by
    rw [encL_take, encL_length, List.length_take]
    congr 1
    omega
  rw [setL_eq _ _ _ (by rw [hk, encL_length, Nat.zero_add]; exact Nat.mul_le_mul_right _ (Nat.min_le_right _ _)), cpy_length]
  have h1 : encL e (cpy l m) = (encL e m).take (min m.length l.length * e.k) ++ (encL e l).drop (min m.length l.length * e.k) := by
    unfold cpy
    rw [encL_append, encL_take, encL_drop]
    by_cases h : m.length ≤ l.length
    · rw [Nat.min_eq_left h, List.take_of_length_le h, List.take_of_length_le (Nat.le_refl _)]
    · rw [Nat.min_eq_right (by omega), List.drop_eq_nil_of_le (by omega), List.drop_eq_nil_of_le (Nat.le_refl _)]
  rw [h1, hk]
  simp

/-! ### Arrays of four -/
structure Arr4 (α : Type) where
  a0 : α
  a1 : α
  a2 : α
  a3 : α
def e4 {α : Type} (e : Enc α) : Enc (Arr4 α) := ⟨fun x => e.cells x.a0 ++ (e.cells x.a1 ++ (e.cells x.a2 ++ e.cells x.a3)), 4 * e.k, fun x => by simp [e.len]; omega, by have := e.pos; omega⟩
def get4 {α : Type} (a b c d : α) (i : Int) : α := if i = 0 then a else if i = 1 then b else if i = 2 then c else d
def set4 {α : Type} (j : Nat) (i : Int) (v x : α) : α := if i = (j : Int) then v else x
theorem four {i : Int} (h : 0 ≤ i ∧ i < 4) : i = 0 ∨ i = 1 ∨ i = 2 ∨ i = 3 := by omega
theorem IxA4 (d off : Nat) (i : Int) (h : 0 ≤ i ∧ i < 4) : (if 0 ≤ i ∧ i < ((4 : Nat) : Int) then some (AV.ptr d (off + i.toNat * 1)) else none) = some (.ptr d (off + i.toNat * 1)) := by
  rw [if_pos (by simpa using h)]
abbrev cI (k : IntKind) (x : Int) : AV := .p (.s (.int k x))
theorem drop_pre {α : Type} (pre l : List α) (n : Nat) : (pre ++ l).drop (pre.length + n) = l.drop n := by rw [List.drop_length_add_append]
theorem LdA4 (P : Program) (T : TypeId) (pre : List AV) (k : IntKind) (a b c d : Int) (suf : List AV) (i : Int) (h : 0 ≤ i ∧ i < 4) (hT : P.underlying T = some (.int k)) (hs : size? P T = some 1) :
    loadL P T AV.agg ((pre ++ (cI k a :: cI k b :: cI k c :: cI k d :: suf)).drop (pre.length + i.toNat * 1)) = some (.p (.s (.int k (get4 a b c d i)))) := by
  rw [drop_pre, loadL, hT, hs]
  rcases four h with rfl | rfl | rfl | rfl <;> simp [TypeDesc.isRow, get4]
theorem IdA4 (k : IntKind) (a b c d : Int) (i : Int) (h : 0 ≤ i ∧ i < 4) :
    (if 0 ≤ i ∧ i < ((4 : Nat) : Int) then [cI k a, cI k b, cI k c, cI k d][i.toNat * 1]? else none) = some (.p (.s (.int k (get4 a b c d i)))) := by
  rw [if_pos (by simpa using h)]
  rcases four h with rfl | rfl | rfl | rfl <;> simp [get4]
theorem StA4 (e T : Nat) (pre : List AV) (k : IntKind) (a b c d : Int) (suf : List AV) (i v : Int) (h : 0 ≤ i ∧ i < 4) :
    (if 1 = 1 ∧ pre.length + i.toNat * 1 + 1 ≤ (pre ++ (cI k a :: cI k b :: cI k c :: cI k d :: suf)).length then some (e, Obj.box T (setL (pre.length + i.toNat * 1) [cI k v] (pre ++ (cI k a :: cI k b :: cI k c :: cI k d :: suf)))) else none) =
      some (e, .box T (pre ++ (cI k (set4 0 i v a) :: cI k (set4 1 i v b) :: cI k (set4 2 i v c) :: cI k (set4 3 i v d) :: suf))) := by
  have hl : pre.length + i.toNat * 1 + 1 ≤ (pre ++ (cI k a :: cI k b :: cI k c :: cI k d :: suf)).length := by simp; omega
  rw [if_pos ⟨rfl, hl⟩, setL_append_right _ _ _ _ (by simp; omega)]
  rcases four h with rfl | rfl | rfl | rfl <;> simp [set4, setL]
end Go.AE
