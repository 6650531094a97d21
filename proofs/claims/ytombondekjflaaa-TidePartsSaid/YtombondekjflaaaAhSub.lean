/- YtombondekjflaaaAhSub: a part of the proof; see the last text for what is proved. -/
import Derived.Test.YtombondekjflaaaAhEnc
set_option linter.unusedVariables false
set_option linter.unusedSimpArgs false
namespace Go.AE
variable {P : Program}
theorem SlO {α : Type} (e : Enc α) (d : Nat) (l : List α) (lo hi : Int) (h : 0 ≤ lo ∧ lo ≤ hi ∧ hi ≤ (l.length : Nat)) :
    (if 0 ≤ lo ∧ lo ≤ hi ∧ hi ≤ ((l.length : Nat) : Int) ∧ 0 < e.k then some (AV.sub d (lo.toNat * e.k) (hi - lo).toNat) else none) = some (.sub d (lo.toNat * e.k) (hi - lo).toNat) := if_pos ⟨h.1, h.2.1, h.2.2, e.pos⟩
def cpyAt {α : Type} (l : List α) (lo hi : Int) (m : List α) : List α := l.take lo.toNat ++ (cpy (sub_ l lo hi) m ++ l.drop hi.toNat)
theorem cpyAt_length {α : Type} (l : List α) (lo hi : Int) (m : List α) (h : 0 ≤ lo ∧ lo ≤ hi ∧ hi ≤ (l.length : Nat)) : (cpyAt l lo hi m).length = l.length := by
  unfold cpyAt
  rw [List.length_append, List.length_append, cpy_length, sub_length h]
  simp; omega
theorem Cp_set {α : Type} (e : Enc α) (l m : List α) : setL 0 ((encL e m).take (min m.length l.length * e.k)) (encL e l) = encL e (cpy l m) := by
  have := Cp e 0 0 l m
  rw [if_pos (encL_length e m)] at this
  simp only [if_true, Option.some.injEq, Prod.mk.injEq, Obj.row.injEq] at this
  exact this.2.1.2.2.2
theorem cpyAt_set {α : Type} (e : Enc α) (l m : List α) (lo hi : Int) (h : 0 ≤ lo ∧ lo ≤ hi ∧ hi ≤ (l.length : Nat)) : setL (lo.toNat * e.k) ((encL e m).take (min m.length (hi - lo).toNat * e.k)) (encL e l) = encL e (cpyAt l lo hi m) := by
  have hs := sub_length h
  have hl : l = l.take lo.toNat ++ (sub_ l lo hi ++ l.drop hi.toNat) := by
    have h1 : sub_ l lo hi ++ l.drop hi.toNat = l.drop lo.toNat := by
      unfold sub_
      have : l.drop hi.toNat = (l.drop lo.toNat).drop (hi - lo).toNat := by rw [List.drop_drop]; congr 1; omega
      rw [this, List.take_append_drop]
    rw [h1, List.take_append_drop]
  have hla : (encL e (l.take lo.toNat)).length = lo.toNat * e.k := by rw [encL_length, List.length_take]; congr 1; omega
  have hvs : ((encL e m).take (min m.length (hi - lo).toNat * e.k)).length ≤ (encL e (sub_ l lo hi)).length := by
    rw [List.length_take, encL_length, encL_length, hs]
    exact Nat.le_trans (Nat.min_le_left _ _) (Nat.mul_le_mul_right _ (Nat.min_le_right _ _))
  have e1 : encL e l = encL e (l.take lo.toNat) ++ (encL e (sub_ l lo hi) ++ encL e (l.drop hi.toNat)) := by
    rw [← encL_append, ← encL_append, ← hl]
  have e2 := setL_append_right ((encL e m).take (min m.length (hi - lo).toNat * e.k)) 0 (encL e (l.take lo.toNat)) (encL e (sub_ l lo hi) ++ encL e (l.drop hi.toNat)) (by rw [List.length_append]; omega)
  rw [Nat.add_zero, hla] at e2
  rw [e1, e2, setL_append_left _ _ _ _ (by omega)]
  have := Cp_set e (sub_ l lo hi) m
  rw [hs] at this
  rw [this]
  unfold cpyAt
  rw [encL_append, encL_append]
theorem encL_sub {α : Type} (e : Enc α) (l : List α) (lo hi : Int) : ((encL e l).drop (lo.toNat * e.k)).take ((hi - lo).toNat * e.k) = encL e (sub_ l lo hi) := by
  unfold sub_
  rw [encL_drop, encL_take]
theorem CpSS {α : Type} (e : Enc α) (d E : Nat) (l : List α) (lo hi lo2 hi2 : Int) (h : 0 ≤ lo ∧ lo ≤ hi ∧ hi ≤ (l.length : Nat)) (h2 : 0 ≤ lo2 ∧ lo2 ≤ hi2 ∧ hi2 ≤ (l.length : Nat)) (h0 : lo < hi) :
    (match (if lo2.toNat * e.k + (hi2 - lo2).toNat * e.k ≤ (encL e l).length then some ((hi2 - lo2).toNat, ((encL e l).drop (lo2.toNat * e.k)).take ((hi2 - lo2).toNat * e.k)) else none) with
      | some (m', xs) => if e.k = e.k ∧ 0 < (hi - lo).toNat ∧ lo.toNat * e.k + (hi - lo).toNat * e.k ≤ l.length * e.k then some (d, Obj.row E e.k l.length (setL (lo.toNat * e.k) (xs.take (min m' (hi - lo).toNat * e.k)) (encL e l)), min m' (hi - lo).toNat) else none
      | none => none) = some (d, .row E e.k (cpyAt l lo hi (sub_ l lo2 hi2)).length (encL e (cpyAt l lo hi (sub_ l lo2 hi2))), min (hi2 - lo2).toNat (hi - lo).toNat) := by
  have b1 : lo2.toNat * e.k + (hi2 - lo2).toNat * e.k ≤ (encL e l).length := by
    rw [encL_length, ← Nat.add_mul]; exact Nat.mul_le_mul_right _ (by omega)
  have b2 : lo.toNat * e.k + (hi - lo).toNat * e.k ≤ l.length * e.k := by
    rw [← Nat.add_mul]; exact Nat.mul_le_mul_right _ (by omega)
  rw [if_pos b1, encL_sub]
  simp only
  rw [if_pos ⟨trivial, by omega, b2⟩, cpyAt_length l lo hi _ h]
  have := cpyAt_set e l (sub_ l lo2 hi2) lo hi h
  rw [sub_length h2] at this
  rw [this]
theorem cut_inv {X : Env P} {st : St} {k d T m : Nat} {α : Type} (e : Enc α) (l : List α) (hn : k < X.n) (h1 : get k st.regs = some (.sub d 0 m)) (h2 : get d st.objs = some (rowV T e l)) (hm : m ≤ l.length) {a : Act} {w : World}
    (h : Inv X st a w) : Inv X (allocSt k (some d) (rowV T e (l.take m)) st) a w := by
  obtain ⟨γ, U, V, S⟩ := h
  have hr := S.reg k _ h1
  simp only [RA] at hr
  obtain ⟨A, c, hv, hnc, hcm, _, hA0⟩ := hr
  have ho := S.obj d _ h2
  have hlive : ∀ b, blk (γ d) = some b → live γ st.objs b := fun b hb => ⟨d, _, h2, hb⟩
  have hown : ∀ b, blk (γ d) = some b → U b := fun b hb => S.own b (hlive b hb)
  simp only [SimObj] at ho
  obtain ⟨A', c', xs, hg, hnc', hcm', hlen, hxs, hone, hh⟩ := ho
  obtain ⟨rfl, rfl⟩ := hA0 (by trivial) _ _ _ hg
  have hbl : ∀ b, blk (a.tmps.getD k undef) = some b → blk (γ d) = some b := by
    intro b hb
    rw [hv] at hb; rw [hg]
    cases A with
    | none => simp [blk] at hb
    | some ad => cases c with
      | zero => simp [blk] at hb
      | succ c => simpa [blk] using hb
  have S2 := S.alloc (d := k) (d0 := some d) (o := rowV T e (l.take m)) (v := a.tmps.getD k undef) (w' := w) hn (Same.refl _ _) (fun b hb => ⟨.inr ⟨d, _, rfl, h2, hbl b hb⟩, S.ltU b (hown b (hbl b hb))⟩) (by
    intro M' hM'
    simp only [SimObj]
    refine ⟨A, c, xs.take (m * e.k), by rw [upd_same, List.length_take, Nat.min_eq_left hm]; exact hv, by rw [List.length_take]; omega, hcm, encL_length e _, ?_, hone.take _, fun hc => ?_⟩
    · rw [← encL_take]
      exact (RPs.mono (Same.refl _ _) hM' _ _ hxs).take _
    · obtain ⟨g, cur, hA, h3, h4, h5⟩ := hh hc
      refine ⟨g, cur, hA, h3, h4, ?_⟩
      rw [← h5, List.take_take, List.length_take, Nat.min_eq_left hm]
      congr 1
      exact (Nat.min_eq_left (Nat.mul_le_mul_right _ hm)).symm)
  have e1 : a.put (some k) (a.tmps.getD k undef) = a := by
    have e2 : a.tmps.setIfInBounds k (a.tmps.getD k undef) = a.tmps := by
      apply Array.ext
      · simp
      · intro i hi1 hi2
        rw [Array.getElem_setIfInBounds]
        split
        · rename_i hik
          subst hik
          simp [Array.getD, hi2]
        · rfl
    unfold Act.put
    simp only [e2]
  rw [e1] at S2
  exact ⟨_, _, _, S2⟩
theorem WC.short {X : Env P} {Q : Exit → St → Prop} {ks : List Fr} {ex : Exit} {st : St} {n : Nat} {α : Type} (e : Enc α) (k d T : Nat) (l : List α) (hi : Int) (h : (0 : Int) ≤ 0 ∧ 0 ≤ hi ∧ hi ≤ (l.length : Nat)) (hn : X.n = n) (hk : decide (k < n) = true)
    (h1 : get k st.regs = some (.sub d 0 (hi - 0).toNat)) (h2 : get d st.objs = some (rowV T e l)) (st' : St) (hst : allocSt k (some d) (rowV T e (sub_ l 0 hi)) st = st') (hw : WC X Q ks ex st') : WC X Q ks ex st := by
  subst hst
  refine WC.lg (fun a w hi' => ?_) hw
  have e1 : sub_ l 0 hi = l.take (hi - 0).toNat := by unfold sub_; simp
  rw [e1]
  exact cut_inv e l (by rw [hn]; exact of_decide_eq_true hk) h1 h2 (by omega) hi'
end Go.AE
