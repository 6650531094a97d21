/- YtombondekjflaaaAhK: a part of the proof; see the last text for what is proved. -/
import Derived.Test.YtombondekjflaaaAhOwn
set_option linter.unusedVariables false
set_option linter.unusedSimpArgs false
namespace Go.AE
open Go.RowKit

variable {P : Program} {X : Env P}

/-! ### A call that is handed objects -/
def keepL {α : Type} (l : List (Nat × α)) : List Nat → Option (List (Nat × α))
  | [] => some []
  | k :: ks => match get k l with
    | some v => match keepL l ks with
      | some r => some ((k, v) :: r)
      | none => none
    | none => none
theorem keepL_sub {α : Type} {l : List (Nat × α)} : ∀ {ks : List Nat} {o : List (Nat × α)}, keepL l ks = some o → Sub o l
  | [], o, h => by simp only [keepL, Option.some.injEq] at h; subst h; simp [Sub]
  | k :: ks, o, h => by
    simp only [keepL] at h
    split at h
    · rename_i v hv
      split at h
      · rename_i r hr
        obtain rfl := Option.some.inj h
        exact ⟨hv, keepL_sub hr⟩
      · cases h
    · cases h

def rowsB : List (Nat × Obj) → Bool
  | [] => true
  | (_, .row _ _ _ _) :: l => rowsB l
  | _ => false
theorem rowsB_get : ∀ {l : List (Nat × Obj)} {d : Nat} {o : Obj}, rowsB l = true → get d l = some o → ∃ T s n cs, o = .row T s n cs
  | [], d, o, _, h => by simp [get] at h
  | (e, .row T s n cs) :: l, d, o, hr, h => by
    simp only [rowsB] at hr
    simp only [get] at h
    split at h
    · obtain rfl := Option.some.inj h; exact ⟨_, _, _, _, rfl⟩
    · exact rowsB_get hr h
  | (e, .box _ _) :: l, d, o, hr, h => by simp [rowsB] at hr

def keysOf {α : Type} : List (Nat × α) → List Nat
  | [] => []
  | (d, _) :: l => d :: keysOf l
theorem has_keys {α : Type} {d : Nat} : ∀ {l : List (Nat × α)}, has d l = (keysOf l).contains d
  | [] => rfl
  | (e, v) :: l => by
    have ih := has_keys (d := d) (l := l)
    unfold has at ih ⊢
    simp only [get, keysOf, List.contains_cons]
    by_cases h : e = d
    · subst h; simp
    · have : (d == e) = false := by simp; exact fun h' => h h'.symm
      rw [if_neg h, this, Bool.false_or]; exact ih
def minus (o0 : List (Nat × Obj)) : List (Nat × Obj) → List (Nat × Obj)
  | [] => []
  | (d, ob) :: l => if has d o0 = true then minus o0 l else (d, ob) :: minus o0 l
theorem get_minus {o0 : List (Nat × Obj)} {d : Nat} : ∀ {l : List (Nat × Obj)}, get d (minus o0 l) = if has d o0 = true then none else get d l
  | [] => by simp [minus, get]
  | (e, ob) :: l => by
    have ih := get_minus (o0 := o0) (d := d) (l := l)
    simp only [minus]
    by_cases he : e = d
    · subst he
      split
      · rename_i h; rw [ih, if_pos h]
      · rename_i h; simp [get, h]
    · split
      · rw [ih]; simp only [get, if_neg he]
      · simp only [get, if_neg he]; exact ih
theorem get_append {α : Type} {d : Nat} : ∀ {l r : List (Nat × α)}, get d (l ++ r) = (get d l).or (get d r)
  | [], r => by simp [get]
  | (e, v) :: l, r => by
    simp only [List.cons_append, get]
    split
    · simp
    · exact get_append

def freshK (o0 : List (Nat × Obj)) : List (Nat × Obj) → List Nat
  | [] => []
  | (d, _) :: l => if has d o0 = true then freshK o0 l else d :: freshK o0 l
theorem mem_fresh {o0 : List (Nat × Obj)} {d : Nat} : ∀ {l : List (Nat × Obj)}, (freshK o0 l).contains d = (has d l && !has d o0)
  | [] => by simp [freshK, has, get]
  | (e, ob) :: l => by
    have ih := mem_fresh (o0 := o0) (d := d) (l := l)
    simp only [freshK]
    by_cases he : e = d
    · subst he
      have h1 : has e ((e, ob) :: l) = true := by simp [has, get]
      split
      · rename_i h; rw [ih, h1, h]; simp
      · rename_i h; rw [List.contains_cons, h1]; simp [h]
    · have h1 : has d ((e, ob) :: l) = has d l := by simp [has, get, he]
      have h2 : (d == e) = false := by simp; exact fun h' => he h'.symm
      split
      · rw [ih, h1]
      · rw [List.contains_cons, h2, Bool.false_or, ih, h1]

mutual
def AV.touch (o0 : List (Nat × Obj)) : AV → Bool
  | .own e => has e o0
  | .sub e _ _ => has e o0
  | .ptr e _ => has e o0
  | .agg cs => AV.touchL o0 cs
  | .fn _ cap => AV.touchL o0 cap
  | .tup vs => AV.touchL o0 vs
  | _ => false
def AV.touchL (o0 : List (Nat × Obj)) : List AV → Bool
  | [] => false
  | x :: l => AV.touch o0 x || AV.touchL o0 l
end
mutual
def passA (o0 F : List (Nat × Obj)) : AV → Option AV
  | .own d => if has d o0 = true then some (.own d) else (frzC F (.own d)).map .p
  | .agg cs => if AV.touchL o0 cs = true then (passAs o0 F cs).map .agg else (frzA F (.agg cs)).map .p
  | .p x => some (.p x)
  | .sub d off n => (frzA F (.sub d off n)).map .p
  | .ptr d off => (frzA F (.ptr d off)).map .p
  | .fn f cap => (frzA F (.fn f cap)).map .p
  | .tup vs => (frzA F (.tup vs)).map .p
  | .lit n cs => some (.p (.sl .nn n cs))
  | _ => none
def passAs (o0 F : List (Nat × Obj)) : List AV → Option (List AV)
  | [] => some []
  | x :: l => match passA o0 F x, passAs o0 F l with
    | some y, some ys => some (y :: ys)
    | _, _ => none
end

section
variable {γ : Nat → Value} {U V : Nat → Prop} {st : St} {a : Act} {w w' : World} {Y : Value} {M M1 : Nat → Prop} {o0 F : List (Nat × Obj)}
theorem frzA_own {d : Nat} {objs : List (Nat × Obj)} : frzA objs (.own d) = frzC objs (.own d) := rfl
mutual
theorem passA_sound (hγ : ∀ d o, get d F = some o → SimObj Y γ w M d o) (hM1 : ∀ b, M1 b → M b) (hlive : ∀ d o b, get d F = some o → blk (γ d) = some b → ¬ M1 b) :
    ∀ (x a : AV) (v : Value), passA o0 F x = some a → RA Y γ w M x v → RA undef γ w M1 a v
  | .own d, a, v, h, hx => by
    simp only [passA] at h
    split at h
    · obtain rfl := Option.some.inj h
      simp only [RA] at hx ⊢; exact hx
    · obtain ⟨p, hp, rfl⟩ := Option.map_eq_some_iff.1 h
      simp only [RA]; exact frzC_sound hγ hM1 hlive hp hx
  | .agg cs, a, v, h, hx => by
    simp only [passA] at h
    split at h
    · obtain ⟨ps, hp, rfl⟩ := Option.map_eq_some_iff.1 h
      simp only [RA] at hx ⊢
      obtain ⟨xs, rfl, h1, h2⟩ := hx
      exact ⟨xs, rfl, passAs_sound hγ hM1 hlive cs ps xs hp h1, h2⟩
    · obtain ⟨p, hp, rfl⟩ := Option.map_eq_some_iff.1 h
      simp only [RA]; exact frzA_sound hγ hM1 hlive hp hx
  | .p x, a, v, h, hx => by
    simp only [passA, Option.some.injEq] at h
    subst h
    simp only [RA] at hx ⊢
    exact RP.mono (Same.refl M w) (fun b _ h => hM1 b h) x v hx
  | .sub d off n, a, v, h, hx => by
    simp only [passA] at h
    obtain ⟨p, hp, rfl⟩ := Option.map_eq_some_iff.1 h
    simp only [RA]; exact frzA_sound hγ hM1 hlive hp hx
  | .ptr d off, a, v, h, hx => by
    simp only [passA] at h
    obtain ⟨p, hp, rfl⟩ := Option.map_eq_some_iff.1 h
    simp only [RA]; exact frzA_sound hγ hM1 hlive hp hx
  | .fn f cap, a, v, h, hx => by
    simp only [passA] at h
    obtain ⟨p, hp, rfl⟩ := Option.map_eq_some_iff.1 h
    simp only [RA]; exact frzA_sound hγ hM1 hlive hp hx
  | .tup vs, a, v, h, hx => by
    simp only [passA] at h
    obtain ⟨p, hp, rfl⟩ := Option.map_eq_some_iff.1 h
    simp only [RA]; exact frzA_sound hγ hM1 hlive hp hx
  | .lit n cs, a, v, h, hx => by
    simp only [passA, Option.some.injEq] at h
    subst h
    rw [RA] at hx
    simp only [RA]
    exact RP.mono (Same.refl M w) (fun b _ h => hM1 b h) _ v hx
  | .yield, a, v, h, hx => by simp [passA] at h
  | .any, a, v, h, hx => by simp [passA] at h
theorem passAs_sound (hγ : ∀ d o, get d F = some o → SimObj Y γ w M d o) (hM1 : ∀ b, M1 b → M b) (hlive : ∀ d o b, get d F = some o → blk (γ d) = some b → ¬ M1 b) :
    ∀ (xs as : List AV) (vs : List Value), passAs o0 F xs = some as → RAs Y γ w M xs vs → RAs undef γ w M1 as vs
  | [], as, vs, h, hx => by simp only [passAs, Option.some.injEq] at h; subst h; simpa only [RAs] using hx
  | x :: l, as, vs, h, hx => by
    simp only [passAs] at h
    split at h
    · rename_i y ys hy hys
      obtain rfl := Option.some.inj h
      simp only [RAs] at hx ⊢
      obtain ⟨v, vs', rfl, h1, h2⟩ := hx
      exact ⟨v, vs', rfl, passA_sound hγ hM1 hlive x y v hy h1, passAs_sound hγ hM1 hlive l ys vs' hys h2⟩
    · cases h
end
theorem RAs.append_of_RPs {as : List AV} {xs cap : List Value} {ps : List PV} (h : RAs Y γ w M as xs) (k : RPs w M ps cap) : RAs Y γ w M (as ++ ps.map .p) (xs ++ cap) := h.append (RAs.of_RPs k)
end

mutual
def AV.within (o1 : List (Nat × Obj)) : AV → Bool
  | .p _ => true
  | .agg cs => AV.withinL o1 cs
  | .own e => has e o1
  | .sub e _ _ => has e o1
  | .ptr e _ => has e o1
  | .fn _ cap => AV.withinL o1 cap
  | .tup vs => AV.withinL o1 vs
  | .yield => true
  | .any => true
  | .lit _ _ => true
def AV.withinL (o1 : List (Nat × Obj)) : List AV → Bool
  | [] => true
  | x :: l => AV.within o1 x && AV.withinL o1 l
end
section
variable {Y : Value} {γ γ' : Nat → Value} {w : World} {M : Nat → Prop} {o1 : List (Nat × Obj)}
mutual
theorem RA.within (hγ : ∀ e, has e o1 = true → γ' e = γ e) : ∀ (v : AV) (x : Value), v.within o1 = true → RA Y γ w M v x → RA Y γ' w M v x
  | .p q, x, _, h => by simp only [RA] at h ⊢; exact h
  | .own e, x, hf, h => by
    simp only [AV.within] at hf
    simp only [RA] at h ⊢; rw [hγ e hf]; exact h
  | .sub e o n, x, hf, h => by
    simp only [AV.within] at hf
    simp only [RA] at h ⊢; rw [hγ e hf]; exact h
  | .ptr e o, x, hf, h => by
    simp only [AV.within] at hf
    simp only [RA] at h ⊢; rw [hγ e hf]; exact h
  | .any, x, _, h => by simp only [RA]
  | .agg cs, x, hp, h => by
    simp only [AV.within] at hp
    simp only [RA] at h ⊢
    obtain ⟨xs, rfl, h1, h2⟩ := h
    exact ⟨xs, rfl, RAs.within hγ cs xs hp h1, h2⟩
  | .fn f cap, x, hp, h => by
    simp only [AV.within] at hp
    simp only [RA] at h ⊢
    obtain ⟨xs, rfl, h1⟩ := h
    exact ⟨xs, rfl, RAs.within hγ cap xs hp h1⟩
  | .tup vs, x, hp, h => by
    simp only [AV.within] at hp
    simp only [RA] at h ⊢
    obtain ⟨xs, rfl, h1⟩ := h
    exact ⟨xs, rfl, RAs.within hγ vs xs hp h1⟩
  | .yield, x, _, h => by simpa only [RA] using h
  | .lit n cs, x, _, h => by rw [RA] at h ⊢; exact h
theorem RAs.within (hγ : ∀ e, has e o1 = true → γ' e = γ e) : ∀ (vs : List AV) (xs : List Value), AV.withinL o1 vs = true → RAs Y γ w M vs xs → RAs Y γ' w M vs xs
  | [], xs, _, h => by simpa only [RAs] using h
  | v :: vs, xs, hp, h => by
    simp only [AV.withinL, Bool.and_eq_true] at hp
    simp only [RAs] at h ⊢
    obtain ⟨x, xs', rfl, h1, h2⟩ := h
    exact ⟨x, xs', rfl, RA.within hγ v x hp.1 h1, RAs.within hγ vs xs' hp.2 h2⟩
end
end

def callO (regs : List (Nat × AV)) (o0 F : List (Nat × Obj)) (c : Call) : Option (FuncId × List AV) :=
  match c.callee with
  | .value f => match calleeA regs F f, evs regs c.args.toList with
    | some (g, cap), some vs => match passAs o0 F vs with
      | some as => some (g, as ++ cap.map .p)
      | none => none
    | _, _ => none
  | _ => none

def FlatO : List (Nat × Obj) → Prop
  | [] => True
  | (_, .row _ _ _ cs) :: l => PV.flats cs = true ∧ FlatO l
  | (_, .box _ _) :: _ => False
theorem FlatO.get : ∀ {l : List (Nat × Obj)} {d : Nat} {T s n : Nat} {cs : List PV}, FlatO l → get d l = some (.row T s n cs) → PV.flats cs = true
  | [], d, T, s, n, cs, _, h => by simp [AE.get] at h
  | (e, .row _ _ _ _) :: l, d, T, s, n, cs, hf, h => by
    simp only [FlatO] at hf
    simp only [AE.get] at h
    split at h
    · simp only [Option.some.injEq, Obj.row.injEq] at h
      obtain ⟨_, _, _, rfl⟩ := h
      exact hf.1
    · exact FlatO.get hf.2 h
  | (e, .box _ _) :: l, d, T, s, n, cs, hf, h => by simp [FlatO] at hf

def calledSt (dst : Option Nat) (r : AV) (o0 o1 : List (Nat × Obj)) (st : St) : St := putO dst r { st with objs := o1 ++ minus o0 st.objs }
def calledB (n : Nat) (o0 F o1 : List (Nat × Obj)) (r : AV) (st : St) : Bool :=
  rowsB o0 && rowsB o1 && (keysOf F).all (fun d => !has d o0) && freeSt (freshK o0 o1) st && (freshK o0 o1).all (fun d => decide (d < n)) && r.plain && r.within o1

theorem objsFree_has {ds : List Nat} : ∀ {l : List (Nat × Obj)}, objsFree ds l = true → ∀ {d : Nat}, ds.contains d = true → get d l = none
  | [], _, d, _ => by simp [get]
  | (e, .box _ cs) :: l, h, d, hd => by
    simp only [objsFree, Bool.and_eq_true, Bool.not_eq_true'] at h
    simp only [get]
    split
    · rename_i he; subst he; rw [hd] at h; simp at h
    · exact objsFree_has h.2 hd
  | (e, .row _ _ _ _) :: l, h, d, hd => by
    simp only [objsFree, Bool.and_eq_true, Bool.not_eq_true'] at h
    simp only [get]
    split
    · rename_i he; subst he; rw [hd] at h; simp at h
    · exact objsFree_has h.2 hd
theorem objsFree_box {ds : List Nat} : ∀ {l : List (Nat × Obj)}, objsFree ds l = true → ∀ {d T : Nat} {cs : List AV}, get d l = some (.box T cs) → AV.frees ds cs = true
  | [], _, d, T, cs, h => by simp [get] at h
  | (e, .box _ cs') :: l, h, d, T, cs, hd => by
    simp only [objsFree, Bool.and_eq_true, Bool.not_eq_true'] at h
    simp only [get] at hd
    split at hd
    · simp only [Option.some.injEq, Obj.box.injEq] at hd; rw [← hd.2]; exact h.1.2
    · exact objsFree_box h.2 hd
  | (e, .row _ _ _ _) :: l, h, d, T, cs, hd => by
    simp only [objsFree, Bool.and_eq_true, Bool.not_eq_true'] at h
    simp only [get] at hd
    split at hd
    · cases hd
    · exact objsFree_box h.2 hd
theorem SimObj.free {Y : Value} {γ γ' : Nat → Value} {w : World} {M : Nat → Prop} {d : Nat} {o : Obj} {ds : List Nat} (h : SimObj Y γ w M d o) (hγ : ∀ e, ds.contains e = false → γ' e = γ e) (hd : ds.contains d = false) (hf : ∀ T cs, o = .box T cs → AV.frees ds cs = true) : SimObj Y γ' w M d o := by
  cases o with
  | box T cs =>
    simp only [SimObj] at h ⊢
    obtain ⟨b', xs, hg, hh, h1, h2⟩ := h
    exact ⟨b', xs, by rw [hγ d hd]; exact hg, hh, RAs.free hγ cs xs (hf T cs rfl) h1, h2⟩
  | row T sz n cs =>
    simp only [SimObj] at h ⊢
    rw [hγ d hd]
    exact h
theorem outerFree_ok {Y : Value} {γ γ' : Nat → Value} {w : World} {M : Nat → Prop} {ds : List Nat} (hγ : ∀ e, ds.contains e = false → γ' e = γ e) : ∀ {rs : List (List (Nat × AV))} {ts : List (Array Value)}, outerFree ds rs = true → OutsOk Y γ w M rs ts → OutsOk Y γ' w M rs ts
  | [], ts, _, h => by simpa only [OutsOk] using h
  | r :: rs, ts, hf, h => by
    simp only [outerFree, Bool.and_eq_true] at hf
    simp only [OutsOk] at h ⊢
    obtain ⟨t, ts', rfl, h1, h3, h2⟩ := h
    exact ⟨t, ts', rfl, fun k v hk => RA.free hγ v _ (regsFree_get hf.1 hk) (h1 k v hk), h3, outerFree_ok hγ hf.2 h2⟩

theorem row_flat {Y Y' : Value} {γ : Nat → Value} {w : World} {M M' : Nat → Prop} {d T s n : Nat} {cs : List PV} (hf : PV.flats cs = true) (h : SimObj Y γ w M d (.row T s n cs)) : SimObj Y' γ w M' d (.row T s n cs) := by
  simp only [SimObj] at h ⊢
  obtain ⟨A, c, xs, hg, hnc, hcm, hlen, h1, h2, hh⟩ := h
  exact ⟨A, c, xs, hg, hnc, hcm, hlen, flats_anywhere cs xs hf h1, h2, hh⟩
theorem row_mono {Y Y' : Value} {γ : Nat → Value} {w : World} {M M' : Nat → Prop} {d T s n : Nat} {cs : List PV} (hM : ∀ b, M' b → M b) (h : SimObj Y γ w M d (.row T s n cs)) : SimObj Y' γ w M' d (.row T s n cs) := by
  simp only [SimObj] at h ⊢
  obtain ⟨A, c, xs, hg, hnc, hcm, hlen, h1, h2, hh⟩ := h
  exact ⟨A, c, xs, hg, hnc, hcm, hlen, RPs.mono (Same.refl M w) (fun b _ h => hM b h) cs xs h1, h2, hh⟩

theorem OpSem.callO {o : Oper} {c : Call} {st : St} {K : St → Prop} {g : FuncId} {args : List AV} {o0 F o1 : List (Nat × Obj)} {r : AV} (ho : o.op = .call c) (hc : callO st.regs o0 F c = some (g, args)) (hs : AnsO P g o0 args o1 r)
    (h0 : Sub o0 st.objs) (hF : Sub F st.objs) (hB : calledB X.n o0 F o1 r st = true) (hfl : F = [] ∨ (r.flat = true ∧ FlatO o1)) (hd : dstOk X o = true)
    (hk : K (calledSt o.dst r o0 o1 st)) : OpSem X o st K := by
  rintro a w ⟨γ, U, V, S⟩ next Q hn
  simp only [calledB, Bool.and_eq_true] at hB
  obtain ⟨⟨⟨⟨⟨⟨hr0, hr1⟩, hdis⟩, hfree⟩, hlt⟩, hpl⟩, hwi⟩ := hB
  have hFo : ∀ d, has d F = true → has d o0 = false := by
    intro d hd'
    rw [has_keys] at hd'
    have := List.all_eq_true.1 hdis d (by simpa using hd')
    simpa using this
  simp only [freeSt, Bool.and_eq_true] at hfree
  obtain ⟨⟨hfr, hfo⟩, hfu⟩ := hfree
  have hγF : ∀ d o, get d F = some o → SimObj X.Y γ w (Mut V γ st.objs) d o := fun d o h => S.obj d o (hF.get h)
  -- who else may turn
  obtain ⟨M0, hM0⟩ : ∃ M0 : Nat → Prop, ∀ b, M0 b ↔ (V b ∨ ∃ d ob, get d st.objs = some ob ∧ has d o0 = false ∧ has d F = false ∧ blk (γ d) = some b) := ⟨_, fun _ => Iff.rfl⟩
  have hlive0 : ∀ b, live γ o0 b → live γ st.objs b := by rintro b ⟨d, ob, h1, h2⟩; exact ⟨d, ob, h0.get h1, h2⟩
  have hM0lt : ∀ b, M0 b → b < w.heap.size := by
    intro b hb
    rcases (hM0 b).1 hb with h | ⟨d, ob, h1, _, _, h2⟩
    · exact S.ltV b h
    · exact S.ltU b (S.own b ⟨d, ob, h1, h2⟩)
  have hM1 : ∀ b, Mut M0 γ o0 b → Mut V γ st.objs b := by
    rintro b (h | h)
    · rcases (hM0 b).1 h with h | ⟨d, ob, h1, _, _, h2⟩
      · exact .inl h
      · exact .inr ⟨d, ob, h1, h2⟩
    · exact .inr (hlive0 b h)
  have hnotV : ∀ d ob b, get d st.objs = some ob → blk (γ d) = some b → ¬ V b := fun d ob b h1 h2 h3 => S.zone b h3 (S.own b ⟨d, ob, h1, h2⟩)
  have hzone0 : ∀ b, live γ o0 b → ¬ M0 b := by
    rintro b ⟨d, ob, h1, h2⟩ hm
    rcases (hM0 b).1 hm with h | ⟨d', ob', h3, h4, _, h5⟩
    · exact hnotV d ob b (h0.get h1) h2 h
    · have := S.sep d d' ob ob' b (h0.get h1) h3 h2 h5
      subst this
      rw [has_none] at h4; rw [h4] at h1; cases h1
  have hFM1 : ∀ d o b, get d F = some o → blk (γ d) = some b → ¬ Mut M0 γ o0 b := by
    rintro d o b h1 h2 (hm | ⟨d', ob', h3, h4⟩)
    · rcases (hM0 b).1 hm with h | ⟨d', ob', h3, _, h4, h5⟩
      · exact hnotV d o b (hF.get h1) h2 h
      · have := S.sep d d' o ob' b (hF.get h1) h3 h2 h5
        subst this
        rw [has_none] at h4; rw [h4] at h1; cases h1
    · have := S.sep d d' o ob' b (hF.get h1) (h0.get h3) h2 h4
      subst this
      have h5 := hFo d (has_some.2 ⟨_, h1⟩)
      rw [has_none] at h5; rw [h5] at h3; cases h3
  have hO : Objs γ w M0 o0 := by
    refine ⟨fun d ob h => ?_, fun d d' ob ob' b h1 h2 => S.sep d d' ob ob' b (h0.get h1) (h0.get h2), hzone0, fun b hb => S.ltU b (S.own b (hlive0 b hb))⟩
    obtain ⟨T, s, n, cs, rfl⟩ := rowsB_get hr0 h
    exact row_mono hM1 (S.obj d _ (h0.get h))
  -- the arguments
  unfold AE.callO at hc
  split at hc
  · rename_i f hf
    split at hc
    · rename_i g' cap vs hcal hvs
      split at hc
      · rename_i as has'
        simp only [Option.some.injEq, Prod.mk.injEq] at hc
        obtain ⟨rfl, rfl⟩ := hc
        unfold calleeA at hcal
        split at hcal
        · rename_i x hx
          split at hcal
          · rename_i g2 cap2 hz
            simp only [Option.some.injEq, Prod.mk.injEq] at hcal
            obtain ⟨rfl, rfl⟩ := hcal
            have h1 := frzA_sound hγF hM1 hFM1 hz (ev_sound hx S.regG)
            simp only [RP] at h1
            obtain ⟨us, he, h2⟩ := h1
            have hargs := passAs_sound (o0 := o0) hγF hM1 hFM1 vs as _ has' (evs_sound hvs S.regG)
            refine call_wpIn (cap := us) (xs := c.args.toList.map a.eval) ho hf he (by rw [← Array.toList_map]) hs.1 (hs.2 w M0 γ _ hM0lt (S.globM.mono fun b _ h => hM1 b h) hO (hargs.append_of_RPs h2)) ?_
            rintro e w' ⟨v, γ', rfl, hsame, hO1, hv, hpin, hnew⟩
            refine ⟨v, rfl, hn _ _ _ hk ?_⟩
            -- the new state
            obtain ⟨γn, hγn⟩ : ∃ γn : Nat → Value, ∀ d, γn d = if (freshK o0 o1).contains d = true then γ' d else γ d := ⟨_, fun _ => rfl⟩
            have hγ1 : ∀ e, (freshK o0 o1).contains e = false → γn e = γ e := fun e he => by rw [hγn, if_neg (by rw [he]; simp)]
            have hγ2 : ∀ d, has d o1 = true → γn d = γ' d := by
              intro d h1
              rw [hγn]
              split
              · rfl
              · rename_i hnf
                rw [mem_fresh, h1] at hnf
                have h00 : has d o0 = true := by simpa using hnf
                exact (hpin d h00 h1).symm
            have hlive1 : ∀ b, live γn o1 b ↔ live γ' o1 b := by
              intro b
              constructor <;> rintro ⟨d, ob, h1, h2⟩ <;> refine ⟨d, ob, h1, ?_⟩
              · rw [← hγ2 d (has_some.2 ⟨_, h1⟩)]; exact h2
              · rw [hγ2 d (has_some.2 ⟨_, h1⟩)]; exact h2
            have hfreshNone : ∀ d, (freshK o0 o1).contains d = true → get d st.objs = none := fun d hd => objsFree_has hfo hd
            -- objects behind the call
            have hget : ∀ d ob, get d (o1 ++ minus o0 st.objs) = some ob → get d o1 = some ob ∨ (has d o1 = false ∧ has d o0 = false ∧ get d st.objs = some ob) := by
              intro d ob h
              rw [get_append] at h
              cases h1 : get d o1 with
              | some ob' => rw [h1] at h; simp at h; exact .inl (by rw [h])
              | none =>
                rw [h1, get_minus] at h
                simp only [Option.none_or] at h
                split at h
                · cases h
                · rename_i h0'
                  exact .inr ⟨has_none.2 h1, by simpa using h0', h⟩
            have hrest : ∀ d ob, has d o1 = false → get d st.objs = some ob → (freshK o0 o1).contains d = false := by
              intro d ob h1 h2
              rw [mem_fresh, h1, Bool.false_and]
            have hliven : ∀ b, live γn (o1 ++ minus o0 st.objs) b → live γ' o1 b ∨ ∃ d ob, has d o1 = false ∧ has d o0 = false ∧ get d st.objs = some ob ∧ blk (γ d) = some b := by
              rintro b ⟨d, ob, h1, h2⟩
              rcases hget d ob h1 with h3 | ⟨h3, h4, h5⟩
              · exact .inl ((hlive1 b).1 ⟨d, ob, h3, h2⟩)
              · rw [hγ1 d (hrest d ob h3 h5)] at h2
                exact .inr ⟨d, ob, h3, h4, h5, h2⟩
            have hold : ∀ b, b < w.heap.size → Mut V γn (o1 ++ minus o0 st.objs) b → Mut V γ st.objs b := by
              rintro b hb (h | h)
              · exact .inl h
              · rcases hliven b h with h | ⟨d, ob, _, _, h1, h2⟩
                · rcases hnew b h with h | h
                  · exact .inr (hlive0 b h)
                  · omega
                · exact .inr ⟨d, ob, h1, h2⟩
            have hsameM : Same (Mut V γ st.objs) w w' := hsame.mono (fun b _ h => .inr (hlive0 b h))
            -- what is read of the answer
            have hMn : F = [] → ∀ b, Mut V γn (o1 ++ minus o0 st.objs) b → Mut M0 γ' o1 b := by
              rintro rfl b (h | h)
              · exact .inl ((hM0 b).2 (.inl h))
              · rcases hliven b h with h | ⟨d, ob, _, h0', h1, h2⟩
                · exact .inr h
                · exact .inl ((hM0 b).2 (.inr ⟨d, ob, h1, h0', by simp [has, get], h2⟩))
            have hvn : RA X.Y γn w' (Mut V γn (o1 ++ minus o0 st.objs)) r v := by
              have hv1 : RA undef γ' w' (Mut V γn (o1 ++ minus o0 st.objs)) r v := by
                rcases hfl with hF0 | ⟨hfr', _⟩
                · exact RA.mono (Same.refl _ _) (fun b _ h => hMn hF0 b h) r v hv
                · exact RA.flat r v hfr' hv
              exact RA.within (fun e he => hγ2 e he) r v hwi (RA.plain r v hpl hv1)
            have hliveo1 : ∀ b, live γ' o1 b → ∃ cs T fr, w'.heap[b]? = some (Go.Obj.cells cs T fr) := by
              rintro b ⟨d, ob, h1, h2⟩; exact (hO1.obj d ob h1).heap h2
            have hUn : ∀ b, live γ' o1 b → U b ∨ w.heap.size ≤ b := by
              intro b hb
              rcases hnew b hb with h | h
              · exact .inl (S.own b (hlive0 b h))
              · exact .inr h
            have hsep1 : ∀ d ob b, has d o0 = false → get d st.objs = some ob → blk (γ d) = some b → ¬ live γ' o1 b := by
              intro d ob b h0' h1 h2 hl
              rcases hnew b hl with ⟨d', ob', h3, h4⟩ | h
              · have := S.sep d d' ob ob' b h1 (h0.get h3) h2 h4
                subst this
                rw [has_none] at h0'; rw [h0'] at h3; cases h3
              · have := S.ltU b (S.own b ⟨d, ob, h1, h2⟩); omega
            have hkeepM : ∀ b, b < w.heap.size → Mut V γn (o1 ++ minus o0 st.objs) b → Mut V γ st.objs b := hold
            have hnl : r.isLit = false := by
              cases r <;> simp [AV.plain] at hpl <;> rfl
            have S1 : Sim X γn (fun b => U b ∨ live γ' o1 b) V { st with objs := o1 ++ minus o0 st.objs } a w' := by
              refine ⟨X.stable S.env (hsame.mono fun b _ h => S.own b (hlive0 b h)) (fun b hb => ?_), S.size, ?_, ?_, ?_, ?_, ?_, ?_, ?_, fun b hb => Nat.lt_of_lt_of_le (S.ltV b hb) hsame.size, ?_, fun k n cs hk b hb => .inl (S.lits k n cs hk b hb), fun d hd => ?_⟩
              · rcases hb with hb | hb
                · exact .inl hb
                · exact hUn b hb
              · intro k u hk
                exact RA.mono hsameM hold u _ (RA.free hγ1 u _ (regsFree_get hfr hk) (S.reg k u hk))
              · exact OutsOk.mono hsameM hold (outerFree_ok hγ1 hfu S.outs)
              · intro d ob hdo
                rcases hget d ob hdo with h | ⟨h1, h0', h⟩
                · obtain ⟨T, s, n, cs, rfl⟩ := rowsB_get hr1 h
                  have hs1 := hO1.obj d _ h
                  have hs2 : SimObj X.Y γ' w' (Mut V γn (o1 ++ minus o0 st.objs)) d (.row T s n cs) := by
                    rcases hfl with hF0 | ⟨_, hfo1⟩
                    · exact row_mono (hMn hF0) hs1
                    · exact row_flat (hfo1.get h) hs1
                  simp only [SimObj] at hs2 ⊢
                  rw [hγ2 d (has_some.2 ⟨_, h⟩)]
                  exact hs2
                · have hs1 := S.obj d ob h
                  have hnf := hrest d ob h1 h
                  refine (hs1.mono hsameM hold (fun b hb => ?_)).free hγ1 hnf (fun T cs he => by subst he; exact objsFree_box hfo h)
                  refine hsame.blk b (S.ltU b (S.own b ⟨d, ob, h, hb⟩)) ?_
                  rintro ⟨d', ob', h3, h4⟩
                  have := S.sep d d' ob ob' b h (h0.get h3) hb h4
                  subst this
                  rw [has_none] at h0'; rw [h0'] at h3; cases h3
              · intro d d' ob ob' b h1 h2 h3 h4
                rcases hget d ob h1 with h1 | ⟨h1a, h1b, h1⟩ <;> rcases hget d' ob' h2 with h2 | ⟨h2a, h2b, h2⟩
                · rw [hγ2 d (has_some.2 ⟨_, h1⟩)] at h3
                  rw [hγ2 d' (has_some.2 ⟨_, h2⟩)] at h4
                  exact hO1.sep d d' ob ob' b h1 h2 h3 h4
                · rw [hγ2 d (has_some.2 ⟨_, h1⟩)] at h3
                  rw [hγ1 d' (hrest d' ob' h2a h2)] at h4
                  exact absurd ⟨d, ob, h1, h3⟩ (hsep1 d' ob' b h2b h2 h4)
                · rw [hγ2 d' (has_some.2 ⟨_, h2⟩)] at h4
                  rw [hγ1 d (hrest d ob h1a h1)] at h3
                  exact absurd ⟨d', ob', h2, h4⟩ (hsep1 d ob b h1b h1 h3)
                · rw [hγ1 d (hrest d ob h1a h1)] at h3
                  rw [hγ1 d' (hrest d' ob' h2a h2)] at h4
                  exact S.sep d d' ob ob' b h1 h2 h3 h4
              · intro b hb
                rcases hliven b hb with h | ⟨d, ob, _, _, h1, h2⟩
                · exact .inr h
                · exact .inl (S.own b ⟨d, ob, h1, h2⟩)
              · rintro b hV (hU | hl)
                · exact S.zone b hV hU
                · rcases hUn b hl with h | h
                  · exact S.zone b hV h
                  · have := S.ltV b hV; omega
              · rintro b (hU | hl)
                · exact Nat.lt_of_lt_of_le (S.ltU b hU) hsame.size
                · exact hO1.lt b hl
              · exact S.defs.mono (fun _ _ h => .inl h) (fun D hD => same_other hsame (fun b h => live_cells S b (hlive0 b h)) hD (by intro cs T fr e; cases e))
              · have hnf : (freshK o0 o1).contains d = false := by
                  cases hc : (freshK o0 o1).contains d with
                  | false => rfl
                  | true =>
                    exfalso
                    have := List.all_eq_true.1 hlt d (by simpa using hc)
                    simp only [decide_eq_true_eq] at this
                    omega
                rw [hγ1 d hnf]
                exact S.kept d hd
            exact ⟨γn, _, V, S1.putO hd (Same.refl _ _) hnl hvn⟩
          · cases hcal
        · cases hcal
      · cases hc
    · cases hc
  · cases hc
end Go.AE
