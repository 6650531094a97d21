/- YtombondekjflaaaAhTag: a part of the proof; see the last text for what is proved. -/
import Derived.Test.YtombondekjflaaaAhK
set_option linter.unusedVariables false
set_option linter.unusedSimpArgs false
namespace Go.AE
open Go.RowKit

variable {P : Program} {X : Env P}

/-! ### Tags forgotten -/
mutual
def PV.anyT : PV → PV
  | .sl _ n cs => .sl .any n cs
  | .agg cs => .agg (PV.anyTs cs)
  | .tup vs => .tup (PV.anyTs vs)
  | .s v => .s v
  | .rop cs => .rop (PV.anyTs cs)
  | .fn f cap => .fn f (PV.anyTs cap)
def PV.anyTs : List PV → List PV
  | [] => []
  | x :: l => PV.anyT x :: PV.anyTs l
end
mutual
def AV.anyT : AV → AV
  | .p x => .p x.anyT
  | .agg cs => .agg (AV.anyTs cs)
  | .tup vs => .tup (AV.anyTs vs)
  | .fn f cap => .fn f (AV.anyTs cap)
  | .lit n cs => .lit n cs
  | .own d => .own d
  | .sub d o n => .sub d o n
  | .ptr d o => .ptr d o
  | .yield => .yield
  | .any => .any
def AV.anyTs : List AV → List AV
  | [] => []
  | x :: l => AV.anyT x :: AV.anyTs l
end
section
variable {Y : Value} {γ : Nat → Value} {w : World} {M : Nat → Prop}
mutual
theorem RP.anyT : ∀ (p : PV) (x : Value), RP w M p x → RP w M p.anyT x
  | .s v, x, h => by simpa only [PV.anyT] using h
  | .sl t n cs, x, h => by
    simp only [RP, PV.anyT] at h ⊢
    obtain ⟨A, c, xs, rfl, _, h1⟩ := h
    exact ⟨A, c, xs, rfl, trivial, h1⟩
  | .agg cs, x, h => by
    simp only [RP, PV.anyT] at h ⊢
    obtain ⟨xs, rfl, h1, h2⟩ := h
    exact ⟨xs, rfl, RPs.anyT cs xs h1, h2⟩
  | .rop cs, x, h => by
    simp only [RP, PV.anyT] at h ⊢
    obtain ⟨ad, xs, rfl, h1, h2⟩ := h
    exact ⟨ad, xs, rfl, RPs.anyT cs xs h1, h2⟩
  | .fn f cap, x, h => by
    simp only [RP, PV.anyT] at h ⊢
    obtain ⟨xs, rfl, h1⟩ := h
    exact ⟨xs, rfl, RPs.anyT cap xs h1⟩
  | .tup vs, x, h => by
    simp only [RP, PV.anyT] at h ⊢
    obtain ⟨xs, rfl, h1⟩ := h
    exact ⟨xs, rfl, RPs.anyT vs xs h1⟩
theorem RPs.anyT : ∀ (ps : List PV) (xs : List Value), RPs w M ps xs → RPs w M (PV.anyTs ps) xs
  | [], xs, h => by simpa only [PV.anyTs] using h
  | p :: ps, xs, h => by
    simp only [RPs, PV.anyTs] at h ⊢
    obtain ⟨x, xs', rfl, h1, h2⟩ := h
    exact ⟨x, xs', rfl, RP.anyT p x h1, RPs.anyT ps xs' h2⟩
end
mutual
theorem RA.anyT : ∀ (p : AV) (x : Value), RA Y γ w M p x → RA Y γ w M p.anyT x
  | .p q, x, h => by simp only [AV.anyT, RA] at h ⊢; exact RP.anyT q x h
  | .own d, x, h => by simpa only [AV.anyT] using h
  | .sub d o n, x, h => by simpa only [AV.anyT] using h
  | .ptr d o, x, h => by simpa only [AV.anyT] using h
  | .yield, x, h => by simpa only [AV.anyT] using h
  | .any, x, h => by simpa only [AV.anyT] using h
  | .lit n cs, x, h => by rw [AV.anyT]; exact h
  | .agg cs, x, h => by
    simp only [RA, AV.anyT] at h ⊢
    obtain ⟨xs, rfl, h1, h2⟩ := h
    exact ⟨xs, rfl, RAs.anyT cs xs h1, h2⟩
  | .fn f cap, x, h => by
    simp only [RA, AV.anyT] at h ⊢
    obtain ⟨xs, rfl, h1⟩ := h
    exact ⟨xs, rfl, RAs.anyT cap xs h1⟩
  | .tup vs, x, h => by
    simp only [RA, AV.anyT] at h ⊢
    obtain ⟨xs, rfl, h1⟩ := h
    exact ⟨xs, rfl, RAs.anyT vs xs h1⟩
theorem RAs.anyT : ∀ (ps : List AV) (xs : List Value), RAs Y γ w M ps xs → RAs Y γ w M (AV.anyTs ps) xs
  | [], xs, h => by simpa only [AV.anyTs] using h
  | p :: ps, xs, h => by
    simp only [RAs, AV.anyTs] at h ⊢
    obtain ⟨x, xs', rfl, h1, h2⟩ := h
    exact ⟨x, xs', rfl, RA.anyT p x h1, RAs.anyT ps xs' h2⟩
end
end
theorem anyT_flat : ∀ (p : PV), p.flat = true → p.anyT.flat = true := by
  intro p
  exact PV.rec (motive_1 := fun p => p.flat = true → p.anyT.flat = true) (motive_2 := fun ps => PV.flats ps = true → PV.flats (PV.anyTs ps) = true)
    (fun v h => h) (fun cs ih h => by simp only [PV.flat, PV.anyT] at h ⊢; exact ih h) (fun t n cs _ h => by simp only [PV.flat, PV.anyT] at h ⊢; exact h)
    (fun cs _ h => by simp [PV.flat] at h) (fun f cap ih h => by simp only [PV.flat, PV.anyT] at h ⊢; exact ih h) (fun vs ih h => by simp only [PV.flat, PV.anyT] at h ⊢; exact ih h)
    (fun h => rfl) (fun x l h1 h2 h => by simp only [PV.flats, PV.anyTs, Bool.and_eq_true] at h ⊢; exact ⟨h1 h.1, h2 h.2⟩) p

theorem Ans.anyT {f : FuncId} {args : List PV} {r : PV} (h : Ans P f args r) : Ans P f args r.anyT :=
  ⟨h.1, fun w M xs hM hG hx => (h.2 w M xs hM hG hx).mono fun e w' ⟨v, he, hb, hv⟩ => ⟨v, he, hb, RP.anyT r v hv⟩⟩
theorem Ans.ofAny {f : FuncId} {args : List PV} {r : PV} (h : Ans P f (PV.anyTs args) r) : Ans P f args r :=
  ⟨h.1, fun w M xs hM hG hx => h.2 w M xs hM hG (RPs.anyT args xs hx)⟩
theorem AnsO.anyT {f : FuncId} {o0 o1 : List (Nat × Obj)} {args : List AV} {r : AV} (h : AnsO P f o0 args o1 r) : AnsO P f o0 args o1 r.anyT :=
  ⟨h.1, fun w M γ xs hM hG hO hx => (h.2 w M γ xs hM hG hO hx).mono fun e w' ⟨v, γ', he, hs, hO', hv, h1, h2⟩ => ⟨v, γ', he, hs, hO', RA.anyT r v hv, h1, h2⟩⟩
theorem AnsO.ofAny {f : FuncId} {o0 o1 : List (Nat × Obj)} {args : List AV} {r : AV} (h : AnsO P f o0 (AV.anyTs args) o1 r) : AnsO P f o0 args o1 r :=
  ⟨h.1, fun w M γ xs hM hG hO hx => h.2 w M γ xs hM hG hO (RAs.anyT args xs hx)⟩
def AV.tagsBut (ns : List Nat) : Nat → List AV → List AV
  | _, [] => []
  | i, x :: l => (if ns.contains i = true then x else AV.anyT x) :: AV.tagsBut ns (i + 1) l
theorem RAs.tagsBut {Y : Value} {γ : Nat → Value} {w : World} {M : Nat → Prop} {ns : List Nat} : ∀ (ps : List AV) (i : Nat) (xs : List Value), RAs Y γ w M ps xs → RAs Y γ w M (AV.tagsBut ns i ps) xs
  | [], i, xs, h => by simpa only [AV.tagsBut] using h
  | p :: ps, i, xs, h => by
    simp only [RAs, AV.tagsBut] at h ⊢
    obtain ⟨y, ys, rfl, h1, h2⟩ := h
    refine ⟨y, ys, rfl, ?_, RAs.tagsBut ps (i + 1) ys h2⟩
    split
    · exact h1
    · exact RA.anyT p y h1
theorem AnsO.ofTags {ns : List Nat} {f : FuncId} {o0 o1 : List (Nat × Obj)} {args : List AV} {r : AV} (h : AnsO P f o0 (AV.tagsBut ns 0 args) o1 r) : AnsO P f o0 args o1 r :=
  ⟨h.1, fun w M γ xs hM hG hO hx => h.2 w M γ xs hM hG hO (RAs.tagsBut args 0 xs hx)⟩

def tagR (ts : List Nat) : List (Nat × AV) → List (Nat × AV)
  | [] => []
  | (k, v) :: l => (k, if ts.contains k = true then v.anyT else v) :: tagR ts l
def tagO (ts : List Nat) : List (Nat × Obj) → List (Nat × Obj)
  | [] => []
  | (k, .box T cs) :: l => (k, .box T (if ts.contains k = true then AV.anyTs cs else cs)) :: tagO ts l
  | (k, .row T s n cs) :: l => (k, .row T s n cs) :: tagO ts l
theorem get_tagR {ts : List Nat} {k : Nat} : ∀ {l : List (Nat × AV)}, get k (tagR ts l) = (get k l).map fun v => if ts.contains k = true then v.anyT else v
  | [] => rfl
  | (j, v) :: l => by
    simp only [tagR, get]
    split
    · rename_i h; subst h; rfl
    · exact get_tagR
theorem get_tagO {ts : List Nat} {k : Nat} : ∀ {l : List (Nat × Obj)}, get k (tagO ts l) = (get k l).map fun o => match o with | .box T cs => .box T (if ts.contains k = true then AV.anyTs cs else cs) | .row T s n cs => .row T s n cs
  | [] => rfl
  | (j, .box T cs) :: l => by
    simp only [tagO, get]
    split
    · rename_i h; subst h; rfl
    · exact get_tagO
  | (j, .row T s n cs) :: l => by
    simp only [tagO, get]
    split
    · rename_i h; subst h; rfl
    · exact get_tagO
def tagSt (tr to : List Nat) (st : St) : St := { st with regs := tagR tr st.regs, objs := tagO to st.objs }
theorem tagSt_inv {tr to : List Nat} {st : St} {a : Act} {w : World} (h : Inv X st a w) : Inv X (tagSt tr to st) a w := by
  obtain ⟨γ, U, V, S⟩ := h
  have hl : ∀ b, live γ (tagO to st.objs) b ↔ live γ st.objs b := by
    intro b
    constructor
    · rintro ⟨d, o, h1, h2⟩
      rw [get_tagO] at h1
      obtain ⟨o', h1, _⟩ := Option.map_eq_some_iff.1 h1
      exact ⟨d, o', h1, h2⟩
    · rintro ⟨d, o, h1, h2⟩
      exact ⟨d, _, by rw [get_tagO, h1]; rfl, h2⟩
  have hM : Mut V γ (tagO to st.objs) = Mut V γ st.objs := by
    funext b; simp only [Mut, hl b]
  refine ⟨γ, U, V, S.env, S.size, ?_, ?_, ?_, ?_, fun b hb => S.own b ((hl b).1 hb), S.zone, S.ltU, S.ltV, S.defs, ?_, S.kept⟩
  · intro k v hk
    simp only [tagSt] at hk ⊢
    rw [get_tagR] at hk
    obtain ⟨u, hu, rfl⟩ := Option.map_eq_some_iff.1 hk
    rw [hM]
    split
    · exact RA.anyT u _ (S.reg k u hu)
    · exact S.reg k u hu
  · simp only [tagSt]; rw [hM]; exact S.outs
  · intro d o hd
    simp only [tagSt] at hd ⊢
    rw [get_tagO] at hd
    obtain ⟨o', ho', rfl⟩ := Option.map_eq_some_iff.1 hd
    rw [hM]
    have hs := S.obj d o' ho'
    cases o' with
    | row T s n cs => exact hs
    | box T cs =>
      simp only
      split
      · simp only [SimObj] at hs ⊢
        obtain ⟨b, xs, h1, h2, h3, h4⟩ := hs
        exact ⟨b, xs, h1, h2, RAs.anyT cs xs h3, h4⟩
      · exact hs
  · intro d d' o o' b h1 h2 h3 h4
    simp only [tagSt] at h1 h2
    rw [get_tagO] at h1 h2
    obtain ⟨o1, h1, _⟩ := Option.map_eq_some_iff.1 h1
    obtain ⟨o2, h2, _⟩ := Option.map_eq_some_iff.1 h2
    exact S.sep d d' o1 o2 b h1 h2 h3 h4
  · intro k n cs hk b hb
    simp only [tagSt] at hk
    rw [get_tagR] at hk
    obtain ⟨u, hu, hk⟩ := Option.map_eq_some_iff.1 hk
    have : u = .lit n cs := by
      split at hk
      · cases u <;> simp only [AV.anyT] at hk <;> first | exact hk | cases hk
      · exact hk
    subst this
    exact S.lits k n cs hu b hb

/-! ### Nil as a row of one's own -/
theorem has_false {α : Type} {d : Nat} {l : List (Nat × α)} (h : has d l = false) : get d l = none := has_none.1 h
theorem nil_val {Y : Value} {γ : Nat → Value} {w : World} {M : Nat → Prop} {v : Value} (h : RA Y γ w M (.p (.sl .nil 0 [])) v) : v = .slice none 0 0 := by
  simp only [RA, RP] at h
  obtain ⟨A, c, xs, rfl, ⟨rfl, _, rfl⟩, _⟩ := h
  rfl
def nilR (ks : List Nat) (d : Nat) : List (Nat × AV) → List (Nat × AV)
  | [] => []
  | (k, v) :: l => (k, if ks.contains k = true then (match v with | .p (.sl .nil 0 []) => .own d | v => v) else v) :: nilR ks d l
def nilC (d : Nat) : List AV → Nat → List AV
  | [], _ => []
  | v :: l, 0 => (match v with | .p (.sl .nil 0 []) => .own d | v => v) :: l
  | v :: l, i + 1 => v :: nilC d l i
def nilO (b i d : Nat) : List (Nat × Obj) → List (Nat × Obj)
  | [] => []
  | (k, .box T cs) :: l => (k, .box T (if k = b then nilC d cs i else cs)) :: nilO b i d l
  | (k, .row T s n cs) :: l => (k, .row T s n cs) :: nilO b i d l
theorem get_nilR {ks : List Nat} {d k : Nat} : ∀ {l : List (Nat × AV)}, get k (nilR ks d l) = (get k l).map fun v => if ks.contains k = true then (match v with | .p (.sl .nil 0 []) => .own d | v => v) else v
  | [] => rfl
  | (j, v) :: l => by
    simp only [nilR, get]
    split
    · rename_i h; subst h; rfl
    · exact get_nilR
theorem get_nilO {b i d k : Nat} : ∀ {l : List (Nat × Obj)}, get k (nilO b i d l) = (get k l).map fun o => match o with | .box T cs => .box T (if k = b then nilC d cs i else cs) | .row T s n cs => .row T s n cs
  | [] => rfl
  | (j, .box T cs) :: l => by
    simp only [nilO, get]
    split
    · rename_i h; subst h; rfl
    · exact get_nilO
  | (j, .row T s n cs) :: l => by
    simp only [nilO, get]
    split
    · rename_i h; subst h; rfl
    · exact get_nilO
def nilSt (ks : List Nat) (bi : Option (Nat × Nat)) (d e sz : Nat) (st : St) : St :=
  { st with regs := nilR ks d st.regs, objs := (d, .row e sz 0 []) :: (match bi with | some (b, i) => nilO b i d st.objs | none => st.objs) }
theorem nilC_ok {Y : Value} {γ : Nat → Value} {w : World} {M : Nat → Prop} {d : Nat} (hd : γ d = .slice none 0 0) : ∀ (cs : List AV) (i : Nat) (xs : List Value), RAs Y γ w M cs xs → RAs Y γ w M (nilC d cs i) xs
  | [], i, xs, h => by simpa only [nilC] using h
  | v :: l, 0, xs, h => by
    simp only [RAs, nilC] at h ⊢
    obtain ⟨x, xs', rfl, h1, h2⟩ := h
    refine ⟨x, xs', rfl, ?_, h2⟩
    split
    · rw [nil_val h1]; simp only [RA]; exact hd.symm
    · exact h1
  | v :: l, i + 1, xs, h => by
    simp only [RAs, nilC] at h ⊢
    obtain ⟨x, xs', rfl, h1, h2⟩ := h
    exact ⟨x, xs', rfl, h1, nilC_ok hd l i xs' h2⟩
theorem nilSt_inv {st : St} {a : Act} {w : World} {ks : List Nat} {bi : Option (Nat × Nat)} {d e sz : Nat} (h : Inv X st a w) (hd : d < X.n) (hf : freeSt [d] st = true) : Inv X (nilSt ks bi d e sz st) a w := by
  obtain ⟨γ, U, V, S⟩ := h
  simp only [freeSt, Bool.and_eq_true] at hf
  obtain ⟨⟨hfr, hfo⟩, hfu⟩ := hf
  have hnone : get d st.objs = none := objsFree_has hfo (by simp)
  have hγ : ∀ e, [d].contains e = false → upd γ d (.slice none 0 0) e = γ e := fun e he => upd_ne (fun h => by subst h; simp at he)
  let objs' : List (Nat × Obj) := match bi with | some (b, i) => nilO b i d st.objs | none => st.objs
  have hobjs : objs' = match bi with | some (b, i) => nilO b i d st.objs | none => st.objs := rfl
  have hget : ∀ k o, get k objs' = some o → ∃ o1, get k st.objs = some o1 ∧ (o = o1 ∨ ∃ T cs i, o1 = .box T cs ∧ o = .box T (nilC d cs i)) := by
    intro k o hk
    simp only [objs'] at hk
    cases bi with
    | none => exact ⟨o, hk, .inl rfl⟩
    | some p =>
      obtain ⟨b, i⟩ := p
      simp only at hk
      rw [get_nilO] at hk
      obtain ⟨o1, h1, rfl⟩ := Option.map_eq_some_iff.1 hk
      refine ⟨o1, h1, ?_⟩
      cases o1 with
      | row T s n cs => exact .inl rfl
      | box T cs =>
        simp only
        split
        · exact .inr ⟨T, cs, i, rfl, rfl⟩
        · exact .inl rfl
  have hst : nilSt ks bi d e sz st = { st with regs := nilR ks d st.regs, objs := (d, .row e sz 0 []) :: objs' } := rfl
  have hl : ∀ b, live (upd γ d (.slice none 0 0)) ((d, Obj.row e sz 0 []) :: objs') b → live γ st.objs b := by
    rintro b ⟨k, o, h1, h2⟩
    simp only [get] at h1
    split at h1
    · rename_i hk; subst hk; rw [upd_same] at h2; simp [blk] at h2
    · rename_i hk
      rw [upd_ne (fun h => hk h.symm)] at h2
      obtain ⟨o1, h3, _⟩ := hget k o h1
      exact ⟨k, o1, h3, h2⟩
  have hless : ∀ b, Mut V (upd γ d (.slice none 0 0)) ((d, Obj.row e sz 0 []) :: objs') b → Mut V γ st.objs b := fun b h => h.imp id (hl b)
  rw [hst]
  refine ⟨upd γ d (.slice none 0 0), U, V, S.env, S.size, ?_, ?_, ?_, ?_, fun b hb => S.own b (hl b hb), S.zone, S.ltU, S.ltV, S.defs, ?_, fun k hk => by rw [upd_ne (by omega)]; exact S.kept k hk⟩
  · intro k v hk
    simp only at hk
    rw [get_nilR] at hk
    obtain ⟨u, hu, rfl⟩ := Option.map_eq_some_iff.1 hk
    have h0 := S.reg k u hu
    have h1 := RA.mono (Same.refl _ _) (fun b _ h => hless b h) u _ (RA.free hγ u _ (regsFree_get hfr hu) h0)
    split
    · split
      · rw [nil_val h0]; simp only [RA, upd_same]
      · exact h1
    · exact h1
  · exact OutsOk.mono (Same.refl _ _) (fun b _ h => hless b h) (outerFree_ok hγ hfu S.outs)
  · intro k o hk
    simp only [get] at hk
    split at hk
    · rename_i hkd
      subst hkd
      obtain rfl := Option.some.inj hk
      simp only [SimObj, upd_same]
      exact ⟨none, 0, [], rfl, Nat.le_refl _, Nat.zero_le _, by simp, by simp [RPs], (fun v hv => by cases hv), fun h => by omega⟩
    · rename_i hkd
      have hkd' : [d].contains k = false := by simp; exact fun h => hkd h.symm
      obtain ⟨o1, h1, ho⟩ := hget k o hk
      have hs := ((S.obj k o1 h1).mono (Same.refl _ _) (fun b _ h => hless b h) (fun _ _ => rfl)).free hγ hkd' (fun T cs he => by subst he; exact objsFree_box hfo h1)
      rcases ho with rfl | ⟨T, cs, i, rfl, rfl⟩
      · exact hs
      · simp only [SimObj] at hs ⊢
        obtain ⟨b, xs, h2, h3, h4, h5⟩ := hs
        exact ⟨b, xs, h2, h3, nilC_ok (upd_same _ _ _) cs i xs h4, h5⟩
  · intro k k' o o' b h1 h2 h3 h4
    simp only [get] at h1 h2
    split at h1
    · rename_i hk; subst hk; rw [upd_same] at h3; simp [blk] at h3
    · rename_i hk
      split at h2
      · rename_i hk'; subst hk'; rw [upd_same] at h4; simp [blk] at h4
      · rename_i hk'
        rw [upd_ne (fun h => hk h.symm)] at h3
        rw [upd_ne (fun h => hk' h.symm)] at h4
        obtain ⟨o1, h5, _⟩ := hget k o h1
        obtain ⟨o2, h6, _⟩ := hget k' o' h2
        exact S.sep k k' o1 o2 b h5 h6 h3 h4
  · intro k n cs hk b hb
    simp only at hk
    rw [get_nilR] at hk
    obtain ⟨u, hu, hk⟩ := Option.map_eq_some_iff.1 hk
    have : u = .lit n cs := by
      split at hk
      · split at hk
        · cases hk
        · exact hk
      · exact hk
    subst this
    exact S.lits k n cs hu b hb

/-! ### A row that is only read from here on -/
mutual
def AV.frz (d sz n : Nat) (cs : List PV) : AV → AV
  | .p x => .p x
  | .agg l => .agg (AV.frzs d sz n cs l)
  | .own e => if e = d then .p (.sl .any n cs) else .own e
  | .sub e o m => if e = d then (if o + m * sz ≤ cs.length then .p (.sl .any m ((cs.drop o).take (m * sz))) else .any) else .sub e o m
  | .ptr e o => if e = d then .p (.rop (cs.drop o)) else .ptr e o
  | .fn f l => .fn f (AV.frzs d sz n cs l)
  | .tup l => .tup (AV.frzs d sz n cs l)
  | .yield => .yield
  | .any => .any
  | .lit m l => .lit m l
def AV.frzs (d sz n : Nat) (cs : List PV) : List AV → List AV
  | [] => []
  | x :: l => AV.frz d sz n cs x :: AV.frzs d sz n cs l
end
section
variable {Y : Value} {γ : Nat → Value} {w : World} {M M' : Nat → Prop} {d T sz n : Nat} {cs : List PV}
theorem sub_val {o m : Nat} {v : Value} (h : SimObj Y γ w M d (.row T sz n cs)) (hM : ∀ b, M' b → M b) (hb : ∀ b, blk (γ d) = some b → ¬ M' b) (hm : o + m * sz ≤ cs.length) (hv : RA Y γ w M (.sub d o m) v) : RP w M' (.sl .any m ((cs.drop o).take (m * sz))) v := by
  have hs := frzC_sound (Y := Y) (γ := γ) (w := w) (M := M) (M0 := M') (objs := [(d, .row T sz n cs)]) (x := .sub d o m) (p := .sl .any m ((cs.drop o).take (m * sz))) (v := v)
    (fun e ob he => by simp only [get] at he; split at he; · rename_i h1; subst h1; obtain rfl := Option.some.inj he; exact h
                       · cases he) hM
    (fun e ob b he hb' => by simp only [get] at he; split at he; · rename_i h1; subst h1; exact hb b hb'
                             · cases he) (by simp [frzC, get, hm]) hv
  exact hs
theorem ptr_val {o : Nat} {v : Value} (h : SimObj Y γ w M d (.row T sz n cs)) (hM : ∀ b, M' b → M b) (hb : ∀ b, blk (γ d) = some b → ¬ M' b) (hv : RA Y γ w M (.ptr d o) v) : RP w M' (.rop (cs.drop o)) v := by
  exact frzA_sound (Y := Y) (γ := γ) (w := w) (M := M) (M0 := M') (objs := [(d, .row T sz n cs)]) (x := .ptr d o) (p := .rop (cs.drop o)) (v := v)
    (fun e ob he => by simp only [get] at he; split at he; · rename_i h1; subst h1; obtain rfl := Option.some.inj he; exact h
                       · cases he) hM
    (fun e ob b he hb' => by simp only [get] at he; split at he; · rename_i h1; subst h1; exact hb b hb'
                             · cases he) (by simp [frzA, frzA.frzP, get]) hv
mutual
theorem RA.frz (h : SimObj Y γ w M d (.row T sz n cs)) (hM : ∀ b, M' b → M b) (hb : ∀ b, blk (γ d) = some b → ¬ M' b) : ∀ (x : AV) (v : Value), RA Y γ w M x v → RA Y γ w M' (x.frz d sz n cs) v
  | .p q, v, hv => by simp only [AV.frz, RA] at hv ⊢; exact RP.mono (Same.refl M w) (fun b _ h => hM b h) q v hv
  | .own e, v, hv => by
    simp only [AV.frz]
    split
    · rename_i he; subst he
      simp only [RA] at hv ⊢
      subst hv
      exact RP.mono (w' := w) (M := M') (Same.refl _ w) (fun b _ h => h) _ _ (row_any (M := M') (Y := Y) (row_mono hM h) hb)
    · simp only [RA] at hv ⊢; exact hv
  | .sub e o m, v, hv => by
    simp only [AV.frz]
    split
    · rename_i he; subst he
      split
      · rename_i hm; simp only [RA]; exact sub_val h hM hb hm hv
      · simp only [RA]
    · simp only [RA] at hv ⊢; exact hv
  | .ptr e o, v, hv => by
    simp only [AV.frz]
    split
    · rename_i he; subst he; simp only [RA]; exact ptr_val h hM hb hv
    · simp only [RA] at hv ⊢; exact hv
  | .agg l, v, hv => by
    simp only [AV.frz, RA] at hv ⊢
    obtain ⟨xs, rfl, h1, h2⟩ := hv
    exact ⟨xs, rfl, RAs.frz h hM hb l xs h1, h2⟩
  | .fn f l, v, hv => by
    simp only [AV.frz, RA] at hv ⊢
    obtain ⟨xs, rfl, h1⟩ := hv
    exact ⟨xs, rfl, RAs.frz h hM hb l xs h1⟩
  | .tup l, v, hv => by
    simp only [AV.frz, RA] at hv ⊢
    obtain ⟨xs, rfl, h1⟩ := hv
    exact ⟨xs, rfl, RAs.frz h hM hb l xs h1⟩
  | .yield, v, hv => by simpa only [AV.frz, RA] using hv
  | .any, v, hv => by simp only [AV.frz, RA]
  | .lit m l, v, hv => by
    rw [AV.frz, RA]
    rw [RA] at hv
    exact RP.mono (Same.refl M w) (fun b _ h => hM b h) _ v hv
theorem RAs.frz (h : SimObj Y γ w M d (.row T sz n cs)) (hM : ∀ b, M' b → M b) (hb : ∀ b, blk (γ d) = some b → ¬ M' b) : ∀ (x : List AV) (v : List Value), RAs Y γ w M x v → RAs Y γ w M' (AV.frzs d sz n cs x) v
  | [], v, hv => by simpa only [AV.frzs, RAs] using hv
  | x :: l, v, hv => by
    simp only [AV.frzs, RAs] at hv ⊢
    obtain ⟨u, us, rfl, h1, h2⟩ := hv
    exact ⟨u, us, rfl, RA.frz h hM hb x u h1, RAs.frz h hM hb l us h2⟩
end
end
def Obj.frz (d sz n : Nat) (cs : List PV) : Obj → Obj
  | .box T l => .box T (AV.frzs d sz n cs l)
  | .row T s m l => .row T s m l
def frzSt (d : Nat) (st : St) : Option St :=
  match get d st.objs with
  | some (.row _ sz n cs) => some { regs := mapv (AV.frz d sz n cs) st.regs, objs := mapv (Obj.frz d sz n cs) (del d st.objs), log := st.log, outer := st.outer.map (mapv (AV.frz d sz n cs)) }
  | _ => none
theorem get_mapv' {α β : Type} (f : α → β) (k : Nat) (l : List (Nat × α)) : get k (mapv f l) = (get k l).map f := get_mapv f k l
theorem frz_lit {d sz n m : Nat} {cs l : List PV} {v : AV} (h : v.frz d sz n cs = .lit m l) : v = .lit m l := by
  cases v <;> simp only [AV.frz] at h <;> first | exact h | (cases h; done) | (split at h <;> first | (cases h; done) | (split at h <;> cases h))
theorem OutsOk.frz {Y : Value} {γ : Nat → Value} {w : World} {M M' : Nat → Prop} {d T sz n : Nat} {cs : List PV} (h : SimObj Y γ w M d (.row T sz n cs)) (hM : ∀ b, M' b → M b) (hb : ∀ b, blk (γ d) = some b → ¬ M' b) :
    ∀ {rs : List (List (Nat × AV))} {ts : List (Array Value)}, OutsOk Y γ w M rs ts → OutsOk Y γ w M' (rs.map (mapv (AV.frz d sz n cs))) ts
  | [], ts, h' => by simpa only [OutsOk, List.map_nil] using h'
  | r :: rs, ts, h' => by
    simp only [OutsOk, List.map_cons] at h' ⊢
    obtain ⟨t, ts', rfl, h1, h3, h2⟩ := h'
    refine ⟨t, ts', rfl, fun k v hk => ?_, fun k m l hk => ?_, OutsOk.frz h hM hb h2⟩
    · rw [get_mapv] at hk
      obtain ⟨u, hu, rfl⟩ := Option.map_eq_some_iff.1 hk
      exact RA.frz h hM hb u _ (h1 k u hu)
    · rw [get_mapv] at hk
      obtain ⟨u, hu, hk⟩ := Option.map_eq_some_iff.1 hk
      rw [frz_lit hk] at hu
      exact h3 k m l hu
theorem frzSt_inv {st st' : St} {a : Act} {w : World} {d : Nat} (hs : frzSt d st = some st') (h : Inv X st a w) : Inv X st' a w := by
  obtain ⟨γ, U, V, S⟩ := h
  unfold frzSt at hs
  split at hs
  · rename_i T sz n cs hd
    obtain rfl := Option.some.inj hs
    have hob := S.obj d _ hd
    have hget : ∀ k o, get k (mapv (Obj.frz d sz n cs) (del d st.objs)) = some o → k ≠ d ∧ ∃ o1, get k st.objs = some o1 ∧ o = o1.frz d sz n cs := by
      intro k o hk
      rw [get_mapv] at hk
      obtain ⟨o1, h1, rfl⟩ := Option.map_eq_some_iff.1 hk
      by_cases hkd : k = d
      · subst hkd; rw [get_del_same] at h1; cases h1
      · rw [get_del_ne (Ne.symm hkd)] at h1; exact ⟨hkd, o1, h1, rfl⟩
    have hl : ∀ b, live γ (mapv (Obj.frz d sz n cs) (del d st.objs)) b → live γ st.objs b := by
      rintro b ⟨k, o, h1, h2⟩
      obtain ⟨_, o1, h3, _⟩ := hget k o h1
      exact ⟨k, o1, h3, h2⟩
    have hM : ∀ b, Mut V γ (mapv (Obj.frz d sz n cs) (del d st.objs)) b → Mut V γ st.objs b := fun b h => h.imp id (hl b)
    have hb : ∀ b, blk (γ d) = some b → ¬ Mut V γ (mapv (Obj.frz d sz n cs) (del d st.objs)) b := by
      rintro b hbl (hV | ⟨k, o, h1, h2⟩)
      · exact S.zone b hV (S.own b ⟨d, _, hd, hbl⟩)
      · obtain ⟨hkd, o1, h3, _⟩ := hget k o h1
        exact hkd (S.sep k d o1 _ b h3 hd h2 hbl)
    refine ⟨γ, U, V, S.env, S.size, ?_, OutsOk.frz hob hM hb S.outs, ?_, ?_, fun b hb => S.own b (hl b hb), S.zone, S.ltU, S.ltV, S.defs, ?_, S.kept⟩
    · intro k v hk
      rw [get_mapv] at hk
      obtain ⟨u, hu, rfl⟩ := Option.map_eq_some_iff.1 hk
      exact RA.frz hob hM hb u _ (S.reg k u hu)
    · intro k o hk
      obtain ⟨hkd, o1, h3, rfl⟩ := hget k o hk
      have hs1 := S.obj k o1 h3
      cases o1 with
      | row T' s m l => exact row_mono hM hs1
      | box T' l =>
        simp only [SimObj, Obj.frz] at hs1 ⊢
        obtain ⟨b, xs, h4, h5, h6, h7⟩ := hs1
        exact ⟨b, xs, h4, h5, RAs.frz hob hM hb l xs h6, h7⟩
    · intro k k' o o' b h1 h2 h3 h4
      obtain ⟨_, o1, h5, _⟩ := hget k o h1
      obtain ⟨_, o2, h6, _⟩ := hget k' o' h2
      exact S.sep k k' o1 o2 b h5 h6 h3 h4
    · intro k m l hk b hb
      rw [get_mapv] at hk
      obtain ⟨u, hu, hk⟩ := Option.map_eq_some_iff.1 hk
      rw [frz_lit hk] at hu
      exact S.lits k m l hu b hb
  · cases hs

/-! ### A row under another name -/
mutual
def AV.ren (i j : Nat) : AV → AV
  | .p x => .p x
  | .agg l => .agg (AV.rens i j l)
  | .own e => .own (if e = i then j else e)
  | .sub e o m => .sub (if e = i then j else e) o m
  | .ptr e o => .ptr (if e = i then j else e) o
  | .fn f l => .fn f (AV.rens i j l)
  | .tup l => .tup (AV.rens i j l)
  | .yield => .yield
  | .any => .any
  | .lit m l => .lit m l
def AV.rens (i j : Nat) : List AV → List AV
  | [] => []
  | x :: l => AV.ren i j x :: AV.rens i j l
end
section
variable {Y : Value} {γ γ' : Nat → Value} {w : World} {M : Nat → Prop} {i j : Nat}
mutual
theorem RA.ren (hj : γ' j = γ i) (hγ : ∀ e, e ≠ j → γ' e = γ e) : ∀ (x : AV) (v : Value), x.free [j] = true → RA Y γ w M x v → RA Y γ' w M (x.ren i j) v
  | .p q, v, _, hv => by simp only [AV.ren, RA] at hv ⊢; exact hv
  | .own e, v, hf, hv => by
    simp only [AV.free] at hf
    simp only [AV.ren, RA] at hv ⊢
    split
    · rename_i he; subst he; rw [hj]; exact hv
    · rw [hγ e (by rintro rfl; simp at hf)]; exact hv
  | .sub e o m, v, hf, hv => by
    simp only [AV.free] at hf
    simp only [AV.ren, RA] at hv ⊢
    split
    · rename_i he; subst he; rw [hj]; exact hv
    · rw [hγ e (by rintro rfl; simp at hf)]; exact hv
  | .ptr e o, v, hf, hv => by
    simp only [AV.free] at hf
    simp only [AV.ren, RA] at hv ⊢
    split
    · rename_i he; subst he; rw [hj]; exact hv
    · rw [hγ e (by rintro rfl; simp at hf)]; exact hv
  | .agg l, v, hf, hv => by
    simp only [AV.free] at hf
    simp only [AV.ren, RA] at hv ⊢
    obtain ⟨xs, rfl, h1, h2⟩ := hv
    exact ⟨xs, rfl, RAs.ren hj hγ l xs hf h1, h2⟩
  | .fn f l, v, hf, hv => by
    simp only [AV.free] at hf
    simp only [AV.ren, RA] at hv ⊢
    obtain ⟨xs, rfl, h1⟩ := hv
    exact ⟨xs, rfl, RAs.ren hj hγ l xs hf h1⟩
  | .tup l, v, hf, hv => by
    simp only [AV.free] at hf
    simp only [AV.ren, RA] at hv ⊢
    obtain ⟨xs, rfl, h1⟩ := hv
    exact ⟨xs, rfl, RAs.ren hj hγ l xs hf h1⟩
  | .yield, v, _, hv => by simpa only [AV.ren, RA] using hv
  | .any, v, _, hv => by simp only [AV.ren, RA]
  | .lit m l, v, _, hv => by rw [AV.ren, RA]; rw [RA] at hv; exact hv
theorem RAs.ren (hj : γ' j = γ i) (hγ : ∀ e, e ≠ j → γ' e = γ e) : ∀ (x : List AV) (v : List Value), AV.frees [j] x = true → RAs Y γ w M x v → RAs Y γ' w M (AV.rens i j x) v
  | [], v, _, hv => by simpa only [AV.rens, RAs] using hv
  | x :: l, v, hf, hv => by
    simp only [AV.frees, Bool.and_eq_true] at hf
    simp only [AV.rens, RAs] at hv ⊢
    obtain ⟨u, us, rfl, h1, h2⟩ := hv
    exact ⟨u, us, rfl, RA.ren hj hγ x u hf.1 h1, RAs.ren hj hγ l us hf.2 h2⟩
end
end
def Obj.ren (i j : Nat) : Obj → Obj
  | .box T l => .box T (AV.rens i j l)
  | .row T s m l => .row T s m l
def renO (i j : Nat) : List (Nat × Obj) → List (Nat × Obj)
  | [] => []
  | (k, o) :: l => (if k = i then j else k, o.ren i j) :: renO i j l
theorem get_renO {i j : Nat} : ∀ {l : List (Nat × Obj)}, get j l = none → i ≠ j → ∀ k, get k (renO i j l) = if k = j then (get i l).map (Obj.ren i j) else if k = i then none else (get k l).map (Obj.ren i j)
  | [], _, _, k => by simp [renO, get]
  | (e, o) :: l, hj, hij, k => by
    simp only [get] at hj
    split at hj
    · cases hj
    · rename_i hej
      have ih := get_renO hj hij k
      simp only [renO, get]
      by_cases hei : e = i
      · subst hei
        simp only [if_true]
        by_cases hkj : k = j
        · subst hkj; simp
        · rw [if_neg (fun h => hkj h.symm), ih, if_neg hkj, if_neg hkj]
          by_cases hke : k = e
          · subst hke; simp
          · rw [if_neg hke, if_neg hke, if_neg (fun h => hke h.symm)]
      · simp only [if_neg hei]
        by_cases hek : e = k
        · subst hek
          simp only [if_true, if_neg hej, if_neg hei, Option.map_some]
        · rw [if_neg hek, ih]
          by_cases hkj : k = j
          · rw [if_pos hkj, if_pos hkj]
          · rw [if_neg hkj, if_neg hkj, if_neg hek]
def renSt (i j : Nat) (st : St) : St := { regs := mapv (AV.ren i j) st.regs, objs := renO i j st.objs, log := st.log, outer := st.outer.map (mapv (AV.ren i j)) }
theorem ren_lit {i j m : Nat} {l : List PV} {v : AV} (h : v.ren i j = .lit m l) : v = .lit m l := by
  cases v <;> simp only [AV.ren] at h <;> first | exact h | cases h
theorem OutsOk.ren {Y : Value} {γ γ' : Nat → Value} {w : World} {M : Nat → Prop} {i j : Nat} (hj : γ' j = γ i) (hγ : ∀ e, e ≠ j → γ' e = γ e) :
    ∀ {rs : List (List (Nat × AV))} {ts : List (Array Value)}, outerFree [j] rs = true → OutsOk Y γ w M rs ts → OutsOk Y γ' w M (rs.map (mapv (AV.ren i j))) ts
  | [], ts, _, h' => by simpa only [OutsOk, List.map_nil] using h'
  | r :: rs, ts, hf, h' => by
    simp only [outerFree, Bool.and_eq_true] at hf
    simp only [OutsOk, List.map_cons] at h' ⊢
    obtain ⟨t, ts', rfl, h1, h3, h2⟩ := h'
    refine ⟨t, ts', rfl, fun k v hk => ?_, fun k m l hk => ?_, OutsOk.ren hj hγ hf.2 h2⟩
    · rw [get_mapv] at hk
      obtain ⟨u, hu, rfl⟩ := Option.map_eq_some_iff.1 hk
      exact RA.ren hj hγ u _ (regsFree_get hf.1 hu) (h1 k u hu)
    · rw [get_mapv] at hk
      obtain ⟨u, hu, hk⟩ := Option.map_eq_some_iff.1 hk
      rw [ren_lit hk] at hu
      exact h3 k m l hu
theorem renSt_inv {st : St} {a : Act} {w : World} {i j : Nat} (hf : freeSt [j] st = true) (hij : i ≠ j) (hn : j < X.n) (h : Inv X st a w) : Inv X (renSt i j st) a w := by
  obtain ⟨γ, U, V, S⟩ := h
  simp only [freeSt, Bool.and_eq_true] at hf
  obtain ⟨⟨hfr, hfo⟩, hfu⟩ := hf
  have hnone : get j st.objs = none := objsFree_has hfo (by simp)
  have hj : upd γ j (γ i) j = γ i := upd_same _ _ _
  have hγ : ∀ e, e ≠ j → upd γ j (γ i) e = γ e := fun e he => upd_ne he
  have hget : ∀ k o, get k (renO i j st.objs) = some o → ∃ k1 o1, get k1 st.objs = some o1 ∧ o = o1.ren i j ∧ upd γ j (γ i) k = γ k1 ∧ (k = if k1 = i then j else k1) ∧ k1 ≠ j := by
    intro k o hk
    rw [get_renO hnone hij] at hk
    split at hk
    · rename_i hkj
      subst hkj
      obtain ⟨o1, h1, rfl⟩ := Option.map_eq_some_iff.1 hk
      exact ⟨i, o1, h1, rfl, hj, by simp, hij⟩
    · rename_i hkj
      split at hk
      · cases hk
      · rename_i hki
        obtain ⟨o1, h1, rfl⟩ := Option.map_eq_some_iff.1 hk
        exact ⟨k, o1, h1, rfl, hγ k hkj, by rw [if_neg hki], hkj⟩
  have hl : ∀ b, live (upd γ j (γ i)) (renO i j st.objs) b → live γ st.objs b := by
    rintro b ⟨k, o, h1, h2⟩
    obtain ⟨k1, o1, h3, _, h4, _⟩ := hget k o h1
    rw [h4] at h2
    exact ⟨k1, o1, h3, h2⟩
  have hM : ∀ b, Mut V (upd γ j (γ i)) (renO i j st.objs) b → Mut V γ st.objs b := fun b h => h.imp id (hl b)
  refine ⟨upd γ j (γ i), U, V, S.env, S.size, ?_, ?_, ?_, ?_, fun b hb => S.own b (hl b hb), S.zone, S.ltU, S.ltV, S.defs, ?_, fun k hk => by rw [upd_ne (by omega)]; exact S.kept k hk⟩
  · intro k v hk
    simp only [renSt] at hk ⊢
    rw [get_mapv] at hk
    obtain ⟨u, hu, rfl⟩ := Option.map_eq_some_iff.1 hk
    exact RA.mono (Same.refl _ _) (fun b _ h => hM b h) _ _ (RA.ren hj hγ u _ (regsFree_get hfr hu) (S.reg k u hu))
  · exact OutsOk.mono (Same.refl _ _) (fun b _ h => hM b h) (OutsOk.ren hj hγ hfu S.outs)
  · intro k o hk
    simp only [renSt] at hk ⊢
    obtain ⟨k1, o1, h3, rfl, h4, _⟩ := hget k o hk
    have hs1 := S.obj k1 o1 h3
    cases o1 with
    | row T' s m l =>
      simp only [Obj.ren]
      have := row_mono (Y' := X.Y) hM hs1
      simp only [SimObj] at this ⊢
      rw [h4]; exact this
    | box T' l =>
      simp only [SimObj, Obj.ren] at hs1 ⊢
      obtain ⟨b, xs, h5, h6, h7, h8⟩ := hs1
      rw [h4]
      exact ⟨b, xs, h5, h6, RAs.mono (Same.refl _ _) (fun b _ h => hM b h) _ _ (RAs.ren hj hγ l xs (objsFree_box hfo h3) h7), h8⟩
  · intro k k' o o' b h1 h2 h3 h4
    simp only [renSt] at h1 h2
    obtain ⟨k1, o1, h5, _, h6, h7, _⟩ := hget k o h1
    obtain ⟨k2, o2, h8, _, h9, h10, _⟩ := hget k' o' h2
    rw [h6] at h3
    rw [h9] at h4
    have := S.sep k1 k2 o1 o2 b h5 h8 h3 h4
    rw [h7, h10, this]
  · intro k m l hk b hb
    simp only [renSt] at hk
    rw [get_mapv] at hk
    obtain ⟨u, hu, hk⟩ := Option.map_eq_some_iff.1 hk
    rw [ren_lit hk] at hu
    exact S.lits k m l hu b hb

/-! ### A contract under other names -/
section
variable {Y : Value} {γ γ' : Nat → Value} {w : World} {M : Nat → Prop} {i j : Nat}
mutual
theorem RA.unren (hi : γ' i = γ j) (hγ : ∀ e, e ≠ i → γ' e = γ e) : ∀ (x : AV) (v : Value), RA Y γ w M (x.ren i j) v → RA Y γ' w M x v
  | .p q, v, hv => by simp only [AV.ren, RA] at hv ⊢; exact hv
  | .own e, v, hv => by
    simp only [AV.ren, RA] at hv ⊢
    split at hv
    · rename_i he; subst he; rw [hi]; exact hv
    · rename_i he; rw [hγ e he]; exact hv
  | .sub e o m, v, hv => by
    simp only [AV.ren, RA] at hv ⊢
    split at hv
    · rename_i he; subst he; rw [hi]; exact hv
    · rename_i he; rw [hγ e he]; exact hv
  | .ptr e o, v, hv => by
    simp only [AV.ren, RA] at hv ⊢
    split at hv
    · rename_i he; subst he; rw [hi]; exact hv
    · rename_i he; rw [hγ e he]; exact hv
  | .agg l, v, hv => by
    simp only [AV.ren, RA] at hv ⊢
    obtain ⟨xs, rfl, h1, h2⟩ := hv
    exact ⟨xs, rfl, RAs.unren hi hγ l xs h1, h2⟩
  | .fn f l, v, hv => by
    simp only [AV.ren, RA] at hv ⊢
    obtain ⟨xs, rfl, h1⟩ := hv
    exact ⟨xs, rfl, RAs.unren hi hγ l xs h1⟩
  | .tup l, v, hv => by
    simp only [AV.ren, RA] at hv ⊢
    obtain ⟨xs, rfl, h1⟩ := hv
    exact ⟨xs, rfl, RAs.unren hi hγ l xs h1⟩
  | .yield, v, hv => by simpa only [AV.ren, RA] using hv
  | .any, v, hv => by simp only [RA]
  | .lit m l, v, hv => by rw [AV.ren, RA] at hv; rw [RA]; exact hv
theorem RAs.unren (hi : γ' i = γ j) (hγ : ∀ e, e ≠ i → γ' e = γ e) : ∀ (x : List AV) (v : List Value), RAs Y γ w M (AV.rens i j x) v → RAs Y γ' w M x v
  | [], v, hv => by simpa only [AV.rens, RAs] using hv
  | x :: l, v, hv => by
    simp only [AV.rens, RAs] at hv ⊢
    obtain ⟨u, us, rfl, h1, h2⟩ := hv
    exact ⟨u, us, rfl, RA.unren hi hγ x u h1, RAs.unren hi hγ l us h2⟩
end
end
theorem live_ren {γ γ' : Nat → Value} {i j : Nat} {o : List (Nat × Obj)} (hj : get j o = none) (hij : i ≠ j) (h1 : γ' i = γ j) (h2 : ∀ e, e ≠ i → e ≠ j → γ' e = γ e) (b : Nat) : live γ (renO i j o) b ↔ live γ' o b := by
  constructor
  · rintro ⟨k, ob, hk, hb⟩
    rw [get_renO hj hij] at hk
    split at hk
    · rename_i e; subst e
      obtain ⟨o1, ho, _⟩ := Option.map_eq_some_iff.1 hk
      exact ⟨i, o1, ho, by rw [h1]; exact hb⟩
    · rename_i hkj
      split at hk
      · cases hk
      · rename_i hki
        obtain ⟨o1, ho, _⟩ := Option.map_eq_some_iff.1 hk
        exact ⟨k, o1, ho, by rw [h2 k hki hkj]; exact hb⟩
  · rintro ⟨k, ob, hk, hb⟩
    have hkj : k ≠ j := by rintro rfl; rw [hj] at hk; cases hk
    by_cases hki : k = i
    · subst hki
      exact ⟨j, ob.ren k j, by rw [get_renO hj hij, if_pos rfl, hk]; rfl, by rw [← h1]; exact hb⟩
    · exact ⟨k, ob.ren i j, by rw [get_renO hj hij, if_neg hkj, if_neg hki, hk]; rfl, by rw [← h2 k hki hkj]; exact hb⟩
theorem AnsO.ren {f : FuncId} {o0 o1 : List (Nat × Obj)} {args : List AV} {r : AV} (h : AnsO P f o0 args o1 r) (i j : Nat)
    (hc : (decide (i ≠ j) && !has j o0 && !has j o1 && rowsB o0 && rowsB o1 && r.free [j]) = true) : AnsO P f (renO i j o0) (AV.rens i j args) (renO i j o1) (r.ren i j) := by
  simp only [Bool.and_eq_true, decide_eq_true_eq, Bool.not_eq_true'] at hc
  obtain ⟨⟨⟨⟨⟨hij, hj0⟩, hj1⟩, hr0⟩, hr1⟩, hfr⟩ := hc
  rw [has_none] at hj0 hj1
  refine ⟨h.1, fun w M γ xs hM hG hO hx => ?_⟩
  have hg0 : ∀ e, e ≠ i → upd γ i (γ j) e = γ e := fun e he => upd_ne he
  have hgi : upd γ i (γ j) i = γ j := upd_same _ _ _
  have hl0 := live_ren (γ := γ) (γ' := upd γ i (γ j)) hj0 hij hgi (fun e he _ => hg0 e he)
  have hMut : ∀ b, Mut M (upd γ i (γ j)) o0 b ↔ Mut M γ (renO i j o0) b := fun b => by simp only [Mut, hl0 b]
  have keyOf : ∀ d ob, get d o0 = some ob → ∃ d' ob', get d' (renO i j o0) = some ob' ∧ upd γ i (γ j) d = γ d' ∧ ob' = ob.ren i j ∧ (d' = if d = i then j else d) := by
    intro d ob hd
    have hdj : d ≠ j := by rintro rfl; rw [hj0] at hd; cases hd
    by_cases hdi : d = i
    · subst hdi
      exact ⟨j, _, by rw [get_renO hj0 hij, if_pos rfl, hd]; rfl, hgi, rfl, by simp⟩
    · exact ⟨d, _, by rw [get_renO hj0 hij, if_neg hdj, if_neg hdi, hd]; rfl, hg0 d hdi, rfl, by rw [if_neg hdi]⟩
  have hO0 : Objs (upd γ i (γ j)) w M o0 := by
    refine ⟨fun d ob hd => ?_, fun d d' ob ob' b h1 h2 h3 h4 => ?_, fun b hb => hO.zone b ((hl0 b).2 hb), fun b hb => hO.lt b ((hl0 b).2 hb)⟩
    · obtain ⟨T, s, n, cs, rfl⟩ := rowsB_get hr0 hd
      obtain ⟨d', ob', h1, h2, rfl, _⟩ := keyOf d _ hd
      have h3 := row_mono (Y' := undef) (fun b hb => (hMut b).1 hb) (hO.obj d' _ h1)
      simp only [SimObj, Obj.ren] at h3 ⊢
      rw [h2]; exact h3
    · obtain ⟨e, ob1, h5, h6, _, h7⟩ := keyOf d ob h1
      obtain ⟨e', ob2, h8, h9, _, h10⟩ := keyOf d' ob' h2
      rw [h6] at h3
      rw [h9] at h4
      have h11 := hO.sep e e' ob1 ob2 b h5 h8 h3 h4
      have hdj : d ≠ j := by rintro rfl; rw [hj0] at h1; cases h1
      have hdj' : d' ≠ j := by rintro rfl; rw [hj0] at h2; cases h2
      rw [h7, h10] at h11
      by_cases a : d = i <;> by_cases b' : d' = i
      · rw [a, b']
      · rw [if_pos a, if_neg b'] at h11; exact absurd h11.symm hdj'
      · rw [if_neg a, if_pos b'] at h11; exact absurd h11 hdj
      · rw [if_neg a, if_neg b'] at h11; exact h11
  have hx0 : RAs undef (upd γ i (γ j)) w (Mut M (upd γ i (γ j)) o0) args xs := RAs.unren hgi hg0 args xs (RAs.mono (Same.refl _ _) (fun b _ hb => (hMut b).1 hb) _ _ hx)
  refine (h.2 w M _ xs hM (hG.mono fun b _ h => (hMut b).1 h) hO0 hx0).mono ?_
  rintro e w' ⟨v, γ', rfl, hs, hO1, hv, hpin, hnew⟩
  have hj' : upd γ' j (γ' i) j = γ' i := upd_same _ _ _
  have hg' : ∀ e, e ≠ j → upd γ' j (γ' i) e = γ' e := fun e he => upd_ne he
  have hl1 : ∀ b, live (upd γ' j (γ' i)) (renO i j o1) b ↔ live γ' o1 b := live_ren hj1 hij hj'.symm (fun e _ he => (hg' e he).symm)
  have hMut1 : ∀ b, Mut M (upd γ' j (γ' i)) (renO i j o1) b ↔ Mut M γ' o1 b := fun b => by simp only [Mut, hl1 b]
  have keyBack : ∀ d ob, get d (renO i j o1) = some ob → ∃ d' ob', get d' o1 = some ob' ∧ upd γ' j (γ' i) d = γ' d' ∧ ob = ob'.ren i j ∧ (d = if d' = i then j else d') := by
    intro d ob hd
    rw [get_renO hj1 hij] at hd
    split at hd
    · rename_i e; subst e
      obtain ⟨ob1, h1, rfl⟩ := Option.map_eq_some_iff.1 hd
      exact ⟨i, ob1, h1, hj', rfl, by simp⟩
    · rename_i hdj
      split at hd
      · cases hd
      · rename_i hdi
        obtain ⟨ob1, h1, rfl⟩ := Option.map_eq_some_iff.1 hd
        exact ⟨d, ob1, h1, hg' d hdj, rfl, by rw [if_neg hdi]⟩
  refine ⟨v, upd γ' j (γ' i), rfl, ⟨hs.os, hs.tape, hs.output, hs.size, fun b hb hn => hs.blk b hb (fun hl => hn ((hl0 b).2 hl))⟩, ⟨fun d ob hd => ?_, fun d d' ob ob' b h1 h2 h3 h4 => ?_, fun b hb => hO1.zone b ((hl1 b).1 hb), fun b hb => hO1.lt b ((hl1 b).1 hb)⟩, ?_, fun d h0 h1 => ?_, fun b hb => ?_⟩
  · obtain ⟨d', ob', h1, h2, rfl, _⟩ := keyBack d ob hd
    obtain ⟨T, s, n, cs, rfl⟩ := rowsB_get hr1 h1
    have h3 := row_mono (Y' := undef) (fun b hb => (hMut1 b).1 hb) (hO1.obj d' _ h1)
    simp only [SimObj, Obj.ren] at h3 ⊢
    rw [h2]; exact h3
  · obtain ⟨e, ob1, h5, h6, _, h7⟩ := keyBack d ob h1
    obtain ⟨e', ob2, h8, h9, _, h10⟩ := keyBack d' ob' h2
    rw [h6] at h3
    rw [h9] at h4
    have h11 := hO1.sep e e' ob1 ob2 b h5 h8 h3 h4
    rw [h7, h10, h11]
  · exact RA.mono (Same.refl _ _) (fun b _ hb => (hMut1 b).1 hb) _ _ (RA.ren hj' hg' r v hfr hv)
  · rw [has_some] at h0 h1
    obtain ⟨ob0, h0⟩ := h0
    obtain ⟨ob1, h1⟩ := h1
    obtain ⟨d', ob', h2, h3, _, h4⟩ := keyBack d ob1 h1
    rw [h3]
    have hd'j : d' ≠ j := by rintro rfl; rw [hj1] at h2; cases h2
    rw [get_renO hj0 hij] at h0
    by_cases hd'i : d' = i
    · subst hd'i
      rw [if_pos rfl] at h4
      subst h4
      rw [if_pos rfl] at h0
      obtain ⟨ob2, h5, _⟩ := Option.map_eq_some_iff.1 h0
      rw [hpin d' (has_some.2 ⟨_, h5⟩) (has_some.2 ⟨_, h2⟩), hgi]
    · rw [if_neg hd'i] at h4
      subst h4
      rw [if_neg hd'j, if_neg hd'i] at h0
      obtain ⟨ob2, h5, _⟩ := Option.map_eq_some_iff.1 h0
      rw [hpin d (has_some.2 ⟨_, h5⟩) (has_some.2 ⟨_, h2⟩), hg0 d hd'i]
  · rcases hnew b ((hl1 b).1 hb) with h | h
    · exact .inl ((hl0 b).2 h)
    · exact .inr h

/-! ### A row of one's own that is nil, handed in -/
mutual
def AV.unown (k : Nat) : AV → AV
  | .own d => if d = k then .p (.sl .nil 0 []) else .own d
  | .agg l => .agg (AV.unowns k l)
  | .fn f l => .fn f (AV.unowns k l)
  | .tup l => .tup (AV.unowns k l)
  | .p q => .p q
  | .sub d o n => .sub d o n
  | .ptr d o => .ptr d o
  | .yield => .yield
  | .any => .any
  | .lit n l => .lit n l
def AV.unowns (k : Nat) : List AV → List AV
  | [] => []
  | x :: l => AV.unown k x :: AV.unowns k l
end
mutual
def AV.noptr (k : Nat) : AV → Bool
  | .sub d _ _ => decide (d ≠ k)
  | .ptr d _ => decide (d ≠ k)
  | .agg l => AV.noptrs k l
  | .fn _ l => AV.noptrs k l
  | .tup l => AV.noptrs k l
  | _ => true
def AV.noptrs (k : Nat) : List AV → Bool
  | [] => true
  | x :: l => AV.noptr k x && AV.noptrs k l
end
section
variable {Y : Value} {γ γ' : Nat → Value} {w : World} {M : Nat → Prop} {k : Nat}
mutual
theorem RA.unown (hk : γ' k = .slice none 0 0) (hγ : ∀ e, e ≠ k → γ' e = γ e) : ∀ (x : AV) (v : Value), x.noptr k = true → RA Y γ w M (x.unown k) v → RA Y γ' w M x v
  | .p q, v, _, hv => by simp only [AV.unown, RA] at hv ⊢; exact hv
  | .own e, v, hf, hv => by
    simp only [AV.unown] at hv
    split at hv
    · rename_i he; subst he; simp only [RA]; rw [hk]; exact nil_val hv
    · rename_i he; simp only [RA] at hv ⊢; rw [hγ e he]; exact hv
  | .sub e o m, v, hf, hv => by
    simp only [AV.noptr, decide_eq_true_eq] at hf
    simp only [AV.unown, RA] at hv ⊢
    rw [hγ e hf]; exact hv
  | .ptr e o, v, hf, hv => by
    simp only [AV.noptr, decide_eq_true_eq] at hf
    simp only [AV.unown, RA] at hv ⊢
    rw [hγ e hf]; exact hv
  | .agg l, v, hf, hv => by
    simp only [AV.noptr] at hf
    simp only [AV.unown, RA] at hv ⊢
    obtain ⟨xs, rfl, h1, h2⟩ := hv
    exact ⟨xs, rfl, RAs.unown hk hγ l xs hf h1, h2⟩
  | .fn f l, v, hf, hv => by
    simp only [AV.noptr] at hf
    simp only [AV.unown, RA] at hv ⊢
    obtain ⟨xs, rfl, h1⟩ := hv
    exact ⟨xs, rfl, RAs.unown hk hγ l xs hf h1⟩
  | .tup l, v, hf, hv => by
    simp only [AV.noptr] at hf
    simp only [AV.unown, RA] at hv ⊢
    obtain ⟨xs, rfl, h1⟩ := hv
    exact ⟨xs, rfl, RAs.unown hk hγ l xs hf h1⟩
  | .yield, v, _, hv => by simpa only [AV.unown, RA] using hv
  | .any, v, _, hv => by simp only [RA]
  | .lit m l, v, _, hv => by rw [AV.unown, RA] at hv; rw [RA]; exact hv
theorem RAs.unown (hk : γ' k = .slice none 0 0) (hγ : ∀ e, e ≠ k → γ' e = γ e) : ∀ (x : List AV) (v : List Value), AV.noptrs k x = true → RAs Y γ w M (AV.unowns k x) v → RAs Y γ' w M x v
  | [], v, _, hv => by simpa only [AV.unowns, RAs] using hv
  | x :: l, v, hf, hv => by
    simp only [AV.noptrs, Bool.and_eq_true] at hf
    simp only [AV.unowns, RAs] at hv ⊢
    obtain ⟨y, ys, rfl, h1, h2⟩ := hv
    exact ⟨y, ys, rfl, RA.unown hk hγ x y hf.1 h1, RAs.unown hk hγ l ys hf.2 h2⟩
end
end
def nilRowB (k : Nat) (o0 : List (Nat × Obj)) : Bool :=
  match get k o0 with
  | some (.row _ _ 0 []) => true
  | _ => false
theorem AnsO.nil {f : FuncId} {o0 o1 : List (Nat × Obj)} {args : List AV} {r : AV} (h : AnsO P f o0 args o1 r) (k : Nat) (hc : (nilRowB k o0 && rowsB o0 && AV.noptrs k args) = true) : AnsO P f (del k o0) (AV.unowns k args) o1 r := by
  simp only [Bool.and_eq_true] at hc
  obtain ⟨⟨hn, hr0⟩, hnp⟩ := hc
  obtain ⟨e, sz, hk⟩ : ∃ e sz, get k o0 = some (.row e sz 0 []) := by
    unfold nilRowB at hn
    split at hn
    · rename_i e sz hk; exact ⟨e, sz, hk⟩
    · cases hn
  refine ⟨h.1, fun w M γ xs hM hG hO hx => ?_⟩
  have hgk : upd γ k (.slice none 0 0) k = .slice none 0 0 := upd_same _ _ _
  have hgn : ∀ e, e ≠ k → upd γ k (.slice none 0 0) e = γ e := fun e he => upd_ne he
  have hl : ∀ b, live (upd γ k (.slice none 0 0)) o0 b ↔ live γ (del k o0) b := by
    intro b
    constructor
    · rintro ⟨d, ob, h1, h2⟩
      by_cases hd : d = k
      · subst hd; rw [hgk] at h2; simp [blk] at h2
      · exact ⟨d, ob, by rw [get_del_ne (fun h => hd h.symm)]; exact h1, by rw [hgn d hd] at h2; exact h2⟩
    · rintro ⟨d, ob, h1, h2⟩
      by_cases hd : d = k
      · subst hd; rw [get_del_same] at h1; cases h1
      · exact ⟨d, ob, by rw [get_del_ne (fun h => hd h.symm)] at h1; exact h1, by rw [hgn d hd]; exact h2⟩
  have hMut : ∀ b, Mut M (upd γ k (.slice none 0 0)) o0 b ↔ Mut M γ (del k o0) b := fun b => by simp only [Mut, hl b]
  have hO0 : Objs (upd γ k (.slice none 0 0)) w M o0 := by
    refine ⟨fun d ob hd => ?_, fun d d' ob ob' b h1 h2 h3 h4 => ?_, fun b hb => hO.zone b ((hl b).1 hb), fun b hb => hO.lt b ((hl b).1 hb)⟩
    · by_cases hdk : d = k
      · subst hdk
        rw [hk] at hd
        obtain rfl := Option.some.inj hd
        simp only [SimObj, hgk]
        exact ⟨none, 0, [], rfl, Nat.le_refl _, Nat.zero_le _, by simp, by simp [RPs], (fun v hv => by cases hv), fun h => by omega⟩
      · obtain ⟨T, s, n, cs, rfl⟩ := rowsB_get hr0 hd
        have h3 := row_mono (Y' := undef) (fun b hb => (hMut b).1 hb) (hO.obj d _ (by rw [get_del_ne (fun h => hdk h.symm)]; exact hd))
        simp only [SimObj] at h3 ⊢
        rw [hgn d hdk]; exact h3
    · by_cases hdk : d = k
      · subst hdk; rw [hgk] at h3; simp [blk] at h3
      · by_cases hdk' : d' = k
        · subst hdk'; rw [hgk] at h4; simp [blk] at h4
        · rw [hgn d hdk] at h3
          rw [hgn d' hdk'] at h4
          exact hO.sep d d' ob ob' b (by rw [get_del_ne (fun h => hdk h.symm)]; exact h1) (by rw [get_del_ne (fun h => hdk' h.symm)]; exact h2) h3 h4
  have hx0 : RAs undef (upd γ k (.slice none 0 0)) w (Mut M (upd γ k (.slice none 0 0)) o0) args xs := RAs.unown hgk hgn args xs hnp (RAs.mono (Same.refl _ _) (fun b _ hb => (hMut b).1 hb) _ _ hx)
  refine (h.2 w M _ xs hM (hG.mono fun b _ h => (hMut b).1 h) hO0 hx0).mono ?_
  rintro e w' ⟨v, γ', rfl, hs, hO1, hv, hpin, hnew⟩
  refine ⟨v, γ', rfl, ⟨hs.os, hs.tape, hs.output, hs.size, fun b hb hn => hs.blk b hb (fun hl' => hn ((hl b).1 hl'))⟩, hO1, hv, fun d h0 h1 => ?_, fun b hb => (hnew b hb).imp (hl b).1 id⟩
  by_cases hd : d = k
  · subst hd
    rw [has_some] at h0
    obtain ⟨ob, h0⟩ := h0
    rw [get_del_same] at h0; cases h0
  · rw [hpin d (by rw [has_some] at h0 ⊢; obtain ⟨ob, h0⟩ := h0; exact ⟨ob, by rw [get_del_ne (fun h => hd h.symm)] at h0; exact h0⟩) h1, hgn d hd]
end Go.AE
