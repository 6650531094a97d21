/- YtombondekjflaaaAhAlloc: a part of the proof; see the last text for what is proved. -/
import Derived.Test.YtombondekjflaaaAhMem
import Derived.Laws.MakeOwn
import Derived.Deep.AppendSrc
set_option linter.unusedVariables false
set_option linter.unusedSimpArgs false
namespace Go.AE
open Go.RowKit

variable {P : Program}

def zeroC (P : Program) (T : TypeId) : Option (List Value) :=
  match P.info? T with
  | some i => match i.zero with
    | some z => if (z.cells.toList.all (·.oneCell')) = true ∧ z.cells.size = i.size then some z.cells.toList else none
    | none => none
  | none => none

theorem zeroC_sound {T : TypeId} {zs : List Value} (h : zeroC P T = some zs) : ∃ i z, P.info? T = some i ∧ i.zero = some z ∧ z.cells = zs.toArray ∧ One zs ∧ zs.length = i.size := by
  unfold zeroC at h
  split at h
  · rename_i i hi
    split at h
    · rename_i z hz
      split at h
      · rename_i hc
        obtain rfl := Option.some.inj h
        exact ⟨i, z, hi, hz, by simp, fun v hv => List.all_eq_true.1 hc.1 v hv, by simpa using hc.2⟩
      · cases h
    · cases h
  · cases h

def places (P : Program) (T : TypeId) : Option (List (Nat × Nat)) :=
  match P.underlying T with
  | some (.struct fields) => fields.toList.mapM fun f => (P.info? f.type).map fun i => (f.offset, i.size)
  | _ => none

def oneA : AV → Bool
  | .p (.s v) => v.oneCell'
  | .p (.sl _ _ _) | .p (.rop _) | .p (.fn _ _) => true
  | .own _ | .sub _ _ _ | .ptr _ _ | .fn _ _ | .yield => true
  | _ => false

def cellsB (x : AV) : Option (List AV) :=
  match cellsA x with
  | some cs => some cs
  | none => if oneA x then some [x] else none

section
variable {Y : Value} {γ : Nat → Value} {w : World} {M : Nat → Prop} {objs : List (Nat × Obj)} {regs : List (Nat × AV)} {a : Act}

theorem one_cells {v : Value} (h : v.oneCell' = true) : v.cells = #[v] := by cases v <;> simp_all [Value.cells, Value.oneCell']

theorem oneA_sound (hγ : ∀ d o, get d objs = some o → SimObj Y γ w M d o) {x : AV} {v : Value} (h : oneA x = true) (hx : RA Y γ w M x v) (hg : ∀ d, x = .own d → ∃ o, get d objs = some o) : v.oneCell' = true := by
  unfold oneA at h
  split at h
  · simp only [RA, RP] at hx; subst hx; exact h
  · simp only [RA, RP] at hx; obtain ⟨A, c, xs, rfl, _⟩ := hx; rfl
  · simp only [RA, RP] at hx; obtain ⟨A, xs, rfl, _⟩ := hx; rfl
  · simp only [RA, RP] at hx; obtain ⟨xs, rfl, _⟩ := hx; rfl
  · rename_i d
    simp only [RA] at hx
    obtain ⟨o, ho⟩ := hg d rfl
    have := hγ d o ho
    subst hx
    cases o <;> simp only [SimObj] at this
    · obtain ⟨b, xs, hb, _⟩ := this; rw [hb]; rfl
    · obtain ⟨A, c, xs, hb, _⟩ := this; rw [hb]; rfl
  · simp only [RA] at hx; obtain ⟨A, c, rfl, _⟩ := hx; rfl
  · simp only [RA] at hx; obtain ⟨b, _, rfl⟩ := hx; rfl
  · simp only [RA] at hx; obtain ⟨xs, rfl, _⟩ := hx; rfl
  · simp only [RA] at hx; exact hx.2
  · cases h

def okCells (objs : List (Nat × Obj)) : AV → Bool
  | .own d => (get d objs).isSome
  | _ => true

def cellsC (objs : List (Nat × Obj)) (x : AV) : Option (List AV) := if okCells objs x then cellsB x else none

theorem cellsC_sound (hγ : ∀ d o, get d objs = some o → SimObj Y γ w M d o) {x : AV} {cs : List AV} {v : Value} (h : cellsC objs x = some cs) (hx : RA Y γ w M x v) :
    RAs Y γ w M cs v.cells.toList ∧ One v.cells.toList := by
  unfold cellsC at h
  split at h
  · rename_i hok
    unfold cellsB at h
    split at h
    · rename_i cs' hc
      obtain rfl := Option.some.inj h
      obtain ⟨xs, rfl, h1, h2⟩ := cellsA_sound hc hx
      exact ⟨by simpa [Value.cells] using h1, by simpa [Value.cells] using h2⟩
    · split at h
      · rename_i h1
        obtain rfl := Option.some.inj h
        have hv := oneA_sound hγ h1 hx (by
          intro d he
          subst he
          simp only [okCells] at hok
          exact Option.isSome_iff_exists.1 hok)
        rw [one_cells hv]
        refine ⟨by simp only [RAs]; exact ⟨v, [], rfl, hx, rfl⟩, ?_⟩
        intro u hu
        simp at hu
        subst hu
        exact hv
      · cases h
  · cases h

def setL {α : Type} (off : Nat) : List α → List α → List α
  | [], cells => cells
  | c :: r, cells => setL (off + 1) r (cells.set off c)

theorem setL_length {α : Type} : ∀ (vs : List α) (off : Nat) (cells : List α), (setL off vs cells).length = cells.length
  | [], _, _ => rfl
  | v :: vs, off, cells => by simp [setL, setL_length vs]

theorem setL_eq {α : Type} : ∀ (vs : List α) (off : Nat) (cells : List α), off + vs.length ≤ cells.length → setL off vs cells = cells.take off ++ vs ++ cells.drop (off + vs.length)
  | [], off, cells, _ => by simp [setL]
  | v :: vs, off, cells, h => by
    simp only [List.length_cons] at h
    rw [setL, setL_eq vs (off + 1) (cells.set off v) (by simp; omega)]
    apply List.ext_getElem?
    intro j
    simp only [List.append_assoc, List.getElem?_append, List.length_take, List.length_set, List.getElem?_take, List.getElem?_set, List.getElem?_drop, List.length_cons]
    have e1 : min (off + 1) cells.length = off + 1 := by omega
    have e2 : min off cells.length = off := by omega
    rw [e1, e2]
    by_cases h1 : j < off
    · simp [h1, show j < off + 1 by omega, show ¬ off = j by omega]
    · by_cases h2 : j = off
      · subst h2; simp [show j < cells.length by omega]
      · obtain ⟨k, rfl⟩ : ∃ k, j = off + 1 + k := ⟨j - off - 1, by omega⟩
        simp only [show ¬ off + 1 + k < off + 1 by omega, show ¬ off + 1 + k < off by omega, if_false, show off + 1 + k - (off + 1) = k by omega, show off + 1 + k - off = k + 1 by omega, List.getElem?_cons_succ,
          Nat.add_lt_add_iff_right, Nat.add_sub_add_right]
        split
        · rfl
        · rw [if_neg (by omega)]; congr 1; omega

theorem One.setL {vs cells : List Value} (h1 : One vs) (h2 : One cells) : ∀ off, One (Go.AE.setL off vs cells) := by
  induction vs generalizing cells with
  | nil => intro off; exact h2
  | cons v vs ih =>
    intro off
    refine ih (fun u hu => h1 u (List.mem_cons_of_mem _ hu)) (fun u hu => ?_) (off + 1)
    rcases List.mem_or_eq_of_mem_set hu with h | rfl
    · exact h2 u h
    · exact h1 _ List.mem_cons_self

theorem RAs.set {p : AV} {x : Value} (hp : RA Y γ w M p x) : ∀ {ps : List AV} {xs : List Value} (i : Nat), RAs Y γ w M ps xs → RAs Y γ w M (ps.set i p) (xs.set i x)
  | [], xs, i, h => by simp only [RAs] at h; subst h; simp [RAs]
  | q :: ps, xs, i, h => by
    simp only [RAs] at h
    obtain ⟨y, xs', rfl, h1, h2⟩ := h
    cases i with
    | zero => simp only [List.set_cons_zero, RAs]; exact ⟨x, xs', rfl, hp, h2⟩
    | succ i => simp only [List.set_cons_succ, RAs]; exact ⟨y, _, rfl, h1, RAs.set hp i h2⟩
theorem RAs.setL : ∀ {vs : List AV} {us : List Value} {cs : List AV} {xs : List Value} (off : Nat), RAs Y γ w M vs us → RAs Y γ w M cs xs → RAs Y γ w M (Go.AE.setL off vs cs) (Go.AE.setL off us xs)
  | [], us, cs, xs, off, h1, h2 => by simp only [RAs] at h1; subst h1; exact h2
  | v :: vs, us, cs, xs, off, h1, h2 => by
    simp only [RAs] at h1
    obtain ⟨u, us', rfl, h3, h4⟩ := h1
    exact RAs.setL (off + 1) h4 (RAs.set h3 off h2)
theorem RPs.setL : ∀ {vs : List PV} {us : List Value} {cs : List PV} {xs : List Value} (off : Nat), RPs w M vs us → RPs w M cs xs → RPs w M (Go.AE.setL off vs cs) (Go.AE.setL off us xs)
  | [], us, cs, xs, off, h1, h2 => by simp only [RPs] at h1; subst h1; exact h2
  | v :: vs, us, cs, xs, off, h1, h2 => by
    simp only [RPs] at h1
    obtain ⟨u, us', rfl, h3, h4⟩ := h1
    exact RPs.setL (off + 1) h4 (RPs.set h3 off h2)

theorem foldl_setL (off : Nat) : ∀ (l : List Value) (n : Nat) (cells : Array Value),
    (l.zipIdx n).foldl (fun cs (c, j) => cs.setIfInBounds (off + j) c) cells = (setL (off + n) l cells.toList).toArray
  | [], n, cells => by simp [setL]
  | v :: l, n, cells => by
    simp only [List.zipIdx_cons, List.foldl_cons]
    rw [foldl_setL off l (n + 1)]
    simp [setL, Nat.add_assoc]

/-! ### Values put together -/
def evParts (regs : List (Nat × AV)) : List (Nat × Operand) → Option (List (Nat × AV))
  | [] => some []
  | (i, x) :: l => match ev regs x, evParts regs l with
    | some v, some vs => some ((i, v) :: vs)
    | _, _ => none

def fillA (objs : List (Nat × Obj)) (place : Nat → Option (Nat × Nat)) (cells : List AV) : List (Nat × AV) → Option (List AV)
  | [] => some cells
  | (i, v) :: rest =>
    match place i, cellsC objs v with
    | some (off, size), some vc => if vc.length = size ∧ off + size ≤ cells.length then fillA objs place (setL off vc cells) rest else none
    | _, _ => none

def zeroA (zs : List Value) : List AV := zs.map fun v => .p (cellP v)

theorem zeroA_sound (zs : List Value) : RAs Y γ w M (zeroA zs) zs := by
  have := RAs.of_RPs (Y := Y) (γ := γ) (RPs_cells w M zs)
  simpa [zeroA, Function.comp_def] using this

def PartsOk (Y : Value) (γ : Nat → Value) (w : World) (M : Nat → Prop) : List (Nat × AV) → List (Nat × Value) → Prop
  | [], vs => vs = []
  | (i, x) :: l, vs => ∃ v vs', vs = (i, v) :: vs' ∧ RA Y γ w M x v ∧ PartsOk Y γ w M l vs'

theorem evParts_sound : ∀ {ps : List (Nat × Operand)} {vs : List (Nat × AV)}, evParts regs ps = some vs → RegsG Y γ w M regs a.tmps → PartsOk Y γ w M vs (ps.map fun (i, x) => (i, a.eval x))
  | [], vs, h, S => by simp only [evParts, Option.some.injEq] at h; subst h; simp [PartsOk]
  | (i, x) :: l, vs, h, S => by
    simp only [evParts] at h
    split at h
    · rename_i v us hv hu
      obtain rfl := Option.some.inj h
      simp only [List.map_cons, PartsOk]
      exact ⟨_, _, rfl, ev_sound hv S, evParts_sound hu S⟩
    · cases h

theorem fillA_sound (hγ : ∀ d o, get d objs = some o → SimObj Y γ w M d o) {place : Nat → Option (Nat × Nat)} : ∀ (ps : List (Nat × AV)) (vs : List (Nat × Value)) (cs : List AV) (xs : List Value) (r : List AV),
    fillA objs place cs ps = some r → PartsOk Y γ w M ps vs → RAs Y γ w M cs xs → One xs → ∃ ys : List Value, Instr.fill place xs.toArray vs = some ys.toArray ∧ RAs Y γ w M r ys ∧ One ys
  | [], vs, cs, xs, r, h, hp, h1, h2 => by
    simp only [fillA, Option.some.injEq] at h
    subst h
    simp only [PartsOk] at hp
    subst hp
    exact ⟨xs, by simp [Instr.fill], h1, h2⟩
  | (i, x) :: ps, vs, cs, xs, r, h, hp, h1, h2 => by
    simp only [fillA] at h
    simp only [PartsOk] at hp
    obtain ⟨v, vs', rfl, hv, hp'⟩ := hp
    split at h
    · rename_i off size vc hpl hvc
      split at h
      · rename_i hb
        obtain ⟨g1, g2⟩ := cellsC_sound hγ hvc hv
        have hlen := g1.length
        obtain ⟨ys, hy, hr, ho⟩ := fillA_sound hγ ps vs' (setL off vc cs) (setL off v.cells.toList xs) r h hp' (g1.setL off h1) (g2.setL h2 off)
        refine ⟨ys, ?_, hr, ho⟩
        have hsz : v.cells.size = size := by rw [← Array.length_toList, hlen, hb.1]
        have hle : ¬ (off + size > xs.toArray.size) := by have := h1.length; simp; omega
        simp only [Instr.fill, hpl, hsz, hle, ne_eq, not_true_eq_false, decide_false, Bool.or_false, Bool.false_eq_true, if_false]
        have e := foldl_setL off v.cells.toList 0 xs.toArray
        simp only [Nat.add_zero] at e
        have e2 : (Array.foldl (fun cs x => match x with | (c, j) => cs.setIfInBounds (off + j) c) xs.toArray v.cells.zipIdx) = (setL off v.cells.toList xs).toArray := by
          rw [← Array.foldl_toList]
          simpa using e
        rw [e2]
        exact hy
      · cases h
    · cases h

def buildA (P : Program) (regs : List (Nat × AV)) (objs : List (Nat × Obj)) (T : TypeId) (parts : List (Nat × Operand)) : Option AV :=
  match zeroC P T, P.underlying T, evParts regs parts with
  | some zs, some (.struct _), some ps =>
    match places P T with
    | some pl => (fillA objs (fun i => pl[i]?) (zeroA zs) ps).map .agg
    | none => none
  | some zs, some (.array _ e), some ps =>
    match size? P e with
    | some k => (fillA objs (fun i => some (i * k, k)) (zeroA zs) ps).map .agg
    | none => none
  | _, _, _ => none

theorem buildA_sound (hγ : ∀ d o, get d objs = some o → SimObj Y γ w M d o) (S : RegsG Y γ w M regs a.tmps) {T : TypeId} {parts : Array (Nat × Operand)} {r : AV} (h : buildA P regs objs T parts.toList = some r) :
    ∃ u, (Instr.build T (parts.map fun (i, x) => (i, a.eval x))).run P w = .ok u w ∧ RA Y γ w M r u := by
  unfold buildA at h
  split at h
  · rename_i zs fs ps hz hu hps
    obtain ⟨it, z, hi, hzz, hzc, hone, hlen⟩ := zeroC_sound hz
    split at h
    · rename_i pl hpl
      obtain ⟨cs, hcs, rfl⟩ := Option.map_eq_some_iff.1 h
      obtain ⟨ys, hy, h1, h2⟩ := fillA_sound hγ ps _ _ zs cs hcs (evParts_sound hps S) (zeroA_sound zs) hone
      unfold places at hpl
      rw [hu] at hpl
      simp only at hpl
      refine ⟨.agg ys.toArray, run_build w T _ _ ?_, by simp only [RA]; exact ⟨ys, rfl, h1, h2⟩⟩
      simp only [Program.built, hi, hu, hzz, hpl, hzc]
      rw [← hy]
      simp
    · cases h
  · rename_i zs n e ps hz hu hps
    obtain ⟨it, z, hi, hzz, hzc, hone, hlen⟩ := zeroC_sound hz
    split at h
    · rename_i k hk
      obtain ⟨cs, hcs, rfl⟩ := Option.map_eq_some_iff.1 h
      obtain ⟨ys, hy, h1, h2⟩ := fillA_sound hγ ps _ _ zs cs hcs (evParts_sound hps S) (zeroA_sound zs) hone
      refine ⟨.agg ys.toArray, run_build w T _ _ ?_, by simp only [RA]; exact ⟨ys, rfl, h1, h2⟩⟩
      unfold size? at hk
      obtain ⟨ie, hie, rfl⟩ := Option.map_eq_some_iff.1 hk
      simp only [Program.built, hi, hu, hzz, hie, hzc]
      rw [← hy]
      simp
    · cases h
  · cases h
end
end Go.AE
