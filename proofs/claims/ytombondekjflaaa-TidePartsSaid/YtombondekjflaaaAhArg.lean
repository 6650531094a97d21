/- YtombondekjflaaaAhArg: a part of the proof; see the last text for what is proved. -/
import Derived.Test.YtombondekjflaaaAhEnc
import Derived.Test.YtombondekjflaaaAhRow
set_option linter.unusedVariables false
set_option linter.unusedSimpArgs false
namespace Go.AE
open Go.RowKit

variable {P : Program}

def Wks (a b : List PV) : Prop := ∀ (w : World) (M : Nat → Prop) (xs : List Value), RPs w M a xs → RPs w M b xs
theorem Wks.refl (a : List PV) : Wks a a := fun _ _ _ h => h
theorem RPs_split {w : World} {M : Nat → Prop} : ∀ {a b : List PV} {xs : List Value}, RPs w M (a ++ b) xs → ∃ ys zs, xs = ys ++ zs ∧ RPs w M a ys ∧ RPs w M b zs
  | [], b, xs, h => ⟨[], xs, rfl, by simp [RPs], h⟩
  | p :: a, b, xs, h => by
    simp only [List.cons_append, RPs] at h
    obtain ⟨x, xs', rfl, h1, h2⟩ := h
    obtain ⟨ys, zs, rfl, h3, h4⟩ := RPs_split h2
    exact ⟨x :: ys, zs, rfl, by simp only [RPs]; exact ⟨x, ys, rfl, h1, h3⟩, h4⟩
theorem Wks.append {a b c d : List PV} (h : Wks a b) (k : Wks c d) : Wks (a ++ c) (b ++ d) := by
  intro w M xs hx
  obtain ⟨ys, zs, rfl, h1, h2⟩ := RPs_split hx
  exact (h w M ys h1).append (k w M zs h2)

def Rd (P : Program) (t : TypeId) {α : Type} (e : Enc α) (W : α → Prop) : Prop := ∀ (f : Nat) (cs : List PV), CT P f t cs → ∃ x, Wks cs (e.cells x) ∧ W x
def wfI (k : IntKind) (n : Int) : Prop := (Lit.int k n).wf = true
theorem Rd.int {t : TypeId} {k : IntKind} (h : P.underlying t = some (.int k)) : Rd P t (eI k) (wfI k) := by
  intro f cs hc
  cases f with
  | zero => exact hc.elim
  | succ f => simp only [CT, h] at hc; obtain ⟨n, rfl, hn⟩ := hc; exact ⟨n, Wks.refl _, hn⟩
theorem Rd.bool {t : TypeId} (h : P.underlying t = some .bool) : Rd P t eB (fun _ => True) := by
  intro f cs hc
  cases f with
  | zero => exact hc.elim
  | succ f => simp only [CT, h] at hc; obtain ⟨n, rfl⟩ := hc; exact ⟨n, Wks.refl _, trivial⟩
def wfS (s : ByteArray) : Prop := s.size ≤ maxLen
theorem Rd.str {t : TypeId} (h : P.underlying t = some .string) : Rd P t eStr wfS := by
  intro f cs hc
  cases f with
  | zero => exact hc.elim
  | succ f => simp only [CT, h] at hc; obtain ⟨n, rfl, hn⟩ := hc; exact ⟨n, Wks.refl _, hn⟩
def wfL {α : Type} (W : α → Prop) (l : List α) : Prop := l.length ≤ maxLen ∧ ∀ x ∈ l, W x
def wfLb {α : Type} (b : Nat) (W : α → Prop) (l : List α) : Prop := wfL W l ∧ l.length * b ≤ reachBytes
theorem Rd.slb {t e : TypeId} {α : Type} {E : Enc α} {W : α → Prop} (h : P.underlying t = some (.slice e)) (hE : Rd P e E W) {b : Nat} (hb : P.bytesOf e = b) : Rd P t (eSl E) (wfLb b W) := by
  intro f cs hc
  cases f with
  | zero => exact hc.elim
  | succ f =>
    simp only [CT, h] at hc
    rcases hc with rfl | ⟨es, rfl, ⟨hl, hlb⟩, hx⟩
    · refine ⟨[], fun w M xs hx => RPs.anyT _ _ hx, ⟨by simp, fun x hx => by cases hx⟩, by simp⟩
    · have key : ∀ es : List (List PV), (∀ x ∈ es, CT P f e x) → ∃ l : List α, l.length = es.length ∧ Wks es.flatten (encL E l) ∧ ∀ x ∈ l, W x := by
        intro es
        induction es with
        | nil => intro _; exact ⟨[], rfl, Wks.refl _, fun x hx => by cases hx⟩
        | cons c es ih =>
          intro hx
          obtain ⟨l, h1, h2, h3⟩ := ih (fun x hm => hx x (List.mem_cons_of_mem _ hm))
          obtain ⟨x, h4, h5⟩ := hE f c (hx c List.mem_cons_self)
          refine ⟨x :: l, by simp [h1], by simpa [encL] using h4.append h2, fun y hy => ?_⟩
          rcases List.mem_cons.1 hy with rfl | hy
          · exact h5
          · exact h3 y hy
      obtain ⟨l, h1, h2, h3⟩ := key es hx
      refine ⟨l, fun w M xs hxs => ?_, ⟨by rw [h1]; exact hl, h3⟩, by rw [h1, ← hb]; exact hlb⟩
      simp only [RPs, RP, eSl] at hxs ⊢
      obtain ⟨x, _, rfl, ⟨A, c, ys, rfl, _, k1, k2, k3, k4, k5⟩, rfl⟩ := hxs
      exact ⟨_, _, rfl, ⟨A, c, ys, by rw [h1], trivial, by rw [h1]; exact k1, k2, h2 w M ys k3, k4, k5⟩, rfl⟩
theorem Rd.sl {t e : TypeId} {α : Type} {E : Enc α} {W : α → Prop} (h : P.underlying t = some (.slice e)) (hE : Rd P e E W) : Rd P t (eSl E) (wfL W) := by
  intro f cs hc
  obtain ⟨x, h1, h2⟩ := Rd.slb h hE rfl f cs hc
  exact ⟨x, h1, h2.1⟩
def wf4 {α : Type} (W : α → Prop) (x : Arr4 α) : Prop := W x.a0 ∧ W x.a1 ∧ W x.a2 ∧ W x.a3
theorem Rd.arr4 {t e : TypeId} {α : Type} {E : Enc α} {W : α → Prop} (h : P.underlying t = some (.array 4 e)) (hE : Rd P e E W) : Rd P t (e4 E) (wf4 W) := by
  intro f cs hc
  cases f with
  | zero => exact hc.elim
  | succ f =>
    simp only [CT, h] at hc
    have hr : List.replicate 4 e = [e, e, e, e] := rfl
    rw [hr] at hc
    simp only [Parts] at hc
    obtain ⟨a, _, rfl, ha, b, _, rfl, hb, c, _, rfl, hcc, d, _, rfl, hd, rfl⟩ := hc
    obtain ⟨x0, w0, k0⟩ := hE f a ha
    obtain ⟨x1, w1, k1⟩ := hE f b hb
    obtain ⟨x2, w2, k2⟩ := hE f c hcc
    obtain ⟨x3, w3, k3⟩ := hE f d hd
    refine ⟨⟨x0, x1, x2, x3⟩, ?_, k0, k1, k2, k3⟩
    rw [List.append_nil]
    exact w0.append (w1.append (w2.append w3))

def RdP (P : Program) (t : TypeId) {α : Type} (v : α → PV) (W : α → Prop) : Prop := ∀ (f : Nat) (p : PV), PT P f t p → ∃ x, Wks [p] [v x] ∧ W x
theorem Rd.row {t : TypeId} {α : Type} {e : Enc α} {W : α → Prop} (h : Rd P t e W) {d : TypeDesc} (hd : P.underlying t = some d) (hr : d.isRow = true) : RdP P t (fun x => .agg (e.cells x)) W := by
  intro f p hp
  have : ∃ cs, p = .agg cs ∧ CT P f t cs := by
    unfold PT at hp
    rw [hd] at hp
    cases d <;> simp only [TypeDesc.isRow] at hr <;> first | (cases hr; done) | exact hp
  obtain ⟨cs, rfl, hc⟩ := this
  obtain ⟨x, h1, h2⟩ := h f cs hc
  refine ⟨x, fun w M xs hx => ?_, h2⟩
  simp only [RPs, RP] at hx ⊢
  obtain ⟨v, _, rfl, ⟨ys, rfl, k1, k2⟩, rfl⟩ := hx
  exact ⟨_, _, rfl, ⟨ys, rfl, h1 w M ys k1, k2⟩, rfl⟩
theorem Rd.one {t : TypeId} {α : Type} {e : Enc α} {W : α → Prop} (v : α → PV) (hv : ∀ x, e.cells x = [v x]) (h : Rd P t e W) {d : TypeDesc} (hd : P.underlying t = some d) (hr : d.isRow = false) : RdP P t v W := by
  intro f p hp
  have : CT P f t [p] := by
    unfold PT at hp
    rw [hd] at hp
    cases d <;> simp only [TypeDesc.isRow] at hr <;> first | (cases hr; done) | exact hp
  obtain ⟨x, h1, h2⟩ := h f [p] this
  exact ⟨x, by rw [← hv x]; exact h1, h2⟩
theorem PTs_nil {f : Nat} {ps : List PV} (h : PTs P f [] ps) : ps = [] := h
theorem PTs_cons {f : Nat} {t : TypeId} {ts : List TypeId} {ps : List PV} {α : Type} {v : α → PV} {W : α → Prop} (hr : RdP P t v W) (h : PTs P f (t :: ts) ps) : ∃ x qs, W x ∧ PTs P f ts qs ∧ ∀ rs, Wks qs rs → Wks ps (v x :: rs) := by
  obtain ⟨p, qs, rfl, h1, h2⟩ := h
  obtain ⟨x, h3, h4⟩ := hr f p h1
  exact ⟨x, qs, h4, h2, fun rs hrs => h3.append hrs⟩

def RdPs (P : Program) (ts : List TypeId) {β : Type} (c : β → List PV) (V : β → Prop) : Prop := ∀ (f : Nat) (cs : List PV), Parts (CT P f) ts cs → ∃ x, Wks cs (c x) ∧ V x
theorem RdPs.nil : RdPs P [] (fun _ : Unit => []) (fun _ => True) := fun f cs h => ⟨(), by have : cs = [] := h; subst this; exact Wks.refl _, trivial⟩
theorem RdPs.cons {t : TypeId} {ts : List TypeId} {α β : Type} {e : Enc α} {W : α → Prop} {c : β → List PV} {V : β → Prop} (h : Rd P t e W) (k : RdPs P ts c V) : RdPs P (t :: ts) (fun p : α × β => e.cells p.1 ++ c p.2) (fun p => W p.1 ∧ V p.2) := by
  intro f cs hc
  obtain ⟨a, b, rfl, h1, h2⟩ := hc
  obtain ⟨x, h3, h4⟩ := h f a h1
  obtain ⟨y, h5, h6⟩ := k f b h2
  exact ⟨(x, y), h3.append h5, h4, h6⟩
theorem Rd.struct {t : TypeId} {fs : Array Field} {ts : List TypeId} {α β : Type} {e : Enc α} {c : β → List PV} {V : β → Prop} {W : α → Prop} (h : P.underlying t = some (.struct fs)) (hts : fs.toList.map (·.type) = ts) (k : RdPs P ts c V) (mk : β → α) (hmk : ∀ y, e.cells (mk y) = c y) (hW : ∀ y, V y → W (mk y)) : Rd P t e W := by
  intro f cs hc
  cases f with
  | zero => exact hc.elim
  | succ f =>
    simp only [CT, h, hts] at hc
    obtain ⟨y, h1, h2⟩ := k f cs hc
    exact ⟨mk y, by rw [hmk]; exact h1, hW y h2⟩
end Go.AE
