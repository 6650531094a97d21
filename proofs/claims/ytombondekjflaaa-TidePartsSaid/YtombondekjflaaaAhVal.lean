/- YtombondekjflaaaAhVal: a part of the proof; see the last text for what is proved. -/
import Derived.Below
import Derived.Laws.AppendOwn
import Derived.Deep.MidRow
import Derived.RangeFuncNested
import Derived.ScopeJumps
set_option linter.unusedVariables false
set_option linter.unusedSimpArgs false
namespace Go.AE
open Go.RowKit

inductive Tag where
  | nil | tight | full | nn | any | isnil

inductive PV where
  | s (v : Value)
  | agg (cs : List PV)
  | sl (t : Tag) (n : Nat) (cs : List PV)
  | rop (cs : List PV)
  | fn (f : Nat) (cap : List PV)
  | tup (vs : List PV)

def TagOk : Tag → Option Addr → Nat → Nat → Prop
  | .nil, A, n, c => A = none ∧ n = 0 ∧ c = 0
  | .tight, A, n, c => A ≠ none ∧ c = n
  | .full, _, n, c => c = n
  | .nn, A, _, _ => A ≠ none
  | .any, _, _, _ => True
  | .isnil, A, _, _ => A = none

def At (w : World) (M : Nat → Prop) (A : Option Addr) (vs : List Value) : Prop :=
  vs ≠ [] → ∃ ad, A = some ad ∧ ¬ M ad.block ∧ ∀ j v, vs[j]? = some v → w.cell? (ad.add j) = some v

def One (vs : List Value) : Prop := ∀ v ∈ vs, v.oneCell' = true

mutual
def RP (w : World) (M : Nat → Prop) : PV → Value → Prop
  | .s v, x => x = v
  | .agg cs, x => ∃ xs : List Value, x = .agg xs.toArray ∧ RPs w M cs xs ∧ One xs
  | .sl t n cs, x => ∃ (A : Option Addr) (c : Nat) (xs : List Value), x = .slice A n c ∧ TagOk t A n c ∧ n ≤ c ∧ c ≤ maxLen ∧ RPs w M cs xs ∧ One xs ∧ At w M A xs
  | .rop cs, x => ∃ (ad : Addr) (xs : List Value), x = .pointer (some ad) ∧ RPs w M cs xs ∧ One xs ∧ At w M (some ad) xs
  | .fn f cap, x => ∃ xs : List Value, x = .func (.func f) #[] xs.toArray ∧ RPs w M cap xs
  | .tup vs, x => ∃ xs : List Value, x = .tuple xs.toArray ∧ RPs w M vs xs
def RPs (w : World) (M : Nat → Prop) : List PV → List Value → Prop
  | [], xs => xs = []
  | p :: ps, xs => ∃ x xs', xs = x :: xs' ∧ RP w M p x ∧ RPs w M ps xs'
end

structure Same (M : Nat → Prop) (w w' : World) : Prop where
  os : w'.os = w.os
  tape : w'.tape = w.tape
  output : w'.output = w.output
  size : w.heap.size ≤ w'.heap.size
  blk : ∀ b, b < w.heap.size → ¬ M b → w'.heap[b]? = w.heap[b]?

theorem Same.refl (M : Nat → Prop) (w : World) : Same M w w := ⟨rfl, rfl, rfl, Nat.le_refl _, fun _ _ _ => rfl⟩
theorem Same.mono {M M' : Nat → Prop} {w w' : World} (h : Same M w w') (hM : ∀ b, b < w.heap.size → M b → M' b) : Same M' w w' :=
  ⟨h.os, h.tape, h.output, h.size, fun b hb hn => h.blk b hb fun hm => hn (hM b hb hm)⟩
theorem Same.trans {M M' : Nat → Prop} {a b c : World} (h : Same M a b) (k : Same M' b c) (hM : ∀ i, i < a.heap.size → M' i → M i) : Same M a c :=
  ⟨k.os.trans h.os, k.tape.trans h.tape, k.output.trans h.output, Nat.le_trans h.size k.size, fun i hi hn => (k.blk i (Nat.lt_of_lt_of_le hi h.size) fun hm => hn (hM i hi hm)).trans (h.blk i hi hn)⟩
theorem Same.of_below {M : Nat → Prop} {w w' : World} (h : Below w.heap.size w w') : Same M w w' := ⟨h.os, h.tape, h.output, h.size, fun b hb _ => h.block b hb⟩
theorem Same.alloc (M : Nat → Prop) (w : World) (o : Obj) : Same M w (w.alloc o) := ⟨rfl, rfl, rfl, by simp, fun b hb _ => Below.heap_alloc w o b hb⟩
theorem Same.drew (M : Nat → Prop) (w : World) : Same M w w.drew := ⟨rfl, rfl, rfl, Nat.le_refl _, fun _ _ _ => rfl⟩
theorem Same.putObj {M : Nat → Prop} (w : World) (r : Nat) (o : Obj) (h : M r) : Same M w (w.putObj r o) :=
  ⟨rfl, rfl, rfl, by simp, fun b _ hn => World.putObj_heap_other (fun e => hn (e ▸ h))⟩
theorem Same.of_grownBy {M : Nat → Prop} {w w' : World} {row : Option Nat} (h : w.grownBy w' row) (hr : ∀ k, row = some k → M k) : Same M w w' :=
  ⟨h.os, h.tape, h.output, h.size, fun b hb hn => h.block b hb (fun e => hn (hr b e.symm))⟩
theorem Same.setCell {M : Nat → Prop} (w : World) (a : Addr) (v : Value) (h : M a.block) : Same M w (w.setCell a v) :=
  ⟨rfl, rfl, rfl, by simp, fun b _ hn => Below.heap_setCell w a v b (fun e => hn (e ▸ h))⟩

def Keep (M : Nat → Prop) (w w' : World) : Prop := ∀ (b : Nat) cs T fr, w.heap[b]? = some (Obj.cells cs T fr) → ¬ M b → w'.heap[b]? = w.heap[b]?
def Less (w : World) (M' M : Nat → Prop) : Prop := ∀ (b : Nat) cs T fr, w.heap[b]? = some (Obj.cells cs T fr) → M' b → M b
theorem Same.keep {M : Nat → Prop} {w w' : World} (h : Same M w w') : Keep M w w' := fun b cs T fr hb hn => h.blk b (Array.getElem?_eq_some_iff.1 hb).1 hn
theorem less_of {w : World} {M' M : Nat → Prop} (h : ∀ b, b < w.heap.size → M' b → M b) : Less w M' M := fun b cs T fr hb => h b (Array.getElem?_eq_some_iff.1 hb).1

theorem cells_of_cell? {w : World} {ad : Addr} {v : Value} (h : w.cell? ad = some v) : ∃ cs T fr, w.heap[ad.block]? = some (Obj.cells cs T fr) := by
  unfold World.cell? at h
  split at h
  · rename_i cs T fr hh; exact ⟨_, _, _, hh⟩
  · cases h

theorem At.keep {w w' : World} {M M' : Nat → Prop} {A : Option Addr} {vs : List Value} (h : At w M A vs) (hw : Keep M w w') (hM : Less w M' M) : At w' M' A vs := by
  intro hv
  obtain ⟨ad, rfl, hn, hc⟩ := h hv
  have hcl : ∃ cs T fr, w.heap[ad.block]? = some (Obj.cells cs T fr) := by
    cases vs with
    | nil => exact absurd rfl hv
    | cons v vs =>
      have := hc 0 v rfl
      simpa [Addr.add] using cells_of_cell? this
  obtain ⟨cs, T, fr, hh⟩ := hcl
  refine ⟨ad, rfl, fun hm => hn (hM _ _ _ _ hh hm), fun j v hj => ?_⟩
  rw [← hc j v hj]
  have hb : (ad.add j).block = ad.block := by unfold Addr.add; split <;> rfl
  exact World.cell?_of_block (by rw [hb]; exact hw _ _ _ _ hh hn)

mutual
theorem RP.keep {w w' : World} {M M' : Nat → Prop} (hw : Keep M w w') (hM : Less w M' M) : ∀ (p : PV) (x : Value), RP w M p x → RP w' M' p x
  | .s v, x, h => by simpa only [RP] using h
  | .agg cs, x, h => by
    simp only [RP] at h ⊢
    obtain ⟨xs, rfl, h1, h2⟩ := h
    exact ⟨xs, rfl, RPs.keep hw hM cs xs h1, h2⟩
  | .sl t n cs, x, h => by
    simp only [RP] at h ⊢
    obtain ⟨A, c, xs, rfl, ht, h1, h2, h3, h4, h5⟩ := h
    exact ⟨A, c, xs, rfl, ht, h1, h2, RPs.keep hw hM cs xs h3, h4, h5.keep hw hM⟩
  | .rop cs, x, h => by
    simp only [RP] at h ⊢
    obtain ⟨ad, xs, rfl, h3, h4, h5⟩ := h
    exact ⟨ad, xs, rfl, RPs.keep hw hM cs xs h3, h4, h5.keep hw hM⟩
  | .fn f cap, x, h => by
    simp only [RP] at h ⊢
    obtain ⟨xs, rfl, h1⟩ := h
    exact ⟨xs, rfl, RPs.keep hw hM cap xs h1⟩
  | .tup vs, x, h => by
    simp only [RP] at h ⊢
    obtain ⟨xs, rfl, h1⟩ := h
    exact ⟨xs, rfl, RPs.keep hw hM vs xs h1⟩
theorem RPs.keep {w w' : World} {M M' : Nat → Prop} (hw : Keep M w w') (hM : Less w M' M) : ∀ (ps : List PV) (xs : List Value), RPs w M ps xs → RPs w' M' ps xs
  | [], xs, h => by simpa only [RPs] using h
  | p :: ps, xs, h => by
    simp only [RPs] at h ⊢
    obtain ⟨x, xs', rfl, h1, h2⟩ := h
    exact ⟨x, xs', rfl, RP.keep hw hM p x h1, RPs.keep hw hM ps xs' h2⟩
end

theorem RP.mono {w w' : World} {M M' : Nat → Prop} (hw : Same M w w') (hM : ∀ b, b < w.heap.size → M' b → M b) (p : PV) (x : Value) (h : RP w M p x) : RP w' M' p x := RP.keep hw.keep (less_of hM) p x h
theorem RPs.mono {w w' : World} {M M' : Nat → Prop} (hw : Same M w w') (hM : ∀ b, b < w.heap.size → M' b → M b) (p : List PV) (x : List Value) (h : RPs w M p x) : RPs w' M' p x := RPs.keep hw.keep (less_of hM) p x h

theorem RPs.length {w : World} {M : Nat → Prop} : ∀ {ps : List PV} {xs : List Value}, RPs w M ps xs → xs.length = ps.length
  | [], xs, h => by simp only [RPs] at h; simp [h]
  | p :: ps, xs, h => by
    simp only [RPs] at h
    obtain ⟨x, xs', rfl, _, h2⟩ := h
    simp [h2.length]

theorem RPs.get {w : World} {M : Nat → Prop} : ∀ {ps : List PV} {xs : List Value} {i : Nat} {p : PV}, RPs w M ps xs → ps[i]? = some p → ∃ x, xs[i]? = some x ∧ RP w M p x
  | [], _, _, _, _, hi => by simp at hi
  | q :: ps, xs, i, p, h, hi => by
    simp only [RPs] at h
    obtain ⟨x, xs', rfl, h1, h2⟩ := h
    cases i with
    | zero => simp only [List.getElem?_cons_zero, Option.some.injEq] at hi; subst hi; exact ⟨x, rfl, h1⟩
    | succ i => simp only [List.getElem?_cons_succ] at hi ⊢; exact h2.get hi

theorem RPs.drop {w : World} {M : Nat → Prop} : ∀ (k : Nat) {ps : List PV} {xs : List Value}, RPs w M ps xs → RPs w M (ps.drop k) (xs.drop k)
  | 0, ps, xs, h => by simpa using h
  | k + 1, [], xs, h => by simp only [RPs] at h; simp [h, RPs]
  | k + 1, q :: ps, xs, h => by
    simp only [RPs] at h
    obtain ⟨x, xs', rfl, h1, h2⟩ := h
    simpa using h2.drop k

theorem RPs.take {w : World} {M : Nat → Prop} : ∀ (k : Nat) {ps : List PV} {xs : List Value}, RPs w M ps xs → RPs w M (ps.take k) (xs.take k)
  | 0, ps, xs, h => by simp [RPs]
  | k + 1, [], xs, h => by simp only [RPs] at h; simp [h, RPs]
  | k + 1, q :: ps, xs, h => by
    simp only [RPs] at h
    obtain ⟨x, xs', rfl, h1, h2⟩ := h
    simp only [List.take_succ_cons, RPs]
    exact ⟨x, _, rfl, h1, h2.take k⟩

theorem RPs.append {w : World} {M : Nat → Prop} : ∀ {ps qs : List PV} {xs ys : List Value}, RPs w M ps xs → RPs w M qs ys → RPs w M (ps ++ qs) (xs ++ ys)
  | [], qs, xs, ys, h, k => by simp only [RPs] at h; subst h; simpa using k
  | p :: ps, qs, xs, ys, h, k => by
    simp only [RPs] at h
    obtain ⟨x, xs', rfl, h1, h2⟩ := h
    simp only [List.cons_append, RPs]
    exact ⟨x, _, rfl, h1, h2.append k⟩

theorem RPs.set {w : World} {M : Nat → Prop} {p : PV} {x : Value} (hp : RP w M p x) : ∀ {ps : List PV} {xs : List Value} (i : Nat), RPs w M ps xs → RPs w M (ps.set i p) (xs.set i x)
  | [], xs, i, h => by simp only [RPs] at h; subst h; simp [RPs]
  | q :: ps, xs, i, h => by
    simp only [RPs] at h
    obtain ⟨y, xs', rfl, h1, h2⟩ := h
    cases i with
    | zero => simp only [List.set_cons_zero, RPs]; exact ⟨x, xs', rfl, hp, h2⟩
    | succ i => simp only [List.set_cons_succ, RPs]; exact ⟨y, _, rfl, h1, RPs.set hp i h2⟩

theorem One.drop {xs : List Value} (h : One xs) (k : Nat) : One (xs.drop k) := fun v hv => h v (List.mem_of_mem_drop hv)
theorem One.take {xs : List Value} (h : One xs) (k : Nat) : One (xs.take k) := fun v hv => h v (List.mem_of_mem_take hv)
theorem One.append {xs ys : List Value} (h : One xs) (k : One ys) : One (xs ++ ys) := fun v hv => by
  rcases List.mem_append.1 hv with h1 | h1
  · exact h v h1
  · exact k v h1

/-! ### What an activation holds -/
inductive AV where
  | p (x : PV)
  | agg (cs : List AV)
  | own (d : Nat)
  | sub (d off n : Nat)
  | ptr (d off : Nat)
  | fn (f : Nat) (cap : List AV)
  | tup (vs : List AV)
  | yield
  | any
  | lit (n : Nat) (cs : List PV)

def blk : Value → Option Nat
  | .slice (some a) _ (_ + 1) => some a.block
  | .pointer (some a) => some a.block
  | _ => none

mutual
def RA (Y : Value) (γ : Nat → Value) (w : World) (M : Nat → Prop) : AV → Value → Prop
  | .p x, v => RP w M x v
  | .agg cs, v => ∃ xs : List Value, v = .agg xs.toArray ∧ RAs Y γ w M cs xs ∧ One xs
  | .own d, v => v = γ d
  | .sub d off n, v => ∃ (A : Option Addr) (c : Nat), v = .slice A n c ∧ n ≤ c ∧ c ≤ maxLen ∧ (0 < n → ∃ b, blk (γ d) = some b ∧ A = some ⟨b, off, none⟩) ∧ (off = 0 → ∀ A0 n0 c0, γ d = .slice A0 n0 c0 → A = A0 ∧ c = c0)
  | .ptr d off, v => ∃ b, blk (γ d) = some b ∧ v = .pointer (some ⟨b, off, none⟩)
  | .fn f cap, v => ∃ xs : List Value, v = .func (.func f) #[] xs.toArray ∧ RAs Y γ w M cap xs
  | .tup vs, v => ∃ xs : List Value, v = .tuple xs.toArray ∧ RAs Y γ w M vs xs
  | .yield, v => v = Y ∧ v.oneCell' = true
  | .any, _ => True
  | .lit n cs, v => RP w M (.sl .nn n cs) v
def RAs (Y : Value) (γ : Nat → Value) (w : World) (M : Nat → Prop) : List AV → List Value → Prop
  | [], xs => xs = []
  | p :: ps, xs => ∃ x xs', xs = x :: xs' ∧ RA Y γ w M p x ∧ RAs Y γ w M ps xs'
end

section
variable {Y : Value} {γ : Nat → Value} {w w' : World} {M M' : Nat → Prop}
mutual
theorem RA.keep (hw : Keep M w w') (hM : Less w M' M) : ∀ (p : AV) (x : Value), RA Y γ w M p x → RA Y γ w' M' p x
  | .p q, x, h => by simp only [RA] at h ⊢; exact RP.keep hw hM q x h
  | .agg cs, x, h => by
    simp only [RA] at h ⊢
    obtain ⟨xs, rfl, h1, h2⟩ := h
    exact ⟨xs, rfl, RAs.keep hw hM cs xs h1, h2⟩
  | .own d, x, h => by simpa only [RA] using h
  | .sub d off n, x, h => by simpa only [RA] using h
  | .ptr d off, x, h => by simpa only [RA] using h
  | .fn f cap, x, h => by
    simp only [RA] at h ⊢
    obtain ⟨xs, rfl, h1⟩ := h
    exact ⟨xs, rfl, RAs.keep hw hM cap xs h1⟩
  | .tup vs, x, h => by
    simp only [RA] at h ⊢
    obtain ⟨xs, rfl, h1⟩ := h
    exact ⟨xs, rfl, RAs.keep hw hM vs xs h1⟩
  | .yield, x, h => by simpa only [RA] using h
  | .any, x, h => by simp only [RA]
  | .lit n cs, x, h => by
    rw [RA] at h ⊢
    exact RP.keep hw hM _ x h
theorem RAs.keep (hw : Keep M w w') (hM : Less w M' M) : ∀ (ps : List AV) (xs : List Value), RAs Y γ w M ps xs → RAs Y γ w' M' ps xs
  | [], xs, h => by simpa only [RAs] using h
  | p :: ps, xs, h => by
    simp only [RAs] at h ⊢
    obtain ⟨x, xs', rfl, h1, h2⟩ := h
    exact ⟨x, xs', rfl, RA.keep hw hM p x h1, RAs.keep hw hM ps xs' h2⟩
end

theorem RA.mono (hw : Same M w w') (hM : ∀ b, b < w.heap.size → M' b → M b) (p : AV) (x : Value) (h : RA Y γ w M p x) : RA Y γ w' M' p x := RA.keep hw.keep (less_of hM) p x h
theorem RAs.mono (hw : Same M w w') (hM : ∀ b, b < w.heap.size → M' b → M b) (p : List AV) (x : List Value) (h : RAs Y γ w M p x) : RAs Y γ w' M' p x := RAs.keep hw.keep (less_of hM) p x h

theorem RAs.length : ∀ {ps : List AV} {xs : List Value}, RAs Y γ w M ps xs → xs.length = ps.length
  | [], xs, h => by simp only [RAs] at h; simp [h]
  | p :: ps, xs, h => by
    simp only [RAs] at h
    obtain ⟨x, xs', rfl, _, h2⟩ := h
    simp [h2.length]
theorem RAs.get : ∀ {ps : List AV} {xs : List Value} {i : Nat} {p : AV}, RAs Y γ w M ps xs → ps[i]? = some p → ∃ x, xs[i]? = some x ∧ RA Y γ w M p x
  | [], _, _, _, _, hi => by simp at hi
  | q :: ps, xs, i, p, h, hi => by
    simp only [RAs] at h
    obtain ⟨x, xs', rfl, h1, h2⟩ := h
    cases i with
    | zero => simp only [List.getElem?_cons_zero, Option.some.injEq] at hi; subst hi; exact ⟨x, rfl, h1⟩
    | succ i => simp only [List.getElem?_cons_succ] at hi ⊢; exact h2.get hi
theorem RAs.drop : ∀ (k : Nat) {ps : List AV} {xs : List Value}, RAs Y γ w M ps xs → RAs Y γ w M (ps.drop k) (xs.drop k)
  | 0, ps, xs, h => by simpa using h
  | k + 1, [], xs, h => by simp only [RAs] at h; simp [h, RAs]
  | k + 1, q :: ps, xs, h => by
    simp only [RAs] at h
    obtain ⟨x, xs', rfl, h1, h2⟩ := h
    simpa using h2.drop k
theorem RAs.take : ∀ (k : Nat) {ps : List AV} {xs : List Value}, RAs Y γ w M ps xs → RAs Y γ w M (ps.take k) (xs.take k)
  | 0, ps, xs, h => by simp [RAs]
  | k + 1, [], xs, h => by simp only [RAs] at h; simp [h, RAs]
  | k + 1, q :: ps, xs, h => by
    simp only [RAs] at h
    obtain ⟨x, xs', rfl, h1, h2⟩ := h
    simp only [List.take_succ_cons, RAs]
    exact ⟨x, _, rfl, h1, h2.take k⟩
theorem RAs.append : ∀ {ps qs : List AV} {xs ys : List Value}, RAs Y γ w M ps xs → RAs Y γ w M qs ys → RAs Y γ w M (ps ++ qs) (xs ++ ys)
  | [], qs, xs, ys, h, k => by simp only [RAs] at h; subst h; simpa using k
  | p :: ps, qs, xs, ys, h, k => by
    simp only [RAs] at h
    obtain ⟨x, xs', rfl, h1, h2⟩ := h
    simp only [List.cons_append, RAs]
    exact ⟨x, _, rfl, h1, h2.append k⟩
theorem RAs.of_RPs : ∀ {ps : List PV} {xs : List Value}, RPs w M ps xs → RAs Y γ w M (ps.map .p) xs
  | [], xs, h => by simpa only [RPs, List.map_nil, RAs] using h
  | p :: ps, xs, h => by
    simp only [RPs] at h
    obtain ⟨x, xs', rfl, h1, h2⟩ := h
    simp only [List.map_cons, RAs]
    exact ⟨x, xs', rfl, by simpa only [RA] using h1, RAs.of_RPs h2⟩
end
end Go.AE
