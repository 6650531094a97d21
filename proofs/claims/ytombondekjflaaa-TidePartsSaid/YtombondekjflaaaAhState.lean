/- YtombondekjflaaaAhState: a part of the proof; see the last text for what is proved. -/
import Derived.Test.YtombondekjflaaaAhGl
set_option linter.unusedVariables false
set_option linter.unusedSimpArgs false
namespace Go.AE
open Go.RowKit

def get {α : Type} (k : Nat) : List (Nat × α) → Option α
  | [] => none
  | (j, x) :: l => if j = k then some x else get k l
def del {α : Type} (k : Nat) : List (Nat × α) → List (Nat × α)
  | [] => []
  | (j, x) :: l => if j = k then del k l else (j, x) :: del k l
def put {α : Type} (k : Nat) (v : α) (l : List (Nat × α)) : List (Nat × α) := (k, v) :: del k l
def mapv {α β : Type} (f : α → β) : List (Nat × α) → List (Nat × β)
  | [] => []
  | (j, x) :: l => (j, f x) :: mapv f l

theorem get_del_same {α : Type} (k : Nat) : ∀ l : List (Nat × α), get k (del k l) = none
  | [] => rfl
  | (j, x) :: l => by
    unfold del
    split
    · exact get_del_same k l
    · rename_i h; simp [get, h, get_del_same k l]
theorem get_del_ne {α : Type} {k j : Nat} (h : j ≠ k) : ∀ l : List (Nat × α), get k (del j l) = get k l
  | [] => rfl
  | (i, x) :: l => by
    unfold del
    split
    · rename_i hi; subst hi; simp [get, h, get_del_ne h l]
    · simp [get, get_del_ne h l]
theorem get_put_same {α : Type} (k : Nat) (v : α) (l : List (Nat × α)) : get k (put k v l) = some v := by simp [put, get]
theorem get_put_ne {α : Type} {k j : Nat} (h : j ≠ k) (v : α) (l : List (Nat × α)) : get k (put j v l) = get k l := by
  simp [put, get, h, get_del_ne h]
theorem get_mapv {α β : Type} (f : α → β) (k : Nat) : ∀ l : List (Nat × α), get k (mapv f l) = (get k l).map f
  | [] => rfl
  | (j, x) :: l => by
    simp only [mapv, get]
    split
    · rfl
    · exact get_mapv f k l

mutual
def AV.kill (d : Nat) : AV → AV
  | .p x => .p x
  | .agg cs => .agg (AV.kills d cs)
  | .own e => if e = d then .any else .own e
  | .sub e o n => if e = d then .any else .sub e o n
  | .ptr e o => if e = d then .any else .ptr e o
  | .fn f cap => .fn f (AV.kills d cap)
  | .tup vs => .tup (AV.kills d vs)
  | .yield => .yield
  | .any => .any
  | .lit n cs => .lit n cs
def AV.kills (d : Nat) : List AV → List AV
  | [] => []
  | x :: l => AV.kill d x :: AV.kills d l
end

section
variable {Y : Value} {γ γ' : Nat → Value} {w : World} {M : Nat → Prop} {d : Nat}
mutual
theorem RA.kill (hγ : ∀ e, e ≠ d → γ' e = γ e) : ∀ (x : AV) (v : Value), RA Y γ w M x v → RA Y γ' w M (x.kill d) v
  | .p q, x, h => by simp only [AV.kill, RA] at h ⊢; exact h
  | .agg cs, x, h => by
    simp only [AV.kill, RA] at h ⊢
    obtain ⟨xs, rfl, h1, h2⟩ := h
    exact ⟨xs, rfl, RAs.kill hγ cs xs h1, h2⟩
  | .own e, x, h => by
    simp only [AV.kill]
    split
    · simp only [RA]
    · rename_i he; simp only [RA] at h ⊢; rw [hγ e he]; exact h
  | .sub e off n, x, h => by
    simp only [AV.kill]
    split
    · simp only [RA]
    · rename_i he; simp only [RA] at h ⊢; rw [hγ e he]; exact h
  | .ptr e off, x, h => by
    simp only [AV.kill]
    split
    · simp only [RA]
    · rename_i he; simp only [RA] at h ⊢; rw [hγ e he]; exact h
  | .fn f cap, x, h => by
    simp only [AV.kill, RA] at h ⊢
    obtain ⟨xs, rfl, h1⟩ := h
    exact ⟨xs, rfl, RAs.kill hγ cap xs h1⟩
  | .tup vs, x, h => by
    simp only [AV.kill, RA] at h ⊢
    obtain ⟨xs, rfl, h1⟩ := h
    exact ⟨xs, rfl, RAs.kill hγ vs xs h1⟩
  | .yield, x, h => by simpa only [AV.kill, RA] using h
  | .any, x, h => by simp only [AV.kill, RA]
  | .lit n cs, x, h => by
    rw [AV.kill, RA]
    rw [RA] at h
    exact h
theorem RAs.kill (hγ : ∀ e, e ≠ d → γ' e = γ e) : ∀ (ps : List AV) (xs : List Value), RAs Y γ w M ps xs → RAs Y γ' w M (AV.kills d ps) xs
  | [], xs, h => by simpa only [AV.kills, RAs] using h
  | p :: ps, xs, h => by
    simp only [AV.kills, RAs] at h ⊢
    obtain ⟨x, xs', rfl, h1, h2⟩ := h
    exact ⟨x, xs', rfl, RA.kill hγ p x h1, RAs.kill hγ ps xs' h2⟩
end
end

def AV.isLit : AV → Bool
  | .lit _ _ => true
  | _ => false
def LitsOk (U : Nat → Prop) (regs : List (Nat × AV)) (tmps : Array Value) : Prop := ∀ k n cs, get k regs = some (.lit n cs) → ∀ b, blk (tmps.getD k undef) = some b → U b

inductive Obj where
  | box (T : Nat) (cs : List AV)
  | row (T size n : Nat) (cs : List PV)

def Obj.kill (d : Nat) : Obj → Obj
  | .box T cs => .box T (AV.kills d cs)
  | .row T size n cs => .row T size n cs

def SimObj (Y : Value) (γ : Nat → Value) (w : World) (M : Nat → Prop) (d : Nat) : Obj → Prop
  | .box T cs => ∃ (b : Nat) (xs : List Value), γ d = .pointer (some ⟨b, 0, none⟩) ∧ w.heap[b]? = some (.cells xs.toArray T (0, 0)) ∧ RAs Y γ w M cs xs ∧ One xs
  | .row T size n cs => ∃ (A : Option Addr) (c : Nat) (xs : List Value), γ d = .slice A n c ∧ n ≤ c ∧ c ≤ maxLen ∧ cs.length = n * size ∧ RPs w M cs xs ∧ One xs ∧
      (0 < c → ∃ (g : Nat) (cur : Array Value), A = some ⟨g, 0, none⟩ ∧ w.heap[g]? = some (.cells cur T (0, 0)) ∧ cur.size = c * size ∧ cur.toList.take (n * size) = xs)

structure Log where
  items : List (List PV)
  stopped : Bool

structure St where
  regs : List (Nat × AV)
  objs : List (Nat × Obj)
  log : Log
  outer : List (List (Nat × AV))

def live (γ : Nat → Value) (objs : List (Nat × Obj)) (b : Nat) : Prop := ∃ d o, get d objs = some o ∧ blk (γ d) = some b

variable {P : Program}

def GlOk (w : World) (M : Nat → Prop) : Prop := ∀ g T cs, (g, T, cs) ∈ gl → (∃ T', w.heap[g]? = some (.cells cs.toArray T' (0, 0))) ∧ ¬ M g
theorem GlOk.mono {w : World} {M M' : Nat → Prop} (h : GlOk w M) (hM : ∀ b, b < w.heap.size → M' b → M b) : GlOk w M' := fun g T cs hg => by
  obtain ⟨⟨T', h1⟩, h2⟩ := h g T cs hg
  exact ⟨⟨T', h1⟩, fun hm => h2 (hM g (Array.getElem?_eq_some_iff.1 h1).1 hm)⟩
theorem GlOk.step {w w' : World} {M M' : Nat → Prop} (h : GlOk w M) (hs : Same M w w') (hM : ∀ b, M' b → M b ∨ w.heap.size ≤ b) : GlOk w' M' := fun g T cs hg => by
  obtain ⟨⟨T', h1⟩, h2⟩ := h g T cs hg
  have hlt := (Array.getElem?_eq_some_iff.1 h1).1
  refine ⟨⟨T', by rw [hs.blk g hlt h2]; exact h1⟩, fun hm => ?_⟩
  rcases hM g hm with h3 | h3
  · exact h2 h3
  · omega

structure Env (P : Program) where
  ro : Option Nat
  Y : Value
  n : Nat
  pin : Nat → Value
  outs : List (Array Value)
  E : Log → (Nat → Prop) → (Nat → Prop) → World → Prop
  stable : ∀ {log U V w w' U'}, E log U V w → Same U w w' → (∀ b, U' b → U b ∨ w.heap.size ≤ b) → E log U' V w'
  round : ∀ {log U V w l}, E log U V w → ro = some l → ∃ r, w.heap[l]? = some (.loop r)
  glob : ∀ {log U V w}, E log U V w → GlOk w (fun b => U b ∨ V b)

def RegsOk (Y : Value) (γ : Nat → Value) (w : World) (M : Nat → Prop) (regs : List (Nat × AV)) (tmps : Array Value) : Prop :=
  ∀ k v, get k regs = some v → RA Y γ w M v (tmps.getD k undef)

def RegsG (Y : Value) (γ : Nat → Value) (w : World) (M : Nat → Prop) (regs : List (Nat × AV)) (tmps : Array Value) : Prop := RegsOk Y γ w M regs tmps ∧ GlOk w M
def NoLits (regs : List (Nat × AV)) : Prop := ∀ k n cs, get k regs ≠ some (.lit n cs)
def OutsOk (Y : Value) (γ : Nat → Value) (w : World) (M : Nat → Prop) : List (List (Nat × AV)) → List (Array Value) → Prop
  | [], outs => outs = []
  | r :: rs, outs => ∃ t ts, outs = t :: ts ∧ RegsOk Y γ w M r t ∧ NoLits r ∧ OutsOk Y γ w M rs ts

def mark (D : Nat) : Deferred := { target := .collected D, args := #[] }

def Marks (U : Nat → Prop) (w : World) (ds : List Deferred) : Prop :=
  ∃ Ds : List Nat, ds = Ds.map mark ∧ Ds.Nodup ∧ ∀ D ∈ Ds, U D ∧ w.heap[D]? = some (.deferred (some []))

def Mut (V : Nat → Prop) (γ : Nat → Value) (objs : List (Nat × Obj)) (b : Nat) : Prop := V b ∨ live γ objs b

structure Sim (X : Env P) (γ : Nat → Value) (U V : Nat → Prop) (st : St) (a : Act) (w : World) : Prop where
  env : X.E st.log U V w
  size : a.tmps.size = X.n
  reg : RegsOk X.Y γ w (Mut V γ st.objs) st.regs a.tmps
  outs : OutsOk X.Y γ w (Mut V γ st.objs) st.outer X.outs
  obj : ∀ d o, get d st.objs = some o → SimObj X.Y γ w (Mut V γ st.objs) d o
  sep : ∀ d d' o o' b, get d st.objs = some o → get d' st.objs = some o' → blk (γ d) = some b → blk (γ d') = some b → d = d'
  own : ∀ b, live γ st.objs b → U b
  zone : ∀ b, V b → ¬ U b
  ltU : ∀ b, U b → b < w.heap.size
  ltV : ∀ b, V b → b < w.heap.size
  defs : Marks U w a.defers
  lits : LitsOk U st.regs a.tmps
  kept : ∀ d, X.n ≤ d → γ d = X.pin d

theorem Sim.globM {X : Env P} {γ : Nat → Value} {U V : Nat → Prop} {st : St} {a : Act} {w : World} (S : Sim X γ U V st a w) : GlOk w (Mut V γ st.objs) :=
  (X.glob S.env).mono fun b _ h => h.elim (fun h => .inr h) (fun h => .inl (S.own b h))
theorem Sim.regG {X : Env P} {γ : Nat → Value} {U V : Nat → Prop} {st : St} {a : Act} {w : World} (S : Sim X γ U V st a w) : RegsG X.Y γ w (Mut V γ st.objs) st.regs a.tmps := ⟨S.reg, S.globM⟩
theorem Sim.globV {X : Env P} {γ : Nat → Value} {U V : Nat → Prop} {st : St} {a : Act} {w : World} (S : Sim X γ U V st a w) : GlOk w V := (X.glob S.env).mono fun b _ h => .inr h
def Inv (X : Env P) (st : St) (a : Act) (w : World) : Prop := ∃ γ U V, Sim X γ U V st a w

def fence (X : Env P) : Fence := { Fence.wide with round := X.ro }

def Good (X : Env P) (Q : Exit → St → Prop) : Exit → Act → World → Prop
  | .panic _, _, _ => False
  | .outgrown, _, _ => False
  | e, a, w => ∃ st, Q e st ∧ Inv X st a w

def AW (X : Env P) (c : Code) (st : St) (Q : Exit → St → Prop) : Prop := ∀ a w, Inv X st a w → c.wpIn (fence X) 0 P (Good X Q) a w

section rules
variable {X : Env P} {st : St} {Q : Exit → St → Prop}

theorem Good.mono {Q' : Exit → St → Prop} (hq : ∀ e st, Q e st → Q' e st) : ∀ e a w, Good X Q e a w → Good X Q' e a w := by
  intro e a w h
  cases e <;> simp only [Good] at h ⊢ <;> first | exact h.elim | (obtain ⟨st, h1, h2⟩ := h; exact ⟨st, hq _ _ h1, h2⟩)

theorem AW.mono {c : Code} {Q' : Exit → St → Prop} (h : AW X c st Q) (hq : ∀ e st, Q e st → Q' e st) : AW X c st Q' :=
  fun a w hi => wpIn_mono (h a w hi) (Good.mono hq)
theorem AW.weaken {c : Code} {st' : St} (hw : ∀ a w, Inv X st a w → Inv X st' a w) (h : AW X c st' Q) : AW X c st Q :=
  fun a w hi => h a w (hw a w hi)
theorem AW.skip (h : Q .normal st) : AW X .skip st Q := fun a w hi => wpIn_skip ⟨st, h, hi⟩
theorem AW.label {l : Nat} (h : Q .normal st) : AW X (.label l) st Q := fun a w hi => wpIn_label ⟨st, h, hi⟩
theorem AW.exit {id : Nat} (h : Q (.exit id) st) : AW X (.exit id) st Q := fun a w hi => wpIn_exit ⟨st, h, hi⟩
theorem AW.goto {l : Nat} (h : Q (.goto l) st) : AW X (.goto l) st Q := fun a w hi => wpIn_goto ⟨st, h, hi⟩
theorem AW.ret (h : Q .ret st) : AW X .ret st Q := fun a w hi => wpIn_ret ⟨st, h, hi⟩

def thenK (K : St → Prop) (Q : Exit → St → Prop) : Exit → St → Prop
  | .normal, st => K st
  | e, st => Q e st
def inBlockK (id : Nat) (Q : Exit → St → Prop) : Exit → St → Prop
  | .exit id', st => if id' = id then Q .normal st else Q (.exit id') st
  | e, st => Q e st

theorem AW.seq {x y : Code} (h : AW X x st (thenK (fun st' => AW X y st' Q) Q)) : AW X (.seq x y) st Q := by
  intro a w hi
  refine wpIn_seq (wpIn_mono (h a w hi) ?_)
  intro e a' w' hg
  cases e <;> simp only [Good, Exit.then] at hg ⊢ <;> first | exact hg.elim | skip
  all_goals obtain ⟨st', hq, hi'⟩ := hg
  all_goals simp only [thenK] at hq
  · exact hq a' w' hi'
  all_goals exact ⟨st', hq, hi'⟩

theorem AW.block {id : Nat} {c : Code} (h : AW X c st (inBlockK id Q)) : AW X (.block id c) st Q := by
  intro a w hi
  refine wpIn_block (wpIn_mono (h a w hi) ?_)
  intro e a' w' hg
  cases e <;> simp only [Good, Exit.inBlock] at hg ⊢ <;> first | exact hg.elim | skip
  all_goals obtain ⟨st', hq, hi'⟩ := hg
  all_goals simp only [inBlockK] at hq
  case exit id' =>
    split
    · rename_i he; rw [if_pos he] at hq; exact ⟨st', hq, hi'⟩
    · rename_i he; rw [if_neg he] at hq; exact ⟨st', hq, hi'⟩
  all_goals exact ⟨st', hq, hi'⟩

theorem least_exists {p : Nat → Prop} (h : ∃ n, p n) : ∃ n, p n ∧ ∀ m, p m → n ≤ m := by
  obtain ⟨n, hn⟩ := h
  induction n using Nat.strongRecOn with
  | _ n ih =>
    by_cases hm : ∃ m, m < n ∧ p m
    · obtain ⟨m, hlt, hp⟩ := hm
      exact ih m hlt hp
    · refine ⟨n, hn, fun m hp => ?_⟩
      rcases Nat.lt_or_ge m n with h | h
      · exact absurd ⟨m, h, hp⟩ hm
      · exact h
open Classical in
noncomputable def least (p : Nat → Prop) : Nat := if h : ∃ n, p n then Classical.choose (least_exists h) else 0
theorem least_spec {p : Nat → Prop} (h : ∃ n, p n) : p (least p) := by
  classical
  unfold least; rw [dif_pos h]; exact (Classical.choose_spec (least_exists h)).1
theorem least_le {p : Nat → Prop} {n : Nat} (h : p n) : least p ≤ n := by
  classical
  unfold least; rw [dif_pos ⟨n, h⟩]; exact (Classical.choose_spec (least_exists ⟨n, h⟩)).2 n h

theorem AW.loop {ι : Type} {c : Code} (I : ι → St) (μ : ι → Nat) (i₀ : ι) (h₀ : ∀ a w, Inv X st a w → Inv X (I i₀) a w)
    (round : ∀ i, AW X c (I i) (thenK (fun st' => ∃ j, μ j < μ i ∧ ∀ a w, Inv X st' a w → Inv X (I j) a w) Q)) : AW X (.loop c) st Q := by
  intro a w hi
  refine wpIn_loop (fun a w => ∃ j, Inv X (I j) a w) (fun a w => least fun m => ∃ j, m = μ j ∧ Inv X (I j) a w) ⟨i₀, h₀ a w hi⟩ ?_
  intro a w hI
  obtain ⟨j, hj, hij⟩ := least_spec (p := fun m => ∃ j, m = μ j ∧ Inv X (I j) a w) (by obtain ⟨j, hj⟩ := hI; exact ⟨_, j, rfl, hj⟩)
  refine wpIn_mono (round j a w hij) ?_
  intro e a' w' hg
  cases e <;> simp only [Good, Exit.then] at hg ⊢ <;> first | exact hg.elim | skip
  all_goals obtain ⟨st', hq, hi'⟩ := hg
  all_goals simp only [thenK] at hq
  · obtain ⟨k, hk, hw⟩ := hq
    refine ⟨⟨k, hw _ _ hi'⟩, ?_⟩
    rw [hj]
    exact Nat.lt_of_le_of_lt (least_le ⟨k, rfl, hw _ _ hi'⟩) hk
  all_goals exact ⟨st', hq, hi'⟩
end rules
end Go.AE
