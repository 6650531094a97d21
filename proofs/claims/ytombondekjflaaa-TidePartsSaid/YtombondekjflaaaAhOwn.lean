/- YtombondekjflaaaAhOwn: a part of the proof; see the last text for what is proved. -/
import Derived.Test.YtombondekjflaaaAhForms
set_option linter.unusedVariables false
set_option linter.unusedSimpArgs false
namespace Go.AE
open Go.RowKit

variable {P : Program} {X : Env P}

/-! ### Small laws -/
mutual
def AV.plain : AV → Bool
  | .p _ | .own _ | .sub _ _ _ | .ptr _ _ | .any => true
  | .agg cs => AV.plains cs
  | .fn _ cap => AV.plains cap
  | .tup vs => AV.plains vs
  | .yield | .lit _ _ => false
def AV.plains : List AV → Bool
  | [] => true
  | x :: l => AV.plain x && AV.plains l
end
section
variable {Y Y' : Value} {γ γ' : Nat → Value} {w w' : World} {M M' : Nat → Prop} {ds : List Nat}
mutual
theorem RA.plain : ∀ (v : AV) (x : Value), v.plain = true → RA Y γ w M v x → RA Y' γ w M v x
  | .p q, x, _, h => by simp only [RA] at h ⊢; exact h
  | .own e, x, _, h => by simp only [RA] at h ⊢; exact h
  | .sub e o n, x, _, h => by simp only [RA] at h ⊢; exact h
  | .ptr e o, x, _, h => by simp only [RA] at h ⊢; exact h
  | .any, x, _, h => by simp only [RA]
  | .agg cs, x, hp, h => by
    simp only [AV.plain] at hp
    simp only [RA] at h ⊢
    obtain ⟨xs, rfl, h1, h2⟩ := h
    exact ⟨xs, rfl, RAs.plain cs xs hp h1, h2⟩
  | .fn f cap, x, hp, h => by
    simp only [AV.plain] at hp
    simp only [RA] at h ⊢
    obtain ⟨xs, rfl, h1⟩ := h
    exact ⟨xs, rfl, RAs.plain cap xs hp h1⟩
  | .tup vs, x, hp, h => by
    simp only [AV.plain] at hp
    simp only [RA] at h ⊢
    obtain ⟨xs, rfl, h1⟩ := h
    exact ⟨xs, rfl, RAs.plain vs xs hp h1⟩
  | .yield, x, hp, h => by simp [AV.plain] at hp
  | .lit n cs, x, hp, h => by simp [AV.plain] at hp
theorem RAs.plain : ∀ (vs : List AV) (xs : List Value), AV.plains vs = true → RAs Y γ w M vs xs → RAs Y' γ w M vs xs
  | [], xs, _, h => by simpa only [RAs] using h
  | v :: vs, xs, hp, h => by
    simp only [AV.plains, Bool.and_eq_true] at hp
    simp only [RAs] at h ⊢
    obtain ⟨x, xs', rfl, h1, h2⟩ := h
    exact ⟨x, xs', rfl, RA.plain v x hp.1 h1, RAs.plain vs xs' hp.2 h2⟩
end
mutual
theorem RA.free (hγ : ∀ e, ds.contains e = false → γ' e = γ e) : ∀ (v : AV) (x : Value), v.free ds = true → RA Y γ w M v x → RA Y γ' w M v x
  | .p q, x, _, h => by simp only [RA] at h ⊢; exact h
  | .own e, x, hf, h => by
    simp only [AV.free, Bool.not_eq_true'] at hf
    simp only [RA] at h ⊢; rw [hγ e hf]; exact h
  | .sub e o n, x, hf, h => by
    simp only [AV.free, Bool.not_eq_true'] at hf
    simp only [RA] at h ⊢; rw [hγ e hf]; exact h
  | .ptr e o, x, hf, h => by
    simp only [AV.free, Bool.not_eq_true'] at hf
    simp only [RA] at h ⊢; rw [hγ e hf]; exact h
  | .any, x, _, h => by simp only [RA]
  | .agg cs, x, hp, h => by
    simp only [AV.free] at hp
    simp only [RA] at h ⊢
    obtain ⟨xs, rfl, h1, h2⟩ := h
    exact ⟨xs, rfl, RAs.free hγ cs xs hp h1, h2⟩
  | .fn f cap, x, hp, h => by
    simp only [AV.free] at hp
    simp only [RA] at h ⊢
    obtain ⟨xs, rfl, h1⟩ := h
    exact ⟨xs, rfl, RAs.free hγ cap xs hp h1⟩
  | .tup vs, x, hp, h => by
    simp only [AV.free] at hp
    simp only [RA] at h ⊢
    obtain ⟨xs, rfl, h1⟩ := h
    exact ⟨xs, rfl, RAs.free hγ vs xs hp h1⟩
  | .yield, x, _, h => by simpa only [RA] using h
  | .lit n cs, x, _, h => by rw [RA] at h ⊢; exact h
theorem RAs.free (hγ : ∀ e, ds.contains e = false → γ' e = γ e) : ∀ (vs : List AV) (xs : List Value), AV.frees ds vs = true → RAs Y γ w M vs xs → RAs Y γ' w M vs xs
  | [], xs, _, h => by simpa only [RAs] using h
  | v :: vs, xs, hp, h => by
    simp only [AV.frees, Bool.and_eq_true] at hp
    simp only [RAs] at h ⊢
    obtain ⟨x, xs', rfl, h1, h2⟩ := h
    exact ⟨x, xs', rfl, RA.free hγ v x hp.1 h1, RAs.free hγ vs xs' hp.2 h2⟩
end
mutual
def AV.flat : AV → Bool
  | .p x => x.flat
  | .own _ | .any => true
  | .agg cs => AV.flatL cs
  | .fn _ cap => AV.flatL cap
  | .tup vs => AV.flatL vs
  | .sub _ _ _ | .ptr _ _ | .yield => true
  | .lit _ _ => false
def AV.flatL : List AV → Bool
  | [] => true
  | x :: l => AV.flat x && AV.flatL l
end
mutual
theorem RA.flat : ∀ (v : AV) (x : Value), v.flat = true → RA Y γ w M v x → RA Y γ w' M' v x
  | .p q, x, hf, h => by simp only [AV.flat] at hf; simp only [RA] at h ⊢; exact flat_anywhere q x hf h
  | .own e, x, _, h => by simp only [RA] at h ⊢; exact h
  | .sub e o n, x, _, h => by simp only [RA] at h ⊢; exact h
  | .ptr e o, x, _, h => by simp only [RA] at h ⊢; exact h
  | .any, x, _, h => by simp only [RA]
  | .agg cs, x, hp, h => by
    simp only [AV.flat] at hp
    simp only [RA] at h ⊢
    obtain ⟨xs, rfl, h1, h2⟩ := h
    exact ⟨xs, rfl, RAs.flat cs xs hp h1, h2⟩
  | .fn f cap, x, hp, h => by
    simp only [AV.flat] at hp
    simp only [RA] at h ⊢
    obtain ⟨xs, rfl, h1⟩ := h
    exact ⟨xs, rfl, RAs.flat cap xs hp h1⟩
  | .tup vs, x, hp, h => by
    simp only [AV.flat] at hp
    simp only [RA] at h ⊢
    obtain ⟨xs, rfl, h1⟩ := h
    exact ⟨xs, rfl, RAs.flat vs xs hp h1⟩
  | .yield, x, _, h => by simpa only [RA] using h
  | .lit n cs, x, hp, h => by simp [AV.flat] at hp
theorem RAs.flat : ∀ (vs : List AV) (xs : List Value), AV.flatL vs = true → RAs Y γ w M vs xs → RAs Y γ w' M' vs xs
  | [], xs, _, h => by simpa only [RAs] using h
  | v :: vs, xs, hp, h => by
    simp only [AV.flatL, Bool.and_eq_true] at hp
    simp only [RAs] at h ⊢
    obtain ⟨x, xs', rfl, h1, h2⟩ := h
    exact ⟨x, xs', rfl, RA.flat v x hp.1 h1, RAs.flat vs xs' hp.2 h2⟩
end
end

/-! ### Objects that are handed over -/
structure Objs (γ : Nat → Value) (w : World) (M : Nat → Prop) (o : List (Nat × Obj)) : Prop where
  obj : ∀ d ob, get d o = some ob → SimObj undef γ w (Mut M γ o) d ob
  sep : ∀ d d' ob ob' b, get d o = some ob → get d' o = some ob' → blk (γ d) = some b → blk (γ d') = some b → d = d'
  zone : ∀ b, live γ o b → ¬ M b
  lt : ∀ b, live γ o b → b < w.heap.size

def has {α : Type} (d : Nat) (l : List (Nat × α)) : Bool := (get d l).isSome
theorem has_some {α : Type} {d : Nat} {l : List (Nat × α)} : has d l = true ↔ ∃ v, get d l = some v := by unfold has; exact Option.isSome_iff_exists
theorem has_none {α : Type} {d : Nat} {l : List (Nat × α)} : has d l = false ↔ get d l = none := by unfold has; cases get d l <;> simp

def AnsO (P : Program) (f : FuncId) (o0 : List (Nat × Obj)) (args : List AV) (o1 : List (Nat × Obj)) (r : AV) : Prop :=
  Enters P f ∧ ∀ (w : World) (M : Nat → Prop) (γ : Nat → Value) (xs : List Value), (∀ b, M b → b < w.heap.size) → GlOk w (Mut M γ o0) → Objs γ w M o0 → RAs undef γ w (Mut M γ o0) args xs →
    Calls P f xs.toArray w fun e w' => ∃ v γ', e = .returned v ∧ Same (live γ o0) w w' ∧ Objs γ' w' M o1 ∧ RA undef γ' w' (Mut M γ' o1) r v ∧
      (∀ d, has d o0 = true → has d o1 = true → γ' d = γ d) ∧ (∀ b, live γ' o1 b → live γ o0 b ∨ w.heap.size ≤ b)

/-! ### A contract out of a body -/
def idxA : Nat → List AV → List (Nat × AV)
  | _, [] => []
  | k, p :: ps => (k, p) :: idxA (k + 1) ps
def initO (o0 : List (Nat × Obj)) (args : List AV) : St := { regs := idxA 0 args, objs := o0, log := ⟨[], false⟩, outer := [] }

theorem idxA_get {w : World} {M : Nat → Prop} {Y : Value} {γ : Nat → Value} : ∀ (ps : List AV) (xs : List Value) (k n : Nat) (v : AV), RAs Y γ w M ps xs → get n (idxA k ps) = some v → k ≤ n ∧ v ∈ ps ∧ ∃ x, xs[n - k]? = some x ∧ RA Y γ w M v x
  | [], xs, k, n, v, h, hg => by simp [idxA, get] at hg
  | p :: ps, xs, k, n, v, h, hg => by
    simp only [RAs] at h
    obtain ⟨x, xs', rfl, h1, h2⟩ := h
    simp only [idxA, get] at hg
    split at hg
    · rename_i he
      subst he
      obtain rfl := Option.some.inj hg
      exact ⟨Nat.le_refl _, List.mem_cons_self, x, by simp, h1⟩
    · rename_i he
      obtain ⟨hle, hm, y, hy, hr⟩ := idxA_get ps xs' (k + 1) n v h2 hg
      refine ⟨by omega, List.mem_cons_of_mem _ hm, y, ?_, hr⟩
      obtain ⟨m, rfl⟩ : ∃ m, n = k + 1 + m := ⟨n - (k + 1), by omega⟩
      rw [show k + 1 + m - k = m + 1 by omega, List.getElem?_cons_succ]
      rwa [show k + 1 + m - (k + 1) = m by omega] at hy

theorem plains_mem : ∀ {vs : List AV} {v : AV}, AV.plains vs = true → v ∈ vs → v.plain = true
  | [], v, _, h => by cases h
  | u :: vs, v, hp, h => by
    simp only [AV.plains, Bool.and_eq_true] at hp
    rcases List.mem_cons.1 h with rfl | h
    · exact hp.1
    · exact plains_mem hp.2 h

def RetO (P : Program) (fn : Func) (o1 : List (Nat × Obj)) (r : AV) : Exit → St → Prop
  | .normal, st | .ret, st => resultA P fn st = some r ∧ Sub o1 st.objs
  | _, _ => False

def ownEnv (P : Program) (n : Nat) (w0 : World) (M : Nat → Prop) (γ0 : Nat → Value) (o0 : List (Nat × Obj)) (hG : GlOk w0 (Mut M γ0 o0)) : Env P where
  ro := none
  Y := undef
  n := n
  pin := γ0
  outs := []
  E := fun log U V w => log = ⟨[], false⟩ ∧ V = M ∧ Same (live γ0 o0) w0 w ∧ (∀ b, U b → live γ0 o0 b ∨ w0.heap.size ≤ b) ∧ (∀ b, M b → b < w0.heap.size)
  stable := by
    rintro log U V w w' U' ⟨h1, h2, h3, h4, h5⟩ hs hU
    refine ⟨h1, h2, h3.trans hs (fun i hi hu => ?_), fun b hb => ?_, h5⟩
    · rcases h4 i hu with h | h
      · exact h
      · omega
    · rcases hU b hb with h | h
      · exact h4 b h
      · exact .inr (Nat.le_trans h3.size h)
  round := by intro log U V w l _ h; cases h
  glob := by
    rintro log U V w ⟨_, rfl, h3, h4, _⟩
    refine hG.step (h3.mono fun b _ h => .inr h) (fun b hb => hb.elim (fun h => (h4 b h).imp .inr id) (fun h => .inl (.inl h)))

theorem sub_has {α : Type} {l r : List (Nat × α)} (h : Sub l r) {d : Nat} {v : α} (hd : get d l = some v) : get d r = some v := h.get hd

def keysGe (n : Nat) : List (Nat × Obj) → Bool
  | [] => true
  | (d, _) :: l => decide (n ≤ d) && keysGe n l
theorem keysGe_get {n : Nat} : ∀ {l : List (Nat × Obj)} {d : Nat}, keysGe n l = true → has d l = true → n ≤ d
  | [], d, _, h => by simp [has, get] at h
  | (e, o) :: l, d, hk, h => by
    simp only [keysGe, Bool.and_eq_true, decide_eq_true_eq] at hk
    unfold has at h
    simp only [get] at h
    split at h
    · rename_i he; subst he; exact hk.1
    · exact keysGe_get hk.2 h

theorem AnsO.intro {f : FuncId} {fn : Func} {c : Code} {o0 o1 : List (Nat × Obj)} {args : List AV} {r : AV} (hf : P.funcs[f]? = some fn) (hb : fn.body = some c) (hn : (fn.name == "runtime.NumGoroutine") = false) (hargs : args.length ≤ fn.ntmps)
    (hpl : AV.plains args = true) (hks : keysGe fn.ntmps o0 = true)
    (h : ∀ X : Env P, X.ro = none → X.n = fn.ntmps → AW X c (initO o0 args) (RetO P fn o1 r)) : AnsO P f o0 args o1 r := by
  refine ⟨enters_of hf hb hn, fun w M γ xs hM hG hO hx => ?_⟩
  have hlen := hx.length
  rw [← callsIn_wide (n := 0)]
  refine callsIn_of_wp_marks hf hb trivial ?_ rfl
  have S0 : Sim (ownEnv P fn.ntmps w M γ o0 hG) γ (live γ o0) M (initO o0 args) { tmps := xs.toArray ++ Array.replicate (fn.ntmps - xs.toArray.size) undef, defers := [] } w := by
    refine ⟨⟨rfl, rfl, Same.refl _ _, fun _ h => .inl h, hM⟩, ?_, ?_, ?_, hO.obj, hO.sep, fun b h => h, fun b hm hl => hO.zone b hl hm, hO.lt, hM, ⟨[], rfl, List.nodup_nil, fun _ h => by cases h⟩, ?_, fun _ _ => rfl⟩
    · show (xs.toArray ++ Array.replicate (fn.ntmps - xs.toArray.size) undef).size = fn.ntmps
      simp
      omega
    · intro k v hk
      obtain ⟨_, _, x, hx2, hr⟩ := idxA_get (Y := undef) (γ := γ) args xs 0 k v hx hk
      simp only [Nat.sub_zero] at hx2
      have hlt : k < xs.length := (List.getElem?_eq_some_iff.1 hx2).1
      have : (xs.toArray ++ Array.replicate (fn.ntmps - xs.toArray.size) undef).getD k undef = x := by
        rw [Array.getD_eq_getD_getElem?, Array.getElem?_append_left (by simpa using hlt)]
        simp [hx2]
      rw [this]
      exact hr
    · show OutsOk _ _ _ _ [] []
      simp [OutsOk]
    · intro k n cs hk b hb
      obtain ⟨_, hm, _⟩ := idxA_get (Y := undef) (γ := γ) args xs 0 k _ hx hk
      have := plains_mem hpl hm
      simp [AV.plain] at this
  have h1 := h (ownEnv P fn.ntmps w M γ o0 hG) rfl rfl _ _ ⟨_, _, _, S0⟩
  have hfe : fence (ownEnv P fn.ntmps w M γ o0 hG) = Fence.wide := rfl
  rw [hfe] at h1
  refine wpIn_mono h1 ?_
  have fin : ∀ st a' w', RetO P fn o1 r .ret st → Inv (ownEnv P fn.ntmps w M γ o0 hG) st a' w' → LeavesInM Fence.wide 0 P fn a'.tmps (fun e w'' => ∃ v γ', e = .returned v ∧ Same (live γ o0) w w'' ∧ Objs γ' w'' M o1 ∧ RA undef γ' w'' (Mut M γ' o1) r v ∧
      (∀ d, has d o0 = true → has d o1 = true → γ' d = γ d) ∧ (∀ b, live γ' o1 b → live γ o0 b ∨ w.heap.size ≤ b)) a'.defers .returning w' := by
    rintro st a' w' ⟨hav, hsub⟩ ⟨γ', U, V, S⟩
    obtain ⟨Ds, hDs, hnd, hD⟩ := S.defs
    rw [hDs]
    refine leaves_marks Ds w' hnd (fun D hd => (hD D hd).2) (fun w'' hw'' => ?_)
    obtain ⟨_, rfl, hsame, hUs, _⟩ := S.env
    have hother : ∀ (b : Nat) cs T fr, w'.heap[b]? = some (Go.Obj.cells cs T fr) → w''.heap[b]? = w'.heap[b]? := by
      intro b cs T fr hb
      refine hw''.blk b (Array.getElem?_eq_some_iff.1 hb).1 (fun hm => ?_)
      rw [(hD b hm).2] at hb
      cases hb
    have hlive : ∀ b, live γ' o1 b → live γ' st.objs b := by rintro b ⟨d, o, h1, h2⟩; exact ⟨d, o, hsub.get h1, h2⟩
    have hkeep : Keep (Mut V γ' st.objs) w' w'' := fun b cs T fr hb _ => hother b cs T fr hb
    have hless : Less w' (Mut V γ' st.objs) (Mut V γ' st.objs) := fun _ _ _ _ _ h => h
    have hless1 : Less w' (Mut V γ' o1) (Mut V γ' st.objs) := fun b _ _ _ _ h => h.imp id (hlive b)
    have hobj2 : ∀ d o, get d st.objs = some o → SimObj undef γ' w'' (Mut V γ' st.objs) d o := fun d o ho =>
      (S.obj d o ho).keep hkeep hless (fun b hb => by obtain ⟨cs, T, fr, hh⟩ := (S.obj d o ho).heap hb; exact hother b cs T fr hh)
    have hreg2 : RegsOk undef γ' w'' (Mut V γ' st.objs) st.regs a'.tmps := fun k v hk => RA.keep hkeep hless v _ (S.reg k v hk)
    obtain ⟨v, hv, hrv⟩ := resultA_sound hreg2 hobj2 hav
    refine ⟨v, hv, v, γ', rfl, ?_, ⟨fun d o ho => ?_, fun d d' o o' b h1 h2 => S.sep d d' o o' b (hsub.get h1) (hsub.get h2), fun b hb hm => ?_, fun b hb => ?_⟩, ?_, fun d h0 h1 => ?_, fun b hb => ?_⟩
    · exact hsame.trans hw'' (fun i hi hm => by
        rcases hUs i (hD i hm).1 with h | h
        · exact h
        · omega)
    · exact (S.obj d o (hsub.get ho)).keep hkeep hless1 (fun b hb => by obtain ⟨cs, T, fr, hh⟩ := (S.obj d o (hsub.get ho)).heap hb; exact hother b cs T fr hh)
    · exact S.zone b hm (S.own b (hlive b hb))
    · exact Nat.lt_of_lt_of_le (S.ltU b (S.own b (hlive b hb))) hw''.size
    · exact RA.keep (keep_refl _ _) (fun b _ _ _ _ h => h.imp id (hlive b)) _ _ hrv
    · exact S.kept d (keysGe_get hks h0)
    · exact hUs b (S.own b (hlive b hb))
  intro e a' w' hg
  cases e <;> simp only [Good, bodyPostM] at hg ⊢ <;> first | exact hg.elim | skip
  · obtain ⟨st, hret, hi⟩ := hg
    exact fin st a' w' hret hi
  · obtain ⟨st, hret, hi⟩ := hg
    exact hret.elim
  · obtain ⟨st, hret, hi⟩ := hg
    exact hret.elim
  · obtain ⟨st, hret, hi⟩ := hg
    exact fin st a' w' hret hi

theorem AnsO.ans {f : FuncId} {args : List PV} {o1 : List (Nat × Obj)} {r : AV} {r' : PV} (h : AnsO P f [] (args.map .p) o1 r) (hr : frzA o1 r = some r') : Ans P f args r' := by
  refine ⟨h.1, fun w M xs hM hG hx => ?_⟩
  have hno : ∀ b, ¬ live (fun _ => undef) ([] : List (Nat × Obj)) b := by rintro b ⟨d, o, h, _⟩; simp [get] at h
  have hmut : ∀ b, Mut M (fun _ => undef) [] b → M b := by rintro b (h | h); exact h; exact absurd h (hno b)
  refine (h.2 w M (fun _ => undef) xs hM (hG.mono fun b _ h => hmut b h) ⟨fun d o h => by simp [get] at h, fun d d' o o' b h => by simp [get] at h, fun b h => absurd h (hno b), fun b h => absurd h (hno b)⟩ ?_).mono ?_
  · exact RAs.mono (Same.refl M w) (fun b _ h => hmut b h) _ _ (RAs.of_RPs hx)
  · rintro e w' ⟨v, γ', rfl, hs, hO, hv, _, _⟩
    refine ⟨v, rfl, ⟨hs.os, hs.tape, hs.output, hs.size, fun b hb => hs.blk b hb (hno b)⟩, ?_⟩
    exact frzA_sound hO.obj (fun b h => .inl h) (fun d o b h1 h2 h3 => hO.zone b ⟨d, o, h1, h2⟩ h3) hr hv
end Go.AE
