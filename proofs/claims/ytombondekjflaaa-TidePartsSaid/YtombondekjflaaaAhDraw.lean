/- YtombondekjflaaaAhDraw: a part of the proof; see the last text for what is proved. -/
import Derived.Test.YtombondekjflaaaAhWalk
set_option linter.unusedVariables false
set_option linter.unusedSimpArgs false
namespace Go.AE
open Go.RowKit

variable {P : Program} {X : Env P}

def u8B (P : Program) (e : TypeId) : Bool :=
  match P.underlying e with
  | some (.int .u8) => true
  | _ => false
def valueO (P : Program) (regs : List (Nat × AV)) (objs : List (Nat × Obj)) (op : Go.Op) : Option AV :=
  match op with
  | .build T parts => (buildA P regs objs T parts.toList).map noLit
  | .buildSlice T n parts =>
    match allocO P regs objs (.buildSlice T n parts) with
    | some (.row e _ n cs) => if u8B P e = true ∧ 0 < n then some (.lit n cs) else some (.p (.sl .any n cs))
    | _ => none
  | .convert src dst (.tmp t) =>
    match get t regs with
    | some (.lit n cs) =>
      if src = dst then
        match P.underlying src with
        | some (.slice e) => if u8B P e = true ∧ 0 < n ∧ 0 < cs.length then some (.p (.sl .nn n cs)) else none
        | _ => none
      else none
    | _ => (pureO P regs objs (.convert src dst (.tmp t))).map noLit
  | op => (pureO P regs objs op).map noLit

def OpV (X : Env P) (o : Oper) (regs : List (Nat × AV)) (objs : List (Nat × Obj)) (v : AV) : Prop :=
  (isCall o.op = false ∧ valueO P regs objs o.op = some v) ∨
  (∃ c g ps r, o.op = .call c ∧ callA regs objs c = some (g, ps) ∧ Ans P g ps r ∧ r.flat = true ∧ v = .p r) ∨
  (∃ c g ps r, o.op = .call c ∧ callA regs [] c = some (g, ps) ∧ Ans P g ps r ∧ v = .p r)

theorem pureO_defer {regs : List (Nat × AV)} {objs : List (Nat × Obj)} {op : Go.Op} {v : AV} (h : pureO P regs objs op = some v) : ∀ c, op ≠ .defer c := by
  intro c hc; subst hc; simp [pureO] at h

theorem row_any {Y : Value} {γ : Nat → Value} {w : World} {M : Nat → Prop} {d T sz n : Nat} {cs : List PV} (h : SimObj Y γ w M d (.row T sz n cs)) (hM : ∀ b, blk (γ d) = some b → ¬ M b) : RP w M (.sl .any n cs) (γ d) := by
  obtain ⟨A, c, xs, hg, hnc, hcm, hlen, h1, h2, hat⟩ := row_lies h
  simp only [RP]
  refine ⟨A, c, xs, hg, trivial, hnc, hcm, h1, h2, fun hne => ?_⟩
  obtain ⟨ad, rfl, hc⟩ := hat hne
  refine ⟨ad, rfl, hM _ ?_, hc⟩
  rw [hg]
  have hc0 : 0 < c := by
    rcases Nat.eq_zero_or_pos c with h0 | h0
    · exfalso
      apply hne
      have := h1.length
      rw [hlen, show n = 0 by omega] at this
      simpa using this
    · exact h0
  obtain ⟨c', rfl⟩ : ∃ c', c = c' + 1 := ⟨c - 1, by omega⟩
  rfl

theorem u8B_spec {e : TypeId} (h : u8B P e = true) : P.underlying e = some (.int .u8) := by
  unfold u8B at h
  split at h
  · assumption
  · cases h

theorem Sim.putLit {γ : Nat → Value} {U V : Nat → Prop} {st : St} {a : Act} {w w' : World} {d n : Nat} {cs : List PV} {v : Value} (S : Sim X γ U V st a w) (hd : d < X.n) (hw : Same (fun _ => False) w w') (hb : ∀ b, blk v = some b → w.heap.size ≤ b ∧ b < w'.heap.size)
    (hv : RA X.Y γ w' (Mut V γ st.objs) (.lit n cs) v) : Sim X γ (fun b => U b ∨ blk v = some b) V { st with regs := put d (.lit n cs) st.regs } (a.put (some d) v) w' := by
  have S1 := S.putReg (d := d) (v := v) (av := .p (.sl .nn n cs)) hd hw rfl (by simp only [RA]; rw [RA] at hv; exact hv)
  have hsz : (a.put (some d) v).tmps.size = X.n := S1.size
  refine ⟨X.stable S.env (hw.mono fun _ _ h => h.elim) (fun b hb' => hb'.imp id fun h => (hb b h).1), S1.size, ?_, S1.outs, S1.obj, S1.sep, fun b h => .inl (S1.own b h), ?_, ?_, S1.ltV, ?_, ?_, S1.kept⟩
  · intro k u hk
    by_cases h : d = k
    · subst h
      rw [get_put_same] at hk
      obtain rfl := Option.some.inj hk
      simp only [Act.put]
      rw [getD_put_same (by rw [S.size]; exact hd)]
      exact hv
    · refine S1.reg k u ?_
      rw [get_put_ne h] at hk ⊢
      exact hk
  · rintro b hV (h | h)
    · exact S.zone b hV h
    · have := (hb b h).1; have := S.ltV b hV; omega
  · rintro b (h | h)
    · exact Nat.lt_of_lt_of_le (S.ltU b h) hw.size
    · exact (hb b h).2
  · obtain ⟨Ds, h1, h2, h3⟩ := S1.defs
    exact ⟨Ds, h1, h2, fun D hD => ⟨.inl (h3 D hD).1, (h3 D hD).2⟩⟩
  · intro k n' cs' hk b hbk
    by_cases h : d = k
    · subst h
      simp only [Act.put] at hbk
      rw [getD_put_same (by rw [S.size]; exact hd)] at hbk
      exact .inr hbk
    · rw [get_put_ne h] at hk
      simp only [Act.put] at hbk
      rw [getD_put_ne h] at hbk
      exact .inl (S.lits k n' cs' hk b hbk)

theorem OpV.sound {o : Oper} {st : St} {objs : List (Nat × Obj)} (hsub : ∀ d o, get d objs = some o → get d st.objs = some o) {a : Act} {w : World} {v : AV} (h : OpV X o st.regs objs v) (hd : dstOk X o = true) (hi : Inv X st a w) {next : Act → World → Prop} {Q : Exit → Act → World → Prop}
    (hn : ∀ a' w', Inv X (putO o.dst v st) a' w' → next a' w') : o.wpIn (fence X) 0 P a w next Q := by
  obtain ⟨γ, U, V, S⟩ := hi
  have hobj : ∀ d o, get d objs = some o → SimObj X.Y γ w (Mut V γ st.objs) d o := fun d o h => S.obj d o (hsub d o h)
  have hlt : ∀ b, Mut V γ st.objs b → b < w.heap.size := by
    rintro b (h | h)
    · exact S.ltV b h
    · exact S.ltU b (S.own b h)
  have pureCase : ∀ {v : AV}, (pureO P st.regs objs o.op).map noLit = some v → (∀ a' w', Inv X (putO o.dst v st) a' w' → next a' w') → o.wpIn (fence X) 0 P a w next Q := by
    intro v hv hn
    obtain ⟨v0, hv0, rfl⟩ := Option.map_eq_some_iff.1 hv
    obtain ⟨u, hu, hr⟩ := pureO_sound (a := a) hv0 S.regG hobj
    exact wpIn_of_run (pureO_defer hv0) hu (.inl rfl) (hn _ _ ⟨γ, U, V, S.putO hd (Same.refl _ w) (noLit_isLit _) (RA_noLit hr)⟩)
  rcases h with ⟨hic, hv⟩ | ⟨c, g, ps, r, ho, hc, hs, hr, rfl⟩ | ⟨c, g, ps, r, ho, hc, hs, rfl⟩
  · unfold valueO at hv
    split at hv
    · rename_i T parts hop
      obtain ⟨v0, hv0, rfl⟩ := Option.map_eq_some_iff.1 hv
      obtain ⟨u, hu, hr⟩ := buildA_sound (a := a) hobj S.regG hv0
      refine wpIn_of_run (by intro c; rw [hop]; simp) (r := .value u) (v := u) ?_ (.inl rfl) (hn _ _ ⟨γ, U, V, S.putO hd (Same.refl _ w) (noLit_isLit _) (RA_noLit hr)⟩)
      simp only [execOp, hop, Sem.run_bind, hu, Result.andThen_ok, Sem.run_pure]
    · rename_i T n parts hop
      split at hv
      · rename_i e sz m cs hob
        have hk : (Obj.row e sz m cs).kill X.n = .row e sz m cs := rfl
        obtain ⟨u, ob', hu, hblk, hsim⟩ := allocO_sound (P := P) (a := a) (w := w) (o := o) (ob := .row e sz m cs) hobj S.regG (by rw [hop]; exact hob) X.n
        rw [hk] at hsim
        have h1 := hsim (Mut V γ st.objs) (fun b _ h => h)
        have hnoM : ∀ b, blk (upd γ X.n u X.n) = some b → ¬ Mut V γ st.objs b := fun b hb hm => by
          rw [upd_same] at hb
          have := hblk b hb
          have := hlt b hm
          omega
        have h2 := row_any h1 hnoM
        rw [upd_same] at h2
        split at hv
        · rename_i h8
          obtain rfl := Option.some.inj hv
          have h3 : RP (w.alloc ob') (Mut V γ st.objs) (.sl .nn m cs) u := by
            simp only [RP] at h2 ⊢
            obtain ⟨A, c, xs, rfl, _, k1, k2, k3, k4, k5⟩ := h2
            refine ⟨A, c, xs, rfl, ?_, k1, k2, k3, k4, k5⟩
            simp only [SimObj] at h1
            obtain ⟨A', c', xs', hg, _, _, _, _, _, hh⟩ := h1
            rw [upd_same] at hg
            obtain ⟨rfl, _, rfl⟩ : A = A' ∧ m = m ∧ c = c' := by simpa using hg
            obtain ⟨g, cur, rfl, _⟩ := hh (by omega)
            simp [TagOk]
          refine wpIn_of_run (by intro c; rw [hop]; simp) hu (.inl rfl) (hn _ _ ?_)
          unfold putO
          cases hdst : o.dst with
          | none => exact ⟨γ, U, V, S.same (Same.alloc _ _ _)⟩
          | some d =>
            unfold dstOk at hd
            rw [hdst] at hd
            refine ⟨γ, _, V, S.putLit (by simpa using hd) (Same.alloc _ _ _) (fun b hb => ?_) (by rw [RA]; exact h3)⟩
            have := hblk b hb
            exact ⟨by omega, by simp; omega⟩
        · obtain rfl := Option.some.inj hv
          exact wpIn_of_run (by intro c; rw [hop]; simp) hu (.inl rfl) (hn _ _ ⟨γ, U, V, S.putO hd (Same.alloc _ _ _) rfl (by simp only [RA]; exact h2)⟩)
      · cases hv
    · rename_i src dst t hop
      split at hv
      · rename_i n cs hg
        split at hv
        · rename_i hsd
          subst hsd
          split at hv
          · rename_i e hT
            split at hv
            · rename_i hc
              obtain rfl := Option.some.inj hv
              have hr := S.reg t _ hg
              rw [RA] at hr
              have hr0 := hr
              simp only [RP] at hr
              obtain ⟨A, c, xs, hval, htag, hnc, hcm, h1, h2, hat⟩ := hr
              have hne : xs ≠ [] := by
                intro he
                have := h1.length
                rw [he] at this
                simp at this
                omega
              obtain ⟨ad, rfl, hnM, hcell⟩ := hat hne
              have hblk : blk (a.tmps.getD t undef) = some ad.block := by
                rw [hval]
                obtain ⟨c', rfl⟩ : ∃ c', c = c' + 1 := ⟨c - 1, by omega⟩
                rfl
              obtain ⟨x0, hx0⟩ : ∃ x0, xs[0]? = some x0 := ⟨xs[0]'(List.length_pos_iff.2 hne), List.getElem?_eq_getElem _⟩
              obtain ⟨cells, T', fr, hheap⟩ := cells_of_cell? (hcell 0 x0 hx0)
              have hb0 : (ad.add 0).block = ad.block := by unfold Addr.add; split <;> rfl
              rw [hb0] at hheap
              obtain ⟨w', hrun, hm⟩ := run_mark (P := P) hT (u8B_spec hc.1) (ad := ad) (n := n) (c := c) hheap
              have S2 := S.marked (S.lits t n cs hg ad.block hblk) (fun p o' hp hb => hnM (.inr ⟨p, o', hp, hb⟩)) hm
              refine wpIn_of_run (r := .value (.slice (some ad) n c)) (by intro c'; rw [hop]; simp) ?_ (.inl rfl) (hn _ _ ⟨γ, U, V, S2.putO hd (Same.refl _ w') rfl ?_⟩)
              · have hev : a.eval (.tmp t) = .slice (some ad) n c := hval
                simp only [execOp, hop, hev, Sem.run_bind, hrun, Result.andThen_ok, Sem.run_pure]
              · simp only [RA]
                rw [← hval]
                exact RP.cells (fun ad v hv => hm.cell hv) _ _ hr0
            · cases hv
          · cases hv
        · cases hv
      · exact pureCase (by rw [hop]; exact hv) hn
    · exact pureCase hv hn
  · obtain ⟨f, cap, xs, h1, h2, h3, h4⟩ := callA_sound S (objs := objs) hsub (M0 := V) (fun b h => .inl h) (fun d o b h1 h2 h3 => S.zone b h3 (S.own b ⟨d, o, hsub d o h1, h2⟩)) hc
    refine call_wpIn (R := fun e w' => ∃ v, e = .returned v ∧ Below w.heap.size w w' ∧ RP w' V r v) ho h1 h2 h3 hs.1 (hs.2 w V _ S.ltV S.globV h4) ?_
    rintro e w' ⟨v, rfl, hb, hv⟩
    exact ⟨v, rfl, hn _ _ ⟨γ, U, V, S.putO hd (below_same hb _) rfl (by simp only [RA]; exact flat_anywhere r v hr hv)⟩⟩
  · obtain ⟨f, cap, xs, h1, h2, h3, h4⟩ := callA_sound S (objs := []) (fun d o h => by simp [get] at h) (M0 := Mut V γ st.objs) (fun b h => h) (fun d o b h1 => by simp [get] at h1) hc
    refine call_wpIn (R := fun e w' => ∃ v, e = .returned v ∧ Below w.heap.size w w' ∧ RP w' (Mut V γ st.objs) r v) ho h1 h2 h3 hs.1 (hs.2 w _ _ hlt S.globM h4) ?_
    rintro e w' ⟨v, rfl, hb, hv⟩
    exact ⟨v, rfl, hn _ _ ⟨γ, U, V, S.putO hd (below_same hb _) rfl (by simp only [RA]; exact hv)⟩⟩

/-! ### Nothing speaks of a site -/
mutual
def AV.free (ds : List Nat) : AV → Bool
  | .p _ => true
  | .agg cs => AV.frees ds cs
  | .own e => !ds.contains e
  | .sub e _ _ => !ds.contains e
  | .ptr e _ => !ds.contains e
  | .fn _ cap => AV.frees ds cap
  | .tup vs => AV.frees ds vs
  | .yield => true
  | .any => true
  | .lit _ _ => true
def AV.frees (ds : List Nat) : List AV → Bool
  | [] => true
  | x :: l => AV.free ds x && AV.frees ds l
end
mutual
theorem kill_free {ds : List Nat} {d : Nat} (hd : d ∈ ds) : ∀ (v : AV), v.free ds = true → v.kill d = v
  | .p _, _ => rfl
  | .agg cs, h => by simp only [AV.free] at h; simp only [AV.kill, kills_free hd cs h]
  | .own e, h => by
    simp only [AV.free] at h
    have : e ≠ d := fun he => by subst he; simp [hd] at h
    simp only [AV.kill, if_neg this]
  | .sub e _ _, h => by
    simp only [AV.free] at h
    have : e ≠ d := fun he => by subst he; simp [hd] at h
    simp only [AV.kill, if_neg this]
  | .ptr e _, h => by
    simp only [AV.free] at h
    have : e ≠ d := fun he => by subst he; simp [hd] at h
    simp only [AV.kill, if_neg this]
  | .fn f cap, h => by simp only [AV.free] at h; simp only [AV.kill, kills_free hd cap h]
  | .tup vs, h => by simp only [AV.free] at h; simp only [AV.kill, kills_free hd vs h]
  | .yield, _ => rfl
  | .any, _ => rfl
  | .lit _ _, _ => rfl
theorem kills_free {ds : List Nat} {d : Nat} (hd : d ∈ ds) : ∀ (v : List AV), AV.frees ds v = true → AV.kills d v = v
  | [], _ => rfl
  | x :: l, h => by
    simp only [AV.frees, Bool.and_eq_true] at h
    simp only [AV.kills, kill_free hd x h.1, kills_free hd l h.2]
end
def regsFree (ds : List Nat) : List (Nat × AV) → Bool
  | [] => true
  | (_, v) :: l => v.free ds && regsFree ds l
def objsFree (ds : List Nat) : List (Nat × Obj) → Bool
  | [] => true
  | (d, .box _ cs) :: l => !ds.contains d && AV.frees ds cs && objsFree ds l
  | (d, .row _ _ _ _) :: l => !ds.contains d && objsFree ds l
def outerFree (ds : List Nat) : List (List (Nat × AV)) → Bool
  | [] => true
  | r :: l => regsFree ds r && outerFree ds l
def freeSt (ds : List Nat) (st : St) : Bool := regsFree ds st.regs && objsFree ds st.objs && outerFree ds st.outer
mutual
theorem free_nil : ∀ v : AV, v.free [] = true
  | .p _ => rfl
  | .agg cs => by simp only [AV.free]; exact frees_nil cs
  | .own e => rfl
  | .sub e _ _ => rfl
  | .ptr e _ => rfl
  | .fn _ cap => by simp only [AV.free]; exact frees_nil cap
  | .tup vs => by simp only [AV.free]; exact frees_nil vs
  | .yield => rfl
  | .any => rfl
  | .lit _ _ => rfl
theorem frees_nil : ∀ v : List AV, AV.frees [] v = true
  | [] => rfl
  | x :: l => by simp only [AV.frees, free_nil x, frees_nil l, Bool.and_self]
end
theorem regsFree_nil : ∀ l : List (Nat × AV), regsFree [] l = true
  | [] => rfl
  | (_, v) :: l => by simp only [regsFree, free_nil v, regsFree_nil l, Bool.and_self]
theorem objsFree_nil : ∀ l : List (Nat × Obj), objsFree [] l = true
  | [] => rfl
  | (_, .box _ cs) :: l => by simp only [objsFree, frees_nil cs, objsFree_nil l, Bool.and_true]; rfl
  | (_, .row _ _ _ _) :: l => by simp only [objsFree, objsFree_nil l, Bool.and_true]; rfl
theorem outerFree_nil : ∀ l : List (List (Nat × AV)), outerFree [] l = true
  | [] => rfl
  | r :: l => by simp only [outerFree, regsFree_nil r, outerFree_nil l, Bool.and_self]
theorem freeSt_nil (st : St) : freeSt [] st = true := by simp only [freeSt, regsFree_nil, objsFree_nil, outerFree_nil, Bool.and_self]
theorem regsFree_get {ds : List Nat} : ∀ {l : List (Nat × AV)}, regsFree ds l = true → ∀ {k : Nat} {v : AV}, get k l = some v → v.free ds = true
  | [], _, k, v, h => by simp [get] at h
  | (j, u) :: l, hf, k, v, h => by
    simp only [regsFree, Bool.and_eq_true] at hf
    simp only [get] at h
    split at h
    · obtain rfl := Option.some.inj h; exact hf.1
    · exact regsFree_get hf.2 h
theorem regsFree_kill {ds : List Nat} {d : Nat} (hd : d ∈ ds) : ∀ (l : List (Nat × AV)), regsFree ds l = true → mapv (AV.kill d) l = l
  | [], _ => rfl
  | (j, u) :: l, hf => by
    simp only [regsFree, Bool.and_eq_true] at hf
    simp only [mapv, kill_free hd u hf.1, regsFree_kill hd l hf.2]
theorem outerFree_kill {ds : List Nat} {d : Nat} (hd : d ∈ ds) : ∀ (l : List (List (Nat × AV))), outerFree ds l = true → l.map (mapv (AV.kill d)) = l
  | [], _ => rfl
  | r :: l, hf => by
    simp only [outerFree, Bool.and_eq_true] at hf
    simp only [List.map_cons, regsFree_kill hd r hf.1, outerFree_kill hd l hf.2]
theorem objsFree_get {ds : List Nat} {d : Nat} (hd : d ∈ ds) : ∀ {l : List (Nat × Obj)}, objsFree ds l = true → ∀ {k : Nat} {o : Obj}, get k l = some o → k ≠ d ∧ o.kill d = o
  | [], _, k, v, h => by simp [get] at h
  | (j, .box T cs) :: l, hf, k, v, h => by
    simp only [objsFree, Bool.and_eq_true] at hf
    simp only [get] at h
    split at h
    · rename_i hj
      obtain rfl := Option.some.inj h
      subst hj
      refine ⟨fun he => by subst he; simp [hd] at hf, ?_⟩
      simp only [Obj.kill, kills_free hd cs hf.1.2]
    · exact objsFree_get hd hf.2 h
  | (j, .row T sz n cs) :: l, hf, k, v, h => by
    simp only [objsFree, Bool.and_eq_true] at hf
    simp only [get] at h
    split at h
    · rename_i hj
      obtain rfl := Option.some.inj h
      subst hj
      exact ⟨fun he => by subst he; simp [hd] at hf, rfl⟩
    · exact objsFree_get hd hf.2 h

/-! ### What is not looked at makes no difference -/
section congr
variable {regs regs' : List (Nat × AV)} {objs : List (Nat × Obj)}
theorem evs_congr : ∀ {xs : List Operand}, (∀ x ∈ xs, ev regs x = ev regs' x) → evs regs xs = evs regs' xs
  | [], _ => rfl
  | x :: l, h => by simp only [evs, h x List.mem_cons_self, evs_congr (fun y hy => h y (List.mem_cons_of_mem _ hy))]
theorem evI_congr {x : Operand} (h : ev regs x = ev regs' x) : evI regs x = evI regs' x := by simp only [evI, h]
theorem optI_congr {x : Option Operand} (h : ∀ y, x = some y → ev regs y = ev regs' y) : optI regs x = optI regs' x := by
  cases x with
  | none => rfl
  | some y => simp only [optI, evI_congr (h y rfl)]
theorem evParts_congr : ∀ {ps : List (Nat × Operand)}, (∀ q ∈ ps, ev regs q.2 = ev regs' q.2) → evParts regs ps = evParts regs' ps
  | [], _ => rfl
  | (i, x) :: l, h => by simp only [evParts, h (i, x) List.mem_cons_self, evParts_congr (fun y hy => h y (List.mem_cons_of_mem _ hy))]

theorem pureO_congr {op : Go.Op} (h : ∀ x ∈ op.operands, ev regs x = ev regs' x) : pureO P regs objs op = pureO P regs' objs op := by
  cases op <;> simp only [pureO] <;> simp only [Op.operands] at h
  case move x => exact h x (by simp)
  case assign x => exact h x (by simp)
  case pick c a b => rw [h c (by simp), h a (by simp), h b (by simp)]
  case load T x => rw [h x (by simp)]
  case nilCheck x => rw [h x (by simp)]
  case binOp op T x y yT => rw [h x (by simp), h y (by simp)]
  case unOp op T x => rw [h x (by simp)]
  case convert s d x => rw [h x (by simp)]
  case makeFunc fn first cap =>
    have he := evs_congr (regs := regs) (regs' := regs') (xs := cap.toList) (fun x hx => h x (by simp [Array.mem_toList_iff.1 hx]))
    cases fn <;> simp only [he]
  case slice T x lo hi mx =>
    rw [h x (by simp), optI_congr (x := lo) (fun y hy => h y (by subst hy; simp)), optI_congr (x := hi) (fun y hy => h y (by subst hy; simp)), optI_congr (x := mx) (fun y hy => h y (by subst hy; simp))]
  case fieldAddr s x f => rw [h x (by simp)]
  case field s x f => rw [h x (by simp)]
  case indexAddr T x i => rw [h x (by simp), evI_congr (h i (by simp))]
  case index T x i => rw [h x (by simp), evI_congr (h i (by simp))]
  case extract t i => rw [h t (by simp)]
  case call c => rw [evs_congr (xs := c.args.toList) (fun x hx => h x (by simp [Call.operands, Array.mem_toList_iff.1 hx]))]

theorem valueO_congr {op : Go.Op} (h : ∀ x ∈ op.operands, ev regs x = ev regs' x) : valueO P regs objs op = valueO P regs' objs op := by
  unfold valueO
  split
  · rename_i T parts
    simp only [Op.operands] at h
    have he : evParts regs parts.toList = evParts regs' parts.toList := evParts_congr (fun q hq => h q.2 (by simp; exact ⟨q.1, Array.mem_toList_iff.1 hq⟩))
    simp only [buildA, he]
  · rename_i T n parts
    simp only [Op.operands] at h
    have he : evParts regs parts.toList = evParts regs' parts.toList := evParts_congr (fun q hq => h q.2 (by simp; exact ⟨q.1, Array.mem_toList_iff.1 hq⟩))
    simp only [allocO, he]
  · rename_i src dst t
    rw [pureO_congr h]
    simp only [Op.operands] at h
    have ht := h (.tmp t) (by simp)
    simp only [ev] at ht
    rw [ht]
  · rw [pureO_congr h]

theorem callA_congr {c : Call} {objs : List (Nat × Obj)} (h : ∀ x ∈ c.operands, ev regs x = ev regs' x) : callA regs objs c = callA regs' objs c := by
  unfold callA
  split
  · rename_i f hf
    have h1 : ev regs f = ev regs' f := h f (by simp [Call.operands, hf])
    have h2 : evs regs c.args.toList = evs regs' c.args.toList := evs_congr (fun x hx => h x (by simp [Call.operands, Array.mem_toList_iff.1 hx]))
    simp only [calleeA, h1, h2]
  · rfl

theorem OpV.congr {o : Oper} {v : AV} (h : ∀ x ∈ o.op.operands, ev regs x = ev regs' x) (hv : OpV X o regs objs v) : OpV X o regs' objs v := by
  rcases hv with ⟨h0, hv⟩ | ⟨c, g, ps, r, ho, hc, hs, hr, rfl⟩ | ⟨c, g, ps, r, ho, hc, hs, rfl⟩
  · exact .inl ⟨h0, by rw [← valueO_congr h]; exact hv⟩
  · refine .inr (.inl ⟨c, g, ps, r, ho, ?_, hs, hr, rfl⟩)
    rw [← callA_congr (regs := regs) (by rw [ho] at h; exact h)]; exact hc
  · refine .inr (.inr ⟨c, g, ps, r, ho, ?_, hs, rfl⟩)
    rw [← callA_congr (regs := regs) (by rw [ho] at h; exact h)]; exact hc
end congr

/-! ### The check on a region's text -/
def edgeTo (o : Oper) (j : Nat) : Bool := o.after.any fun e => e.on == j && Region.binds .any e
def pairOk (ops : Array Oper) (i j : Nat) (x y : Oper) : Bool :=
  edgeTo y i || (match x.dst with | some d => !(y.looksAt ops).contains d && y.dst != some d | none => true) && (match y.dst with | some d => !(x.looksAt ops).contains d | none => true)
def drawOk (ops : List Oper) : Bool :=
  (ops.zipIdx.all fun (y, j) => ops.zipIdx.all fun (x, i) => decide (j ≤ i) || (pairOk ops.toArray i j x y && (match x.dst with | some d => y.dst != some d | none => true))) &&
  (ops.zipIdx.all fun (y, j) => y.after.all fun e => !(Region.binds .any e) || decide (e.on < j))
def edge2 (ops : List Oper) (o : Oper) (j : Nat) : Bool := edgeTo o j || o.after.any fun e => Region.binds .any e && (match ops[e.on]? with | some o' => edgeTo o' j | none => false)
def edge3 (ops : List Oper) (o : Oper) (j : Nat) : Bool := edge2 ops o j || o.after.any fun e => Region.binds .any e && (match ops[e.on]? with | some o' => edge2 ops o' j | none => false)
def barrier (ops : List Oper) (b : Nat × List Nat) : Bool :=
  ops.zipIdx.all fun (y, j) => if j < b.1 then ((match ops[b.1]? with | some o => edge3 ops o j | none => false) || b.2.contains j) else if b.1 < j then edge3 ops y b.1 else true
def risingB (n : Nat) : List Nat → Bool
  | [] => true
  | [j] => decide (j < n)
  | j :: k :: l => decide (j < k) && risingB n (k :: l)

def allocD (P : Program) (o : Oper) : Option (Nat × Obj) :=
  match o.op, o.dst with
  | .alloc T, some d => (zeroC P T).map fun zs => (d, .box T (zeroA zs))
  | _, _ => none
def flush (pend : List (Nat × Obj)) (st : St) : St := { st with objs := pend ++ st.objs }

def barF (bs : List (Nat × List Nat)) (i : Nat) : Option (List Nat) :=
  match bs with
  | [] => none
  | (j, fl) :: l => if j = i then some fl else barF l i

abbrev En := Nat × Oper × Option AV

def outc (o : Oper) (r : Option AV) (st : St) : St :=
  match r with
  | some v => putO o.dst v st
  | none => skipO o st
def lex (st : St) : List En → St
  | [] => st
  | (_, o, r) :: l => lex (outc o r st) l

def flEnts (P : Program) (ops : List Oper) : List Nat → St → Option (List En)
  | [], _ => some []
  | j :: l, st =>
    match ops[j]? with
    | some f =>
      if f.guard = none ∧ isCall f.op = false ∧ allocD P f = none then
        match f.dst, valueO P st.regs st.objs f.op with
        | some t, some v => (flEnts P ops l (putO f.dst v st)).map fun es => (j, f, some v) :: es
        | _, _ => none
      else none
    | none => none
def dstsOf : List En → List Nat
  | [] => []
  | (_, o, _) :: l => o.dst.toList ++ dstsOf l
def dstsAt (ops : List Oper) : List Nat → List Nat
  | [] => []
  | j :: l => (match ops[j]? with | some f => f.dst.toList | none => []) ++ dstsAt ops l
def delAll : List Nat → List (Nat × AV) → List (Nat × AV)
  | [], r => r
  | t :: ts, r => delAll ts (del t r)
def sameVals : List En → List (Nat × AV) → Prop
  | [], _ => True
  | (_, o, r) :: l, regs => (∀ t, o.dst = some t → get t regs = r) ∧ sameVals l regs

def behind (ops : List Oper) (fl : List Nat) (st : St) (d : Nat) (ob : Obj) : St := { st with regs := delAll (dstsAt ops fl) st.regs, objs := put d ob st.objs }

def isB (b : Builtin) : Go.Op → Bool
  | .call c => match b, c.callee with
    | .append, .builtin .append => true
    | .copy, .builtin .copy => true
    | _, _ => false
  | _ => false
theorem stepO_append {n : Nat} {o : Oper} {st : St} {d : Nat} {d0 : Option Nat} {ob : Obj} (hp : isB .append o.op = true) (hd : o.dst = some d) (hn : d < n) (h : appendO P st.regs st.objs o.op = some (d0, ob)) : stepO P n o st = some (allocSt d d0 ob st) := by
  unfold stepO
  rw [hd]
  simp only [hn, if_true]
  cases hop : o.op <;> rw [hop] at hp h <;> simp only [isB] at hp <;> first | (cases hp; done) | skip
  case call c =>
    cases hc : c.callee with
    | builtin b => rw [hc] at hp; cases b <;> simp only [] at hp <;> first | (cases hp; done) | (simp only [hc, h, Option.map_some])
    | _ => rw [hc] at hp; simp at hp
theorem appendO0_congr {regs regs' : List (Nat × AV)} {objs : List (Nat × Obj)} {op : Go.Op} (h : ∀ x ∈ op.operands, ev regs x = ev regs' x) : appendO0 P regs objs op = appendO0 P regs' objs op := by
  unfold appendO0
  split
  · rename_i c
    rw [evs_congr (fun x hx => h x (by
      simp only [Op.operands, Call.operands]
      simp only [Array.mem_append]
      exact .inr (by simpa using hx)))]
  · rfl
theorem appendZ_congr {regs regs' : List (Nat × AV)} {op : Go.Op} (h : ∀ x ∈ op.operands, ev regs x = ev regs' x) : appendZ P regs op = appendZ P regs' op := by
  unfold appendZ
  split
  · rename_i c
    rw [evs_congr (fun x hx => h x (by
      simp only [Op.operands, Call.operands]
      simp only [Array.mem_append]
      exact .inr (by simpa using hx)))]
  · rfl
theorem appendO_congr {regs regs' : List (Nat × AV)} {objs : List (Nat × Obj)} {op : Go.Op} (h : ∀ x ∈ op.operands, ev regs x = ev regs' x) : appendO P regs objs op = appendO P regs' objs op := by
  unfold appendO
  rw [appendZ_congr h, appendO0_congr h]
def FlOk (X : Env P) (D : Option Nat) (ds : List Nat) (o : Oper) (regs : List (Nat × AV)) (objs : List (Nat × Obj)) (d : Nat) (ob : Obj) : Prop :=
  (D = none ∧ o.dst = none ∧ storeO P regs objs o.op = some (d, ob)) ∨
  (D = some d ∧ o.dst = some d ∧ ds.contains d = true ∧ d < X.n ∧ isB .append o.op = true ∧ (∃ T s n cs, ob = .row T s n cs) ∧ appendO P regs objs o.op = some (none, ob))
def putD (D : Option Nat) (r : List (Nat × AV)) : List (Nat × AV) :=
  match D with
  | none => r
  | some d => put d (.own d) r
theorem get_putD (D : Option Nat) (r : List (Nat × AV)) (k : Nat) : get k (putD D r) = if D = some k then some (.own k) else get k r := by
  cases D with
  | none => simp [putD]
  | some d =>
    by_cases h : d = k
    · subst h; simp [putD, get_put_same]
    · simp [putD, get_put_ne h, h]
def behindD (D : Option Nat) (ops : List Oper) (fl : List Nat) (st : St) (d : Nat) (ob : Obj) : St := { st with regs := putD D (delAll (dstsAt ops fl) st.regs), objs := put d ob st.objs }
theorem behindD_none (ops : List Oper) (fl : List Nat) (st : St) (d : Nat) (ob : Obj) : behindD none ops fl st d ob = behind ops fl st d ob := rfl

def CallV (X : Env P) (ds : List Nat) (o : Oper) (st : St) (K : St → Prop) : Prop := ∃ v, OpV X o st.regs st.objs v ∧ dstOk X o = true ∧ v.free ds = true ∧ K (putO o.dst v st)
def DrW (X : Env P) (ops : List Oper) (bs : List (Nat × List Nat)) : List Nat → List (Nat × Obj) → Nat → List Oper → St → (St → Prop) → Prop
  | _, pend, _, [], st, K => K (flush pend st)
  | ds, pend, i, o :: rest, st, K =>
    match guardA ops st.regs o.guard with
    | some g =>
      if g = true then
        match barF bs i with
        | some [] => OpW X o (flush pend st) (fun st' => DrW X ops bs [] [] (i + 1) rest st' K)
        | some (j :: fl) => ∃ D d ob es, FlOk X D ds o st.regs (pend ++ st.objs) d ob ∧ flEnts P ops (j :: fl) (behindD D ops (j :: fl) (flush pend st) d ob) = some es ∧ sameVals es st.regs ∧
            DrW X ops bs [] [] (i + 1) rest (lex (behindD D ops (j :: fl) (flush pend st) d ob) es) K
        | none =>
          match allocD P o with
          | some (d, ob) => d ∈ ds ∧ dstOk X o = true ∧ DrW X ops bs ds (pend ++ [(d, ob)]) (i + 1) rest (putO o.dst (.ptr d 0) st) K
          | none => CallV X ds o st (fun st' => DrW X ops bs ds pend (i + 1) rest st' K)
      else DrW X ops bs ds pend (i + 1) rest (skipO o st) K
    | none => False

def Fact (X : Env P) (ops : List Oper) (ds : List Nat) (o : Oper) (r : Option AV) (st : St) : Prop :=
  match r with
  | some v => guardA ops st.regs o.guard = some true ∧ dstOk X o = true ∧
    (match allocD P o with
     | some (d, ob) => d ∈ ds ∧ v = .ptr d 0
     | none => OpV X o st.regs st.objs v ∧ v.free ds = true)
  | none => guardA ops st.regs o.guard = some false

def Facts (X : Env P) (ops : List Oper) (ds : List Nat) : St → List En → Prop
  | _, [] => True
  | st, (_, o, r) :: l => Fact X ops ds o r st ∧ Facts X ops ds (outc o r st) l

theorem Facts.append {ops : List Oper} {ds : List Nat} : ∀ (s t : List En) (st : St), Facts X ops ds st s → Facts X ops ds (lex st s) t → Facts X ops ds st (s ++ t)
  | [], t, st, _, h => h
  | (i, o, r) :: s, t, st, h, k => ⟨h.1, Facts.append s t _ h.2 k⟩
theorem lex_append : ∀ (s t : List En) (st : St), lex st (s ++ t) = lex (lex st s) t
  | [], t, st => rfl
  | (i, o, r) :: s, t, st => lex_append s t _

def pendOf (P : Program) : List En → List (Nat × Obj)
  | [] => []
  | (_, o, some _) :: l => match allocD P o with
    | some x => x :: pendOf P l
    | none => pendOf P l
  | (_, _, none) :: l => pendOf P l
theorem pendOf_append : ∀ (s t : List En), pendOf P (s ++ t) = pendOf P s ++ pendOf P t
  | [], t => rfl
  | (i, o, some v) :: s, t => by
    simp only [List.cons_append, pendOf, pendOf_append s t]
    cases allocD P o <;> rfl
  | (i, o, none) :: s, t => by simp only [List.cons_append, pendOf, pendOf_append s t]

def Ends (X : Env P) (ops : List Oper) (bs : List (Nat × List Nat)) (ds : List Nat) (K : St → Prop) (i : Nat) (tail : List Oper) (pend : List (Nat × Obj)) (st : St) : Prop :=
  (tail = [] ∧ K (flush pend st)) ∨
  ∃ o rest', tail = o :: rest' ∧ guardA ops st.regs o.guard = some true ∧
    ((barF bs i = some [] ∧ OpW X o (flush pend st) (fun st' => DrW X ops bs [] [] (i + 1) rest' st' K)) ∨
     ∃ fl D d ob es, barF bs i = some fl ∧ FlOk X D ds o st.regs (pend ++ st.objs) d ob ∧ flEnts P ops fl (behindD D ops fl (flush pend st) d ob) = some es ∧ sameVals es st.regs ∧
       DrW X ops bs [] [] (i + 1) rest' (lex (behindD D ops fl (flush pend st) d ob) es) K)

def InRow (i : Nat) : List En → Prop
  | [] => True
  | (j, _, _) :: l => j = i ∧ InRow (i + 1) l

theorem DrW.split {ops : List Oper} {bs : List (Nat × List Nat)} {K : St → Prop} : ∀ (rest : List Oper) (ds : List Nat) (pend : List (Nat × Obj)) (i : Nat) (st : St), DrW X ops bs ds pend i rest st K →
    ∃ (seg : List En) (tail : List Oper), rest = seg.map (·.2.1) ++ tail ∧ InRow i seg ∧ Facts X ops ds st seg ∧ Ends X ops bs ds K (i + seg.length) tail (pend ++ pendOf P seg) (lex st seg)
  | [], ds, pend, i, st, h => ⟨[], [], rfl, trivial, trivial, .inl ⟨rfl, by simp only [DrW] at h; simpa [pendOf, lex] using h⟩⟩
  | o :: rest, ds, pend, i, st, h => by
    simp only [DrW] at h
    split at h
    · rename_i g hg
      split at h
      · rename_i ht
        subst ht
        split at h
        · rename_i hb
          exact ⟨[], o :: rest, rfl, trivial, trivial, .inr ⟨o, rest, rfl, hg, .inl ⟨hb, by simpa [pendOf, lex] using h⟩⟩⟩
        · rename_i j fl hb
          obtain ⟨D, d, ob, es, h1, h3, h4, h5⟩ := h
          exact ⟨[], o :: rest, rfl, trivial, trivial, .inr ⟨o, rest, rfl, hg, .inr ⟨j :: fl, D, d, ob, es, hb, by simpa [pendOf, lex] using h1, by simpa [pendOf, lex] using h3, h4, by simpa [pendOf, lex] using h5⟩⟩⟩
        · split at h
          · rename_i d ob hal
            obtain ⟨hmem, hd, hk⟩ := h
            obtain ⟨seg, tail, h1, hrow, h2, h3⟩ := DrW.split rest ds _ (i + 1) _ hk
            refine ⟨(i, o, some (.ptr d 0)) :: seg, tail, by simp [h1], ⟨rfl, hrow⟩, ⟨?_, h2⟩, ?_⟩
            · simp only [Fact, hal]
              exact ⟨hg, hd, hmem, trivial⟩
            · simp only [lex, outc, List.length_cons, pendOf, hal]
              rw [show i + (seg.length + 1) = i + 1 + seg.length by omega]
              simpa using h3
          · rename_i hal
            obtain ⟨v, hv, hd, hf, hk⟩ := h
            obtain ⟨seg, tail, h1, hrow, h2, h3⟩ := DrW.split rest ds _ (i + 1) _ hk
            refine ⟨(i, o, some v) :: seg, tail, by simp [h1], ⟨rfl, hrow⟩, ⟨?_, h2⟩, ?_⟩
            · simp only [Fact, hal]
              exact ⟨hg, hd, hv, hf⟩
            · simp only [lex, outc, List.length_cons, pendOf, hal]
              rw [show i + (seg.length + 1) = i + 1 + seg.length by omega]
              exact h3
      · rename_i ht
        have : g = false := by cases g <;> simp_all
        subst this
        obtain ⟨seg, tail, h1, hrow, h2, h3⟩ := DrW.split rest ds _ (i + 1) _ h
        refine ⟨(i, o, none) :: seg, tail, by simp [h1], ⟨rfl, hrow⟩, ⟨hg, h2⟩, ?_⟩
        simp only [lex, outc, List.length_cons, pendOf]
        rw [show i + (seg.length + 1) = i + 1 + seg.length by omega]
        exact h3
    · exact h.elim

/-! ### The state behind any part of a segment -/
def G (base : Nat → Option AV) : List En → (Nat → Bool) → Nat → Option AV
  | [], _, k => base k
  | (i, o, r) :: l, L, k => if L i = true ∧ o.dst = some k then some (r.getD (.p (.tup []))) else G base l L k

theorem get_outc (o : Oper) (r : Option AV) (st : St) (k : Nat) : get k (outc o r st).regs = if o.dst = some k then some (r.getD (.p (.tup []))) else get k st.regs := by
  cases r with
  | some v =>
    simp only [outc, putO]
    split
    · rename_i d hd
      by_cases h : d = k
      · subst h; simp [get_put_same, hd]
      · have : ¬ o.dst = some k := by rw [hd]; simpa using h
        simp [get_put_ne h, this]
    · rename_i hd
      rw [hd]; simp
  | none =>
    simp only [outc, skipO]
    split
    · rename_i d hd
      by_cases h : d = k
      · subst h; simp [get_put_same, hd]
      · have : ¬ o.dst = some k := by rw [hd]; simpa using h
        simp [get_put_ne h, this]
    · rename_i hd
      rw [hd]; simp

theorem outc_rest (o : Oper) (r : Option AV) (st : St) : (outc o r st).objs = st.objs ∧ (outc o r st).log = st.log ∧ (outc o r st).outer = st.outer := by
  cases r <;> simp only [outc, putO, skipO] <;> split <;> exact ⟨rfl, rfl, rfl⟩
theorem lex_rest : ∀ (seg : List En) (st : St), (lex st seg).objs = st.objs ∧ (lex st seg).log = st.log ∧ (lex st seg).outer = st.outer
  | [], st => ⟨rfl, rfl, rfl⟩
  | (_, o, r) :: l, st => by
    simp only [lex]
    obtain ⟨h1, h2, h3⟩ := lex_rest l (outc o r st)
    obtain ⟨g1, g2, g3⟩ := outc_rest o r st
    exact ⟨h1.trans g1, h2.trans g2, h3.trans g3⟩

def Uniq : List En → Prop
  | [] => True
  | (i, o, _) :: l => (∀ q ∈ l, i < q.1 ∧ ∀ k, o.dst = some k → q.2.1.dst ≠ some k) ∧ Uniq l

theorem G_skip {base : Nat → Option AV} : ∀ (l : List En) (L : Nat → Bool) (k : Nat), (∀ q ∈ l, q.2.1.dst = some k → L q.1 = false) → G base l L k = base k
  | [], _, _, _ => rfl
  | (i, o, r) :: l, L, k, h => by
    have h0 : ¬ (L i = true ∧ o.dst = some k) := fun hh => by
      have := h (i, o, r) List.mem_cons_self hh.2
      rw [this] at hh; cases hh.1
    simp only [G, if_neg h0]
    exact G_skip l L k (fun q hq => h q (List.mem_cons_of_mem _ hq))

theorem G_congr {base : Nat → Option AV} : ∀ (l : List En) (L L' : Nat → Bool) (k : Nat), (∀ q ∈ l, q.2.1.dst = some k → L q.1 = L' q.1) → G base l L k = G base l L' k
  | [], _, _, _, _ => rfl
  | (i, o, r) :: l, L, L', k, h => by
    have ih := G_congr (base := base) l L L' k (fun q hq => h q (List.mem_cons_of_mem _ hq))
    simp only [G, ih]
    by_cases hd : o.dst = some k
    · rw [h (i, o, r) List.mem_cons_self hd]
    · simp only [hd, and_false, if_false]

theorem G_lex : ∀ (l : List En) (L : Nat → Bool) (st : St) (n : Nat), Uniq l → (∀ p q, l[p]? = some q → (L q.1 = true ↔ p < n)) → n ≤ l.length →
    ∀ k, G (fun k => get k st.regs) l L k = get k (lex st (l.take n)).regs
  | [], L, st, n, _, _, hn, k => by
    have : n = 0 := by simpa using hn
    subst this
    rfl
  | (i, o, r) :: l, L, st, n, hu, h1, hn, k => by
    cases n with
    | zero =>
      simp only [List.take_zero, lex]
      exact G_skip _ L k (fun q hq _ => by
        obtain ⟨p, hp⟩ := List.mem_iff_getElem?.1 hq
        have := h1 p q hp
        cases hL : L q.1 with
        | false => rfl
        | true => have := this.1 hL; omega)
    | succ n =>
      have h0 : L i = true := (h1 0 (i, o, r) rfl).2 (by omega)
      simp only [G, h0, true_and, List.take_succ_cons, lex]
      have ih := G_lex l L (outc o r st) n hu.2 (fun p q hp => by have := h1 (p + 1) q (by simpa using hp); exact ⟨fun h => by have := this.1 h; omega, fun h => this.2 (by omega)⟩) (by simpa using hn) k
      split
      · rename_i hd
        rw [← ih]
        have hskip : G (fun k => get k (outc o r st).regs) l L k = get k (outc o r st).regs := G_skip l L k (fun q hq hqd => absurd hqd ((hu.1 q hq).2 k hd))
        rw [hskip, get_outc, if_pos hd]
      · rename_i hd
        rw [← ih]
        have hbase : ∀ (l : List En), G (fun k => get k st.regs) l L k = G (fun k => get k (outc o r st).regs) l L k := by
          intro l
          induction l with
          | nil => simp only [G, get_outc, if_neg hd]
          | cons q l ih2 => obtain ⟨j, o', r'⟩ := q; simp only [G, ih2]
        exact hbase l

theorem G_set {base : Nat → Option AV} : ∀ (l : List En) (L L' : Nat → Bool) (i : Nat) (o : Oper) (r : Option AV), Uniq l → (i, o, r) ∈ l → (∀ m, L' m = if m = i then true else L m) →
    ∀ k, G base l L' k = if o.dst = some k then some (r.getD (.p (.tup []))) else G base l L k
  | [], L, L', i, o, r, _, hi, _, k => by simp at hi
  | (i', o', r') :: l, L, L', i, o, r, hu, hi, hL, k => by
    rcases List.mem_cons.1 hi with he | hi2
    · obtain ⟨rfl, rfl, rfl⟩ : i = i' ∧ o = o' ∧ r = r' := by simpa using he
      have h0 : L' i = true := by rw [hL]; simp
      have hrest : G base l L' k = G base l L k := G_congr l L' L k (fun q hq _ => by rw [hL, if_neg]; have := (hu.1 q hq).1; omega)
      simp only [G, h0, true_and]
      split
      · rfl
      · rename_i hd
        rw [hrest, if_neg (fun hh => hd hh.2)]
    · have hlt := (hu.1 _ hi2).1
      have hj : L' i' = L i' := by rw [hL, if_neg]; exact Nat.ne_of_lt hlt
      have ih := G_set (base := base) l L L' i o r hu.2 hi2 hL k
      simp only [G, hj]
      split
      · rename_i hh
        rw [if_neg ((hu.1 _ hi2).2 k hh.2)]
      · exact ih

def HO (P : Program) (base : Nat → Option Obj) : List En → (Nat → Bool) → Nat → Option Obj
  | [], _, e => base e
  | (i, o, some _) :: l, L, e => match allocD P o with
    | some (d, ob) => if L i = true ∧ d = e then some ob else HO P base l L e
    | none => HO P base l L e
  | (_, _, none) :: l, L, e => HO P base l L e

theorem allocD_dst {o : Oper} {d : Nat} {ob : Obj} (h : allocD P o = some (d, ob)) : o.dst = some d := by
  unfold allocD at h
  split at h
  · rename_i T d' hop hdst
    obtain ⟨zs, _, he⟩ := Option.map_eq_some_iff.1 h
    simp only [Prod.mk.injEq] at he
    rw [hdst, he.1]
  · cases h

theorem HO_all {base : Nat → Option Obj} : ∀ (l : List En) (objs : List (Nat × Obj)) (L : Nat → Bool), (∀ e, base e = get e objs) → (∀ q ∈ l, (allocD P q.2.1).isSome = true → L q.1 = true) → ∀ e, HO P base l L e = get e (pendOf P l ++ objs)
  | [], objs, L, hb, _, e => hb e
  | (i, o, some v) :: l, objs, L, hb, hL, e => by
    have ih := HO_all l objs L hb (fun q hq => hL q (List.mem_cons_of_mem _ hq)) e
    simp only [HO, pendOf]
    cases hal : allocD P o with
    | none => exact ih
    | some x =>
      obtain ⟨d, ob⟩ := x
      have h0 : L i = true := hL (i, o, some v) List.mem_cons_self (by simp [hal])
      simp only [h0, true_and, List.cons_append, get]
      by_cases he : d = e
      · simp [he]
      · have he' : ¬ e = d := fun h => he h.symm
        simp only [he, if_false]
        exact ih
  | (i, o, none) :: l, objs, L, hb, hL, e => by
    have ih := HO_all l objs L hb (fun q hq => hL q (List.mem_cons_of_mem _ hq)) e
    simp only [HO, pendOf]
    exact ih

theorem HO_none {base : Nat → Option Obj} : ∀ (l : List En) (L : Nat → Bool), (∀ q ∈ l, (allocD P q.2.1).isSome = true → L q.1 = false) → ∀ e, HO P base l L e = base e
  | [], _, _, _ => rfl
  | (i, o, some v) :: l, L, hL, e => by
    have ih := HO_none (base := base) l L (fun q hq => hL q (List.mem_cons_of_mem _ hq)) e
    simp only [HO]
    cases hal : allocD P o with
    | none => exact ih
    | some x =>
      have h0 : L i = false := hL (i, o, some v) List.mem_cons_self (by simp [hal])
      simp only [h0, Bool.false_eq_true, false_and, if_false]; exact ih
  | (i, o, none) :: l, L, hL, e => by
    simp only [HO]
    exact HO_none (base := base) l L (fun q hq => hL q (List.mem_cons_of_mem _ hq)) e

theorem HO_congr {base : Nat → Option Obj} : ∀ (l : List En) (L L' : Nat → Bool), (∀ q ∈ l, L q.1 = L' q.1) → ∀ e, HO P base l L e = HO P base l L' e
  | [], _, _, _, _ => rfl
  | (i, o, some v) :: l, L, L', h, e => by
    simp only [HO, h (i, o, some v) List.mem_cons_self, HO_congr (base := base) l L L' (fun q hq => h q (List.mem_cons_of_mem _ hq)) e]
  | (i, o, none) :: l, L, L', h, e => by
    simp only [HO, HO_congr (base := base) l L L' (fun q hq => h q (List.mem_cons_of_mem _ hq)) e]

theorem HO_set {base : Nat → Option Obj} : ∀ (l : List En) (L L' : Nat → Bool) (i : Nat) (o : Oper) (r : Option AV), Uniq l → (i, o, r) ∈ l → (∀ m, L' m = if m = i then true else L m) →
    ∀ e, HO P base l L' e = match r, allocD P o with
      | some _, some (d, ob) => if d = e then some ob else HO P base l L e
      | _, _ => HO P base l L e
  | [], L, L', i, o, r, _, hi, _, e => by simp at hi
  | (i', o', r') :: l, L, L', i, o, r, hu, hi, hL, e => by
    rcases List.mem_cons.1 hi with he | hi2
    · obtain ⟨rfl, rfl, rfl⟩ : i = i' ∧ o = o' ∧ r = r' := by simpa using he
      have h0 : L' i = true := by rw [hL]; simp
      have hrest := HO_congr (P := P) (base := base) l L' L (fun q hq => by rw [hL, if_neg]; have := (hu.1 q hq).1; omega) e
      cases r with
      | none => simp only [HO]; exact hrest
      | some v =>
        simp only [HO]
        cases hal : allocD P o with
        | none => exact hrest
        | some x =>
          obtain ⟨d, ob⟩ := x
          simp only [h0, true_and, hrest]
          split
          · rfl
          · rename_i he
            simp [he]
    · have hlt := (hu.1 _ hi2).1
      have hj : L' i' = L i' := by rw [hL, if_neg]; exact Nat.ne_of_lt hlt
      have ih := HO_set (base := base) l L L' i o r hu.2 hi2 hL e
      cases r' with
      | none => simp only [HO, ih]
      | some v =>
        simp only [HO]
        cases hal : allocD P o' with
        | none => exact ih
        | some x =>
          obtain ⟨d', ob'⟩ := x
          dsimp only
          rw [hj, ih]
          cases r with
          | none => rfl
          | some v2 =>
            cases hal2 : allocD P o with
            | none => rfl
            | some x2 =>
              obtain ⟨d, ob⟩ := x2
              dsimp only
              have hne : d' ≠ d := fun he => by
                subst he
                exact (hu.1 (i, o, some v2) hi2).2 d' (allocD_dst hal) (allocD_dst (o := o) hal2)
              by_cases h1 : L i' = true ∧ d' = e
              · have : ¬ d = e := fun h => hne (h1.2.trans h.symm)
                simp [h1, this]
              · by_cases h2 : d = e
                · simp [h1, h2]
                · simp [h1, h2]

theorem Inv.regs {st : St} {regs : List (Nat × AV)} {a : Act} {w : World} (h : Inv X st a w) (hr : ∀ k v, get k regs = some v → get k st.regs = some v) : Inv X { st with regs := regs } a w := by
  obtain ⟨γ, U, V, S⟩ := h
  exact ⟨γ, U, V, ⟨S.env, S.size, fun k v hk => S.reg k v (hr k v hk), S.outs, S.obj, S.sep, S.own, S.zone, S.ltU, S.ltV, S.defs, fun k n cs hk => S.lits k n cs (hr k _ hk), S.kept⟩⟩

def unl (listed : Array Bool) : Nat := listed.toList.count false
theorem count_set : ∀ (l : List Bool) (i : Nat), l[i]? = some false → (l.set i true).count false + 1 = l.count false
  | [], i, h => by simp at h
  | b :: l, 0, h => by simp only [List.getElem?_cons_zero, Option.some.injEq] at h; subst h; simp
  | b :: l, i + 1, h => by
    simp only [List.getElem?_cons_succ] at h
    have := count_set l i h
    simp only [List.set_cons_succ, List.count_cons]
    omega
theorem unl_set {listed : Array Bool} {i : Nat} (h : listed[i]? = some false) : unl (listed.setIfInBounds i true) + 1 = unl listed := by
  unfold unl
  rw [Array.toList_setIfInBounds]
  exact count_set _ _ (by simpa using h)
theorem unl_zero {listed : Array Bool} (h : unl listed = 0) : ∀ i, i < listed.size → listed[i]? = some true := by
  intro i hi
  have h2 : ∀ b ∈ listed.toList, b = true := by
    intro b hb
    cases b
    · exact absurd h (by unfold unl; exact Nat.pos_iff_ne_zero.1 (List.count_pos_iff.2 hb))
    · rfl
  have := h2 listed[i] (by simp)
  rw [Array.getElem?_eq_getElem hi, this]

theorem edgeTo_listed {o : Oper} {j : Nat} {listed : Array Bool} (he : edgeTo o j = true) (hr : ∀ e ∈ o.after, Region.binds .any e = true → listed.getD e.on false = true) : listed.getD j false = true := by
  unfold edgeTo at he
  rw [← Array.any_toList] at he
  obtain ⟨e, hm, hb⟩ := List.any_eq_true.1 he
  simp only [Bool.and_eq_true, beq_iff_eq] at hb
  rw [← hb.1]
  exact hr e (Array.mem_toList_iff.1 hm) hb.2

theorem zipIdx_all {α : Type} {p : α × Nat → Bool} {l : List α} (h : l.zipIdx.all p = true) {i : Nat} {x : α} (hi : l[i]? = some x) : p (x, i) = true := by
  refine List.all_eq_true.1 h (x, i) ?_
  rw [List.mem_zipIdx_iff_getElem?]
  simpa using hi

theorem drawOk_pair {ops : List Oper} (h : drawOk ops = true) {i j : Nat} {x y : Oper} (hij : i < j) (hx : ops[i]? = some x) (hy : ops[j]? = some y) :
    pairOk ops.toArray i j x y = true ∧ ∀ d, x.dst = some d → y.dst ≠ some d := by
  unfold drawOk at h
  simp only [Bool.and_eq_true] at h
  have h1 := zipIdx_all (zipIdx_all h.1 hy) hx
  simp only [Bool.or_eq_true, decide_eq_true_eq, Bool.and_eq_true] at h1
  rcases h1 with h1 | ⟨h1, h2⟩
  · omega
  · refine ⟨h1, fun d hd => ?_⟩
    rw [hd] at h2
    simpa using h2
theorem drawOk_edge {ops : List Oper} (h : drawOk ops = true) {j : Nat} {y : Oper} (hy : ops[j]? = some y) : ∀ e ∈ y.after, Region.binds .any e = true → e.on < j := by
  unfold drawOk at h
  simp only [Bool.and_eq_true] at h
  have h1 := zipIdx_all h.2 hy
  intro e he hb
  have h2 := (Array.all_eq_true_iff_forall_mem.1 h1) e he
  rw [hb] at h2
  simpa using h2
theorem barrier_lt {ops : List Oper} {b : Nat × List Nat} (h : barrier ops b = true) {j : Nat} {y o : Oper} (hy : ops[j]? = some y) (ho : ops[b.1]? = some o) (hij : j < b.1) (hfl : j ∉ b.2) : edge3 ops o j = true := by
  have := zipIdx_all h hy
  simpa [hij, ho, hfl] using this
theorem barrier_gt {ops : List Oper} {b : Nat × List Nat} (h : barrier ops b = true) {j : Nat} {y : Oper} (hy : ops[j]? = some y) (hij : b.1 < j) : edge3 ops y b.1 = true := by
  have := zipIdx_all h hy
  simpa [hij, Nat.lt_asymm hij] using this
theorem edge2_listed {ops : List Oper} {o : Oper} {j : Nat} {listed : Array Bool} (he : edge2 ops o j = true) (hr : ∀ e ∈ o.after, Region.binds .any e = true → listed.getD e.on false = true)
    (hdc : ∀ j o, ops[j]? = some o → listed.getD j false = true → ∀ e ∈ o.after, Region.binds .any e = true → listed.getD e.on false = true) : listed.getD j false = true := by
  unfold edge2 at he
  rw [Bool.or_eq_true] at he
  rcases he with he | he
  · exact edgeTo_listed he hr
  · rw [← Array.any_toList] at he
    obtain ⟨e, hm, hb⟩ := List.any_eq_true.1 he
    simp only [Bool.and_eq_true] at hb
    have h1 := hr e (Array.mem_toList_iff.1 hm) hb.1
    have h2 := hb.2
    split at h2
    · rename_i o' ho'
      exact edgeTo_listed h2 (fun e' he' hb' => hdc _ _ ho' h1 e' he' hb')
    · cases h2
theorem edge3_listed {ops : List Oper} {o : Oper} {j : Nat} {listed : Array Bool} (he : edge3 ops o j = true) (hr : ∀ e ∈ o.after, Region.binds .any e = true → listed.getD e.on false = true)
    (hdc : ∀ j o, ops[j]? = some o → listed.getD j false = true → ∀ e ∈ o.after, Region.binds .any e = true → listed.getD e.on false = true) : listed.getD j false = true := by
  unfold edge3 at he
  rw [Bool.or_eq_true] at he
  rcases he with he | he
  · exact edge2_listed he hr hdc
  · rw [← Array.any_toList] at he
    obtain ⟨e, hm, hb⟩ := List.any_eq_true.1 he
    simp only [Bool.and_eq_true] at hb
    have h1 := hr e (Array.mem_toList_iff.1 hm) hb.1
    have h2 := hb.2
    split at h2
    · rename_i o' ho'
      exact edge2_listed h2 (fun e' he' hb' => hdc _ _ ho' h1 e' he' hb') hdc
    · cases h2

theorem G_cases {base : Nat → Option AV} : ∀ (l : List En) (L : Nat → Bool) (k : Nat) (u : AV), G base l L k = some u → base k = some u ∨ u = .p (.tup []) ∨ ∃ i o, (i, o, some u) ∈ l ∧ o.dst = some k ∧ L i = true
  | [], L, k, u, h => .inl h
  | (i, o, r) :: l, L, k, u, h => by
    simp only [G] at h
    split at h
    · rename_i hc
      cases r with
      | none => exact .inr (.inl (Option.some.inj h).symm)
      | some r =>
        obtain rfl := Option.some.inj h
        exact .inr (.inr ⟨i, o, List.mem_cons_self, hc.2, hc.1⟩)
    · rcases G_cases l L k u h with h1 | h1 | ⟨q, o', h1, h2, h3⟩
      · exact .inl h1
      · exact .inr (.inl h1)
      · exact .inr (.inr ⟨q, o', List.mem_cons_of_mem _ h1, h2, h3⟩)
theorem HO_cases {base : Nat → Option Obj} : ∀ (l : List En) (L : Nat → Bool) (e : Nat) (ob : Obj), HO P base l L e = some ob → base e = some ob ∨ ∃ o, allocD P o = some (e, ob)
  | [], L, e, ob, h => .inl h
  | (i, o, none) :: l, L, e, ob, h => by
    simp only [HO] at h
    exact HO_cases l L e ob h
  | (i, o, some v) :: l, L, e, ob, h => by
    simp only [HO] at h
    split at h
    · rename_i d ob' hal
      split at h
      · rename_i hc
        obtain rfl := Option.some.inj h
        exact .inr ⟨o, by rw [← hc.2]; exact hal⟩
      · exact HO_cases l L e ob h
    · exact HO_cases l L e ob h
theorem HO_base {base : Nat → Option Obj} {ob : Obj} {e : Nat} : ∀ (l : List En) (L : Nat → Bool), base e = some ob → (∀ (i : Nat) (o : Oper) (v : AV) (d : Nat) (ob' : Obj), (i, o, some v) ∈ l → allocD P o = some (d, ob') → d ≠ e) → HO P base l L e = some ob
  | [], L, h, _ => h
  | (i, o, none) :: l, L, h, hn => by
    simp only [HO]
    exact HO_base l L h (fun i' o' v d ob' hq => hn i' o' v d ob' (List.mem_cons_of_mem _ hq))
  | (i, o, some v) :: l, L, h, hn => by
    have ih := HO_base l L h (fun i' o' v d ob' hq => hn i' o' v d ob' (List.mem_cons_of_mem _ hq))
    simp only [HO]
    split
    · rename_i d ob' hal
      rw [if_neg (fun hc => hn i o v d ob' List.mem_cons_self hal hc.2)]
      exact ih
    · exact ih

theorem zero_kill (d : Nat) : ∀ zs : List Value, AV.kills d (zeroA zs) = zeroA zs
  | [] => rfl
  | z :: zs => by
    have := zero_kill d zs
    simp only [zeroA, List.map_cons, AV.kills, AV.kill] at this ⊢
    rw [this]
theorem alloc_kill {o : Oper} {e d : Nat} {ob : Obj} (h : allocD P o = some (e, ob)) : ob.kill d = ob := by
  unfold allocD at h
  split at h
  · obtain ⟨zs, _, he⟩ := Option.map_eq_some_iff.1 h
    simp only [Prod.mk.injEq] at he
    rw [← he.2]
    simp only [Obj.kill, zero_kill]
  · cases h

theorem Inv.le {st st' : St} {a : Act} {w : World} (h : Inv X st a w) (hr : ∀ k v, get k st'.regs = some v → get k st.regs = some v) (ho : ∀ k v, get k st'.objs = some v → get k st.objs = some v) (hl : st'.log = st.log) (hout : st'.outer = st.outer) : Inv X st' a w := by
  obtain ⟨γ, U, V, S⟩ := h
  have hlive : ∀ b, live γ st'.objs b → live γ st.objs b := by rintro b ⟨d, ob, h1, h2⟩; exact ⟨d, ob, ho d ob h1, h2⟩
  have hM : ∀ b, Mut V γ st'.objs b → Mut V γ st.objs b := fun b hb => hb.imp id (hlive b)
  have hless : Less w (Mut V γ st'.objs) (Mut V γ st.objs) := fun b _ _ _ _ h => hM b h
  refine ⟨γ, U, V, ?_, S.size, ?_, ?_, ?_, ?_, ?_, S.zone, S.ltU, S.ltV, S.defs, fun k n cs hk => S.lits k n cs (hr k _ hk), S.kept⟩
  · rw [hl]; exact S.env
  · exact fun k v hk => RA.keep (fun _ _ _ _ _ _ => rfl) hless v _ (S.reg k v (hr k v hk))
  · rw [hout]; exact OutsOk.mono (Same.refl _ _) (fun b _ hb => hM b hb) S.outs
  · exact fun d o hd => (S.obj d o (ho d o hd)).keep (fun _ _ _ _ _ _ => rfl) hless (fun _ _ => rfl)
  · exact fun d d' o o' b h1 h2 h3 h4 => S.sep d d' o o' b (ho d o h1) (ho d' o' h2) h3 h4
  · exact fun b hb => S.own b (hlive b hb)

theorem ev_looks {ops : Array Oper} {o : Oper} {regs regs' : List (Nat × AV)} (h : ∀ t ∈ o.looksAt ops, get t regs = get t regs') : ∀ x ∈ o.op.operands, ev regs x = ev regs' x := by
  intro x hx
  cases x with
  | tmp t =>
    refine h t ?_
    simp only [Oper.looksAt, List.mem_append, List.mem_filterMap]
    exact .inl ⟨.tmp t, Array.mem_toList_iff.2 hx, rfl⟩
  | const v => rfl
  | func f => rfl
  | global g => rfl

theorem guardA_looks {ops : List Oper} {o : Oper} {regs regs' : List (Nat × AV)} (h : ∀ t ∈ o.looksAt ops.toArray, get t regs = get t regs') : guardA ops regs o.guard = guardA ops regs' o.guard := by
  unfold guardA
  cases hg : o.guard with
  | none => rfl
  | some q =>
    obtain ⟨j, want⟩ := q
    simp only
    cases hd : (ops[j]?).bind (·.dst) with
    | none => rfl
    | some d =>
      simp only
      rw [h d ?_]
      simp only [Oper.looksAt, List.mem_append, hg]
      right
      simp [hd]

theorem Facts.get {ops : List Oper} {ds : List Nat} : ∀ {seg : List En} {st : St}, Facts X ops ds st seg → ∀ {p i : Nat} {o : Oper} {r : Option AV}, seg[p]? = some (i, o, r) → Fact X ops ds o r (lex st (seg.take p))
  | [], _, _, p, i, o, r, hi => by simp at hi
  | (i', o', r') :: l, st, h, p, i, o, r, hi => by
    cases p with
    | zero =>
      simp only [List.getElem?_cons_zero, Option.some.injEq, Prod.mk.injEq] at hi
      obtain ⟨rfl, rfl, rfl⟩ := hi
      exact h.1
    | succ p =>
      simp only [List.getElem?_cons_succ] at hi
      simp only [List.take_succ_cons, lex]
      exact Facts.get h.2 hi
theorem Facts.mem {ops : List Oper} {ds : List Nat} {seg : List En} {st : St} (h : Facts X ops ds st seg) {i : Nat} {o : Oper} {r : Option AV} (hi : (i, o, r) ∈ seg) : ∃ p, Fact X ops ds o r (lex st (seg.take p)) := by
  obtain ⟨p, hp⟩ := List.mem_iff_getElem?.1 hi
  exact ⟨p, h.get hp⟩

theorem uniq_of {ops : List Oper} (h : drawOk ops = true) : ∀ (seg : List En), (∀ q ∈ seg, ops[q.1]? = some q.2.1) → List.Pairwise (fun a b : En => a.1 < b.1) seg → Uniq seg
  | [], _, _ => trivial
  | (i, o, r) :: l, hops, hp => by
    rw [List.pairwise_cons] at hp
    refine ⟨fun q hq => ⟨hp.1 q hq, fun k hk => ?_⟩, uniq_of h l (fun q hq => hops q (List.mem_cons_of_mem _ hq)) hp.2⟩
    exact (drawOk_pair h (hp.1 q hq) (hops (i, o, r) List.mem_cons_self) (hops q (List.mem_cons_of_mem _ hq))).2 k hk

theorem uniq_writer {ops : List Oper} (h : drawOk ops = true) {i j : Nat} {x y : Oper} {k : Nat} (hx : ops[i]? = some x) (hy : ops[j]? = some y) (hxk : x.dst = some k) (hyk : y.dst = some k) : i = j := by
  rcases Nat.lt_trichotomy i j with h1 | h1 | h1
  · exact absurd hyk ((drawOk_pair h h1 hx hy).2 k hxk)
  · exact h1
  · exact absurd hxk ((drawOk_pair h h1 hy hx).2 k hyk)

theorem inRow_mem : ∀ (seg : List En) (i : Nat) (rest : List Oper) (ops : List Oper), InRow i seg → ops.drop i = seg.map (·.2.1) ++ rest →
    (∀ q ∈ seg, ops[q.1]? = some q.2.1 ∧ i ≤ q.1 ∧ q.1 < i + seg.length) ∧ List.Pairwise (fun a b : En => a.1 < b.1) seg ∧ (∀ j, i ≤ j → j < i + seg.length → ∃ q ∈ seg, q.1 = j) ∧ ops.drop (i + seg.length) = rest
  | [], i, rest, ops, _, hd => ⟨fun q hq => by simp at hq, List.Pairwise.nil, fun j h1 h2 => by simp at h2; omega, by simpa using hd⟩
  | (j, o, r) :: l, i, rest, ops, hrow, hd => by
    obtain ⟨rfl, hrow⟩ := hrow
    have h0 : ops[j]? = some o := by
      have := congrArg (fun l => l[0]?) hd
      simpa using this
    have hrest : ops.drop (j + 1) = l.map (·.2.1) ++ rest := by
      have := congrArg List.tail hd
      simpa using this
    obtain ⟨h1, h2, h3, h4⟩ := inRow_mem l (j + 1) rest ops hrow hrest
    refine ⟨fun q hq => ?_, List.Pairwise.cons (fun q hq => by have := (h1 q hq).2.1; simp only; omega) h2, fun m hm1 hm2 => ?_, ?_⟩
    · rcases List.mem_cons.1 hq with rfl | hq
      · exact ⟨h0, Nat.le_refl _, by simp⟩
      · have := h1 q hq
        exact ⟨this.1, by omega, by simp only [List.length_cons]; omega⟩
    · rcases Nat.lt_or_ge j m with h | h
      · obtain ⟨q, hq, he⟩ := h3 m h (by simp only [List.length_cons] at hm2; omega)
        exact ⟨q, List.mem_cons_of_mem _ hq, he⟩
      · exact ⟨(j, o, r), List.mem_cons_self, by simp only; omega⟩
    · rw [← h4]
      simp only [List.length_cons]
      congr 1
      omega

theorem risingB_spec {n : Nat} : ∀ {l : List Nat}, risingB n l = true → (∀ j ∈ l, j < n) ∧ List.Pairwise (· < ·) l
  | [], _ => ⟨fun j hj => by simp at hj, List.Pairwise.nil⟩
  | [j], h => by
    simp only [risingB, decide_eq_true_eq] at h
    exact ⟨fun k hk => by simp only [List.mem_singleton] at hk; omega, List.pairwise_singleton _ _⟩
  | j :: k :: l, h => by
    simp only [risingB, Bool.and_eq_true, decide_eq_true_eq] at h
    obtain ⟨h1, h2⟩ := risingB_spec h.2
    rw [List.pairwise_cons] at h2 ⊢
    refine ⟨fun m hm => ?_, fun m hm => ?_, List.pairwise_cons.2 h2⟩
    · rcases List.mem_cons.1 hm with rfl | hm
      · have := h1 k List.mem_cons_self; omega
      · exact h1 m hm
    · rcases List.mem_cons.1 hm with rfl | hm
      · exact h.1
      · have := h2.1 m hm; omega

theorem flEnts_spec {ops : List Oper} : ∀ (fl : List Nat) (st : St) (es : List En), flEnts P ops fl st = some es → es.map (·.1) = fl ∧ (∀ q ∈ es, ops[q.1]? = some q.2.1 ∧ allocD P q.2.1 = none ∧ ∃ v, q.2.2 = some v) ∧ pendOf P es = [] ∧
    ((∀ j ∈ fl, ∀ f, ops[j]? = some f → dstOk X f = true) → Facts X ops [] st es) ∧ dstsAt ops fl = dstsOf es
  | [], st, es, h => by
    simp only [flEnts, Option.some.injEq] at h
    subst h
    exact ⟨rfl, fun q hq => by simp at hq, rfl, fun _ => trivial, rfl⟩
  | j :: l, st, es, h => by
    simp only [flEnts] at h
    split at h
    · rename_i f hf
      split at h
      · rename_i hc
        split at h
        · rename_i t v ht hv
          obtain ⟨es', he, rfl⟩ := Option.map_eq_some_iff.1 h
          obtain ⟨h1, h2, h3, h4, h5⟩ := flEnts_spec l _ es' he
          refine ⟨by simp [h1], fun q hq => ?_, ?_, fun hd => ⟨?_, ?_⟩, ?_⟩
          · rcases List.mem_cons.1 hq with rfl | hq
            · exact ⟨hf, hc.2.2, v, rfl⟩
            · exact h2 q hq
          · simp only [pendOf, hc.2.2, h3]
          · simp only [Fact, hc.2.2]
            exact ⟨by simp [guardA, hc.1], hd j List.mem_cons_self f hf, .inl ⟨hc.2.1, hv⟩, free_nil v⟩
          · exact h4 (fun k hk => hd k (List.mem_cons_of_mem _ hk))
          · simp only [dstsAt, hf, dstsOf, h5]
        · cases h
      · cases h
    · cases h

theorem get_delAll : ∀ (ts : List Nat) (r : List (Nat × AV)) (k : Nat), get k (delAll ts r) = if k ∈ ts then none else get k r
  | [], r, k => by simp [delAll]
  | t :: ts, r, k => by
    simp only [delAll, get_delAll ts, List.mem_cons]
    by_cases h1 : k ∈ ts
    · simp [h1]
    · by_cases h2 : k = t
      · subst h2; simp [h1, get_del_same]
      · simp [h1, h2, get_del_ne (Ne.symm h2)]
theorem mem_dstsOf : ∀ (es : List En) (k : Nat), k ∈ dstsOf es ↔ ∃ q ∈ es, q.2.1.dst = some k
  | [], k => by simp [dstsOf]
  | (i, o, r) :: l, k => by
    simp only [dstsOf, List.mem_append, mem_dstsOf l, List.mem_cons, exists_eq_or_imp]
    constructor
    · rintro (h | h)
      · exact .inl (by simpa using h)
      · exact .inr h
    · rintro (h | h)
      · exact .inl (by simpa using h)
      · exact .inr h
theorem sameVals_get : ∀ {es : List En} {regs : List (Nat × AV)}, sameVals es regs → ∀ q ∈ es, ∀ t, q.2.1.dst = some t → get t regs = q.2.2
  | [], _, _, q, hq, _, _ => by simp at hq
  | (i, o, r) :: l, regs, h, q, hq, t, ht => by
    rcases List.mem_cons.1 hq with rfl | hq
    · exact h.1 t ht
    · exact sameVals_get h.2 q hq t ht

theorem storeO_congr {regs regs' : List (Nat × AV)} {objs : List (Nat × Obj)} {op : Go.Op} (h : ∀ x ∈ op.operands, ev regs x = ev regs' x) : storeO P regs objs op = storeO P regs' objs op := by
  unfold storeO
  split
  · rename_i T x v
    simp only [Op.operands] at h
    rw [h x (by simp), h v (by simp)]
  · rfl

theorem Ends.flush_regs {st : St} {pend : List (Nat × Obj)} : (flush pend st).regs = st.regs := rfl


theorem any_sound {ops : List Oper} {bs : List (Nat × List Nat)} {K : St → Prop} {Q : Exit → Act → World → Prop} (hok : drawOk ops = true) (hbs : ∀ i fl, barF bs i = some fl → barrier ops (i, fl) = true ∧ risingB i fl = true ∧ ∀ j ∈ fl, ∀ f, ops[j]? = some f → dstOk X f = true)
    (hQ : ∀ a w st', K st' → Inv X st' a w → Q .normal a w) :
    ∀ (fuel : Nat) (listed : Array Bool) (t : Nat) (ds : List Nat) (st : St) (seg : List En) (tail : List Oper) (regs : List (Nat × AV)) (objs : List (Nat × Obj)) (a : Act) (w : World),
      listed.size = ops.length → unl listed ≤ fuel → ops.drop t = tail → t ≤ ops.length → List.Pairwise (fun a b : En => a.1 < b.1) seg → (∀ q ∈ seg, ops[q.1]? = some q.2.1 ∧ q.1 < t) →
      (∀ j, j < t → (∀ q ∈ seg, q.1 ≠ j) → listed.getD j false = true) → (∀ j, t ≤ j → listed.getD j false = false) → Facts X ops ds st seg → Ends X ops bs ds K t tail (pendOf P seg) (lex st seg) →
      (∀ j o, ops[j]? = some o → listed.getD j false = true → ∀ e ∈ o.after, Region.binds .any e = true → listed.getD e.on false = true) →
      freeSt ds st = true → Inv X { st with regs := regs, objs := objs } a w → (∀ k, get k regs = G (fun k => get k st.regs) seg (fun j => listed.getD j false) k) →
      (∀ e, get e objs = HO P (fun e => get e st.objs) seg (fun j => listed.getD j false) e) →
      wpAnyIn (fence X) 0 P .any ops.toArray Q fuel listed a w := by
  intro fuel
  induction fuel with
  | zero =>
    intro listed t ds st seg tail regs objs a w hsz hun hdrop htle hpw hops hdone htl hfacts hends hdc hfree hi hget hgeto
    have hall := unl_zero (Nat.le_zero.1 hun)
    have hlt : ∀ j, j < ops.length → listed.getD j false = true := fun j hj => by
      have := hall j (by omega)
      rw [Array.getD_eq_getD_getElem?, this]; rfl
    have hu := uniq_of hok seg (fun q hq => (hops q hq).1) hpw
    have hready : Region.ready .any ops.toArray listed = [] := by
      refine List.eq_nil_iff_forall_not_mem.2 (fun j hj => ?_)
      obtain ⟨h1, o, ho, _⟩ := mem_ready.1 hj
      have hj2 : j < ops.length := by
        have := (Array.getElem?_eq_some_iff.1 ho).1
        simpa using this
      have := hall j (by omega)
      rw [Array.getD_eq_getD_getElem?, this] at h1
      cases h1
    refine ⟨hready, ?_⟩
    rcases hends with ⟨_, hk⟩ | ⟨o, rest', he, _⟩
    · refine hQ a w _ hk ?_
      have hg := G_lex seg (fun j => listed.getD j false) st seg.length hu (fun p q hp => ⟨fun _ => (List.getElem?_eq_some_iff.1 hp).1, fun _ => hlt q.1 (by have := (hops q (List.mem_of_getElem? hp)).2; omega)⟩) (Nat.le_refl _)
      rw [List.take_length] at hg
      have hgo := HO_all (P := P) (base := fun e => get e st.objs) seg st.objs (fun j => listed.getD j false) (fun _ => rfl) (fun q hq _ => hlt q.1 (by have := (hops q hq).2; omega))
      obtain ⟨r1, r2, r3⟩ := lex_rest seg st
      exact hi.le (st' := flush (pendOf P seg) (lex st seg)) (fun k v hk => by rw [hget k, hg k]; exact hk) (fun k v hk => by rw [hgeto k, hgo k]; simpa [flush, r1] using hk) r2 r3
    · exfalso
      have hlen := congrArg List.length hdrop
      rw [he] at hlen
      simp at hlen
      have h1 := hlt t (by omega)
      rw [htl t (Nat.le_refl _)] at h1
      cases h1
  | succ fuel ih =>
    intro listed t ds st seg tail regs objs a w hsz hun hdrop htle hpw hops hdone htl hfacts hends hdc hfree hi hget hgeto
    have hu := uniq_of hok seg (fun q hq => (hops q hq).1) hpw
    have hopt : ∀ o rest', tail = o :: rest' → ops[t]? = some o := by
      intro o rest' he
      have := congrArg (fun l => l[0]?) hdrop
      simp only [List.getElem?_drop, he] at this
      simpa using this
    -- where all that writes a slot is listed, the slot is as behind the whole segment
    have hfull : ∀ k, (∀ q ∈ seg, q.2.1.dst = some k → listed.getD q.1 false = true) → get k regs = get k (lex st seg).regs := by
      intro k hk
      have hg := G_lex seg (fun _ => true) st seg.length hu (fun p q hp => ⟨fun _ => (List.getElem?_eq_some_iff.1 hp).1, fun _ => rfl⟩) (Nat.le_refl _) k
      rw [List.take_length] at hg
      rw [hget k, ← hg]
      exact G_congr seg _ _ k hk
    -- all of the segment listed: the state is the lexical one
    have hlex : (∀ q ∈ seg, listed.getD q.1 false = true) → Inv X (flush (pendOf P seg) (lex st seg)) a w := by
      intro hq
      have hgo := HO_all (P := P) (base := fun e => get e st.objs) seg st.objs (fun j => listed.getD j false) (fun _ => rfl) (fun q h _ => hq q h)
      obtain ⟨r1, r2, r3⟩ := lex_rest seg st
      exact hi.le (st' := flush (pendOf P seg) (lex st seg)) (fun k v hk => by rw [hfull k (fun q h _ => hq q h)]; exact hk) (fun k v hk => by rw [hgeto k, hgo k]; simpa [flush, r1] using hk) r2 r3
    refine ⟨fun hready => ?_, fun i hmem => ?_⟩
    · -- none is ready: all are listed
      have hall : ∀ j, j < ops.length → listed.getD j false = true := by
        intro j
        induction j using Nat.strongRecOn with
        | _ j ihj =>
          intro hj
          cases hl : listed.getD j false with
          | true => rfl
          | false =>
            exfalso
            obtain ⟨o, ho⟩ : ∃ o, ops[j]? = some o := ⟨ops[j], List.getElem?_eq_getElem hj⟩
            have hm : j ∈ Region.ready .any ops.toArray listed := mem_ready.2 ⟨by
              rw [Array.getD_eq_getD_getElem?, Array.getElem?_eq_getElem (by omega)] at hl ⊢
              exact hl, o, by simpa using ho, fun e he hbd => ihj e.on (drawOk_edge hok ho e he hbd) (by have := drawOk_edge hok ho e he hbd; omega)⟩
            rw [hready] at hm
            cases hm
      rcases hends with ⟨_, hk⟩ | ⟨o, rest', he, _⟩
      · exact hQ a w _ hk (hlex fun q hq => hall q.1 (by have := (hops q hq).2; omega))
      · exfalso
        have hlen := congrArg List.length hdrop
        rw [he] at hlen
        simp at hlen
        have h1 := hall t (by omega)
        rw [htl t (Nat.le_refl _)] at h1
        cases h1
    · obtain ⟨hunl, o, ho, hpre⟩ := mem_ready.1 hmem
      have ho' : ops[i]? = some o := by simpa using ho
      have hilt : i < ops.length := (List.getElem?_eq_some_iff.1 ho').1
      have hLi : listed.getD i false = false := by
        rw [Array.getD_eq_getD_getElem?, Array.getElem?_eq_getElem (by omega)] at hunl ⊢
        exact hunl
      have hli : listed[i]? = some false := by
        rw [Array.getD_eq_getD_getElem?, Array.getElem?_eq_getElem (by omega)] at hunl
        rw [Array.getElem?_eq_getElem (by omega)]
        simpa using hunl
      have hset : ∀ m, (listed.setIfInBounds i true).getD m false = if m = i then true else listed.getD m false := by
        intro m
        by_cases hm : m = i
        · subst hm
          rw [if_pos rfl, Array.getD_eq_getD_getElem?]
          simp [hsz, hilt]
        · rw [if_neg hm, Array.getD_eq_getD_getElem?, Array.getD_eq_getD_getElem?, Array.getElem?_setIfInBounds_ne (Ne.symm hm)]
      have hdc' : ∀ j o, ops[j]? = some o → (listed.setIfInBounds i true).getD j false = true → ∀ e ∈ o.after, Region.binds .any e = true → (listed.setIfInBounds i true).getD e.on false = true := by
        intro j o2 ho2 hj e he hbd
        rw [hset] at hj ⊢
        split
        · rfl
        · split at hj
          · rename_i hji
            subst hji
            rw [ho'] at ho2
            cases ho2
            exact hpre e he hbd
          · exact hdc j o2 ho2 hj e he hbd
      have hun' : unl (listed.setIfInBounds i true) ≤ fuel := by have := unl_set hli; omega
      -- what it looks at is there
      have hlooked : ∀ s ∈ o.looksAt ops.toArray, ∀ j x, ops[j]? = some x → x.dst = some s → j < i → listed.getD j false = true := by
        intro s hs j x hx hxs hji
        have hp := (drawOk_pair hok (i := j) (j := i) hji hx ho').1
        unfold pairOk at hp
        rw [hxs] at hp
        have hc : (o.looksAt ops.toArray).contains s = true := by simpa using hs
        simp only [hc, Bool.not_true, Bool.false_and, Bool.or_false] at hp
        exact edgeTo_listed hp hpre
      have hunlooked : ∀ s ∈ o.looksAt ops.toArray, ∀ j x, ops[j]? = some x → x.dst = some s → i < j → listed.getD j false = false := by
        intro s hs j x hx hxs hij
        have hp := (drawOk_pair hok (i := i) (j := j) hij ho' hx).1
        cases hl : listed.getD j false with
        | false => rfl
        | true =>
          exfalso
          unfold pairOk at hp
          rw [hxs] at hp
          have hc : (o.looksAt ops.toArray).contains s = true := by simpa using hs
          simp only [hc, Bool.not_true, Bool.and_false, Bool.or_false] at hp
          have := edgeTo_listed hp (hdc j x hx hl)
          rw [hLi] at this
          cases this
      unfold wpOpIn
      simp only [ho]
      rcases Nat.lt_or_ge i t with hseg | hseg
      · -- one of the segment
        obtain ⟨q, hq, rfl⟩ : ∃ q ∈ seg, q.1 = i := by
          by_cases h : ∃ q ∈ seg, q.1 = i
          · exact h
          · exfalso
            have := hdone i hseg (fun q hq he => h ⟨q, hq, he⟩)
            rw [hLi] at this; cases this
        obtain ⟨m, hm⟩ := List.mem_iff_getElem?.1 hq
        obtain ⟨i, o2, r⟩ := q
        have ho2 := (hops _ hq).1
        simp only at ho' ho2 hLi hset hdc' hun' hlooked hunlooked hli hpre hmem hseg ho ⊢
        rw [ho'] at ho2
        cases ho2
        have hfact := hfacts.get hm
        have hmlt := (List.getElem?_eq_some_iff.1 hm).1
        have hpos : ∀ p q, seg[p]? = some q → (q.1 < i ↔ p < m) := by
          intro p q hp
          have hplt := (List.getElem?_eq_some_iff.1 hp).1
          have e1 : seg[p] = q := (List.getElem?_eq_some_iff.1 hp).2
          have e2 : seg[m] = (i, o, r) := (List.getElem?_eq_some_iff.1 hm).2
          have hpw' := List.pairwise_iff_getElem.1 hpw
          constructor
          · intro h
            rcases Nat.lt_trichotomy p m with h1 | h1 | h1
            · exact h1
            · subst h1; rw [e1] at e2; rw [e2] at h; simp at h
            · have := hpw' m p hmlt hplt h1; rw [e1, e2] at this; simp only at this; omega
          · intro h
            have := hpw' p m hplt hmlt h; rw [e1, e2] at this; exact this
        have hlook : ∀ s ∈ o.looksAt ops.toArray, get s (lex st (seg.take m)).regs = get s regs := by
          intro s hs
          rw [hget s, ← G_lex seg (fun j => decide (j < i)) st m hu (fun p q hp => by simpa using hpos p q hp) (by omega) s]
          refine G_congr seg _ _ s (fun q hqm hqs => ?_)
          have hqo := (hops q hqm).1
          rcases Nat.lt_trichotomy q.1 i with h | h | h
          · simp only [h, decide_true, hlooked s hs q.1 _ hqo hqs h]
          · simp only [h, Nat.lt_irrefl, decide_false, hLi]
          · simp only [show ¬ q.1 < i by omega, decide_false, hunlooked s hs q.1 _ hqo hqs h]
        have hguard := guardA_looks (ops := ops) (o := o) hlook
        have hwant : ∀ g, guardA ops (lex st (seg.take m)).regs o.guard = some g → Region.wanted o (yielded ops.toArray a.tmps) = g := by
          intro g hg
          refine guardA_sound (st := { st with regs := regs, objs := objs }) ?_ hi
          simp only
          rw [← hguard]; exact hg
        have hnext : ∀ (objs' : List (Nat × Obj)) (a' : Act) (w' : World), (∀ e, get e objs' = HO P (fun e => get e st.objs) seg (fun j => (listed.setIfInBounds i true).getD j false) e) →
            Inv X { outc o r { st with regs := regs, objs := objs } with objs := objs' } a' w' → wpAnyIn (fence X) 0 P .any ops.toArray Q fuel (listed.setIfInBounds i true) a' w' := by
          intro objs' a' w' hgo' hi'
          obtain ⟨q1, q2, q3⟩ := outc_rest o r { st with regs := regs, objs := objs }
          refine ih _ t ds st seg tail (outc o r { st with regs := regs, objs := objs }).regs objs' a' w' (by simpa using hsz) hun' hdrop htle hpw hops (fun j hj hn => ?_) (fun j hj => by rw [hset, if_neg (by omega)]; exact htl j hj) hfacts hends hdc' hfree ?_ ?_ hgo'
          · rw [hset]
            split
            · rfl
            · exact hdone j hj hn
          · exact hi'.le (fun _ _ h => h) (fun _ _ h => h) q2.symm q3.symm
          · intro k
            rw [get_outc, G_set seg _ _ i o r hu hq hset k, hget k]
        have hsetO := HO_set (P := P) (base := fun e => get e st.objs) seg (fun j => listed.getD j false) (fun j => (listed.setIfInBounds i true).getD j false) i o r hu hq hset
        simp only [freeSt, Bool.and_eq_true] at hfree
        cases r with
        | some v =>
          obtain ⟨hg, hd, hv⟩ := hfact
          rw [hwant true hg]
          simp only [if_true]
          cases hal : allocD P o with
          | none =>
            rw [hal] at hv
            obtain ⟨hv, hfr⟩ := hv
            have hobjs := (lex_rest (seg.take m) st).1
            rw [hobjs] at hv
            have hv' : OpV X o regs st.objs v := hv.congr (ev_looks hlook)
            have hsub : ∀ d ob, get d st.objs = some ob → get d objs = some ob := by
              intro e ob he
              rw [hgeto e]
              refine HO_base seg _ he (fun q o' v' d' ob' hq' hal' => ?_)
              obtain ⟨_, hf⟩ := hfacts.mem hq'
              simp only [Fact, hal'] at hf
              exact fun h => (objsFree_get hf.2.2.1 hfree.1.2 he).1 h.symm
            refine hv'.sound (st := { st with regs := regs, objs := objs }) hsub hd hi (fun a' w' hi' => hnext objs a' w' ?_ ?_)
            · intro e
              rw [hsetO e, hal]
              exact hgeto e
            · refine hi'.le (fun _ _ h => h) (fun _ _ h => by rw [show (putO o.dst v { st with regs := regs, objs := objs }).objs = objs from (outc_rest o (some v) _).1]; exact h) rfl rfl
          | some x =>
            obtain ⟨d, ob⟩ := x
            rw [hal] at hv
            obtain ⟨hmem', rfl⟩ := hv
            have hdst := allocD_dst hal
            have hlt : d < X.n := by
              unfold dstOk at hd
              rw [hdst] at hd
              simpa using hd
            obtain ⟨T, hop, hob⟩ : ∃ T, o.op = .alloc T ∧ allocO P regs objs (.alloc T) = some ob ∧ ∃ cs, ob = .box T cs := by
              have h := hal
              unfold allocD at h
              split at h
              · rename_i T d' hop hd'
                obtain ⟨zs, hz, he⟩ := Option.map_eq_some_iff.1 h
                simp only [Prod.mk.injEq] at he
                exact ⟨T, hop, by simp only [allocO, hz, Option.map_some, he.2], zeroA zs, he.2.symm⟩
              · cases h
            have hstep : stepO P X.n o { st with regs := regs, objs := objs } = some (allocSt d none (ob.kill d) { st with regs := regs, objs := objs }) := by
              unfold stepO
              simp only [hdst, if_pos hlt, hop, hob.1, Option.map_some]
            obtain ⟨γ, U, V, S⟩ := hi
            obtain ⟨rr, w', vv, hr, hvv, hi'⟩ := stepO_sound S hstep
            refine wpIn_of_run (stepO_defer hstep) hr hvv (hnext (put d ob objs) _ _ ?_ ?_)
            · intro e
              rw [hsetO e, hal]
              simp only
              by_cases he : d = e
              · subst he; simp [get_put_same]
              · simp only [get_put_ne he, if_neg he]; exact hgeto e
            · obtain ⟨T2, cs2, rfl⟩ : ∃ T cs, ob = .box T cs := ⟨T, hob.2⟩
              refine hi'.le ?_ ?_ (outc_rest o _ _).2.1 ?_
              · intro k u hk
                simp only [outc, putO, hdst] at hk
                simp only [allocSt, alloc_kill hal]
                by_cases he : d = k
                · subst he
                  rw [get_put_same] at hk ⊢
                  exact hk
                · rw [get_put_ne he] at hk ⊢
                  rw [get_mapv, hk, Option.map_some]
                  congr 1
                  rw [hget k] at hk
                  rcases G_cases _ _ _ _ hk with h1 | rfl | ⟨q, o', h1, h2, h3⟩
                  rotate_left 1
                  · simp [AV.kill]
                  rotate_left 1
                  · exact kill_free hmem' u (regsFree_get hfree.1.1 h1)
                  · obtain ⟨_, hf⟩ := hfacts.mem h1
                    simp only [Fact] at hf
                    cases hal' : allocD P o' with
                    | none => rw [hal'] at hf; exact kill_free hmem' u hf.2.2.2
                    | some x' =>
                      obtain ⟨d', ob'⟩ := x'
                      rw [hal'] at hf
                      obtain ⟨_, _, _, rfl⟩ := hf
                      have hd' := allocD_dst hal'
                      rw [h2] at hd'
                      have : ¬ d' = d := fun h => he (by rw [← h]; exact (Option.some.inj hd').symm)
                      simp only [AV.kill, if_neg this]
              · intro e o' he
                simp only [allocSt, alloc_kill hal]
                simp only at he
                by_cases hde : d = e
                · subst hde
                  rw [get_put_same] at he ⊢
                  exact he
                · rw [get_put_ne hde] at he ⊢
                  rw [get_mapv, he, Option.map_some]
                  congr 1
                  rw [hgeto e] at he
                  rcases HO_cases _ _ _ _ he with h1 | ⟨o2, h1⟩
                  · exact (objsFree_get hmem' hfree.1.2 h1).2
                  · exact alloc_kill h1
              · simp only [allocSt]
                rw [outerFree_kill hmem' _ hfree.2]
                exact (outc_rest o _ _).2.2
        | none =>
          rw [hwant false hfact]
          simp only [Bool.false_eq_true, if_false]
          refine ⟨fun f _ => fence_fn f, hnext objs _ _ (fun e => ?_) ?_⟩
          · rw [hsetO e]; exact hgeto e
          · have := skipO_sound (o := o) hi
            exact this.le (fun _ _ h => h) (fun _ _ h => by rw [show (skipO o { st with regs := regs, objs := objs }).objs = objs from (outc_rest o none _).1]; exact h) rfl rfl
      · -- the barrier, or behind it
        rcases hends with ⟨he, _⟩ | ⟨o2, rest', he, hg, hbar⟩
        · exfalso
          have hlen := congrArg List.length hdrop
          rw [he] at hlen
          simp at hlen
          omega
        · have hc := hopt o2 rest' he
          have hbt : ∃ fl, barF bs t = some fl := by
            rcases hbar with ⟨h, _⟩ | ⟨fl, _, _, _, _, h, _⟩
            · exact ⟨_, h⟩
            · exact ⟨_, h⟩
          obtain ⟨fl0, hfl0⟩ := hbt
          obtain ⟨hbarr, hrise, hdfl⟩ := hbs t fl0 hfl0
          rcases Nat.lt_or_ge t i with hgt | hle
          · exfalso
            have h1 := edge3_listed (barrier_gt (b := (t, fl0)) hbarr ho' hgt) hpre hdc
            rw [htl t (Nat.le_refl _)] at h1
            cases h1
          · have hic : i = t := by omega
            subst hic
            rw [ho'] at hc
            cases hc
            have hrest : ops.drop (i + 1) = rest' := by
              have := congrArg List.tail hdrop
              rw [he] at this
              simpa using this
            have hseglisted : ∀ q ∈ seg, q.1 ∉ fl0 → listed.getD q.1 false = true := by
              intro q hq hn
              exact edge3_listed (barrier_lt (b := (i, fl0)) hbarr (hops q hq).1 ho' (hops q hq).2 hn) hpre hdc
            have hguardL : guardA ops regs o.guard = some true := by
              rw [← hg]
              refine guardA_looks (ops := ops) (o := o) (fun s hs => hfull s (fun q hq hqs => hlooked s hs q.1 _ (hops q hq).1 hqs (hops q hq).2))
            have hwant : Region.wanted o (yielded ops.toArray a.tmps) = true := guardA_sound (st := { st with regs := regs, objs := objs }) hguardL hi
            rw [hwant]
            simp only [if_true]
            have hLlo : ∀ j, j < i + 1 → (∀ q ∈ seg, q.1 ∈ fl0 → q.1 ≠ j) → (listed.setIfInBounds i true).getD j false = true := by
              intro j hj hn
              rw [hset]
              split
              · rfl
              · by_cases h : ∃ q ∈ seg, q.1 = j
                · obtain ⟨q, hq, rfl⟩ := h
                  exact hseglisted q hq (fun hf => hn q hq hf rfl)
                · exact hdone j (by omega) (fun q hq he => h ⟨q, hq, he⟩)
            have hLhi : ∀ j, i + 1 ≤ j → (listed.setIfInBounds i true).getD j false = false := by
              intro j hj
              rw [hset, if_neg (by omega)]
              exact htl j (by omega)
            rcases hbar with ⟨hb0, hop⟩ | ⟨fl, D, d, ob, es, hbf, hflok, hes, hsame, hk⟩
            · -- nothing floats
              obtain rfl : fl0 = [] := by rw [hfl0] at hb0; simpa using hb0
              have hinv := hlex (fun q hq => hseglisted q hq (by simp))
              refine hop.sem a w hinv _ _ (fun a' w' st' hk hi' => ?_)
              obtain ⟨seg', tail', h1, hrow, h2, h3⟩ := DrW.split rest' [] [] _ st' hk
              simp only [List.nil_append] at h3
              obtain ⟨r1, r2, r3, r4⟩ := inRow_mem seg' (i + 1) tail' ops hrow (by rw [hrest, h1])
              refine ih _ (i + 1 + seg'.length) [] st' seg' tail' st'.regs st'.objs a' w' (by simpa using hsz) hun' r4 ?_ r2 (fun q hq => ⟨(r1 q hq).1, (r1 q hq).2.2⟩) (fun j hj hn => ?_) (fun j hj => hLhi j (by omega)) h2 h3 hdc' (freeSt_nil st') hi' ?_ ?_
              · have hlen := congrArg List.length hrest
                rw [h1] at hlen
                simp at hlen
                omega
              · refine hLlo j ?_ (fun q hq hf => by simp at hf)
                rcases Nat.lt_or_ge j (i + 1) with h | h
                · exact h
                · obtain ⟨q, hq, he⟩ := r3 j h hj
                  exact absurd he (hn q hq)
              · intro k
                exact (G_skip (base := fun k => get k st'.regs) seg' (fun j => (listed.setIfInBounds i true).getD j false) k (fun q hq _ => hLhi q.1 (r1 q hq).2.1)).symm
              · intro e
                exact (HO_none (P := P) (base := fun e => get e st'.objs) seg' (fun j => (listed.setIfInBounds i true).getD j false) (fun q hq _ => hLhi q.1 (r1 q hq).2.1) e).symm
            · -- something floats over a store
              obtain rfl : fl0 = fl := by rw [hfl0] at hbf; simpa using hbf
              obtain ⟨e1, e2, e3, e4, e5⟩ := flEnts_spec fl0 _ es hes
              obtain ⟨hr1, hr2⟩ := risingB_spec hrise
              obtain ⟨z1, z2, z3⟩ := lex_rest seg st
              -- the objects
              have hgo := HO_all (P := P) (base := fun e => get e st.objs) seg st.objs (fun j => listed.getD j false) (fun _ => rfl) (fun q hq ha => hseglisted q hq (fun hf => by
                obtain ⟨x, hx, hxq⟩ : ∃ x ∈ es, x.1 = q.1 := by
                  rw [← e1] at hf
                  obtain ⟨x, hx, hxe⟩ := List.mem_map.1 hf
                  exact ⟨x, hx, hxe⟩
                have h1 := (e2 x hx).1
                rw [hxq, (hops q hq).1] at h1
                have h2 := (e2 x hx).2.1
                rw [← Option.some.inj h1] at h2
                rw [h2] at ha
                cases ha))
              have hobjC : ∀ e, get e objs = get e (pendOf P seg ++ st.objs) := fun e => (hgeto e).trans (hgo e)
              -- the registers, without what has not come yet
              obtain ⟨uts, huts⟩ : ∃ uts, uts = dstsOf (es.filter fun x => !listed.getD x.1 false) := ⟨_, rfl⟩
              have hmemu : ∀ k, k ∈ uts ↔ ∃ x ∈ es, listed.getD x.1 false = false ∧ x.2.1.dst = some k := by
                intro k
                rw [huts, mem_dstsOf]
                constructor
                · rintro ⟨x, hx, hd⟩
                  rw [List.mem_filter] at hx
                  exact ⟨x, hx.1, by simpa using hx.2, hd⟩
                · rintro ⟨x, hx, hl, hd⟩
                  exact ⟨x, List.mem_filter.2 ⟨hx, by simp [hl]⟩, hd⟩
              have hi2 : Inv X { st with regs := delAll uts regs, objs := pendOf P seg ++ st.objs } a w :=
                hi.le (fun k v hk => by
                  rw [get_delAll] at hk
                  split at hk
                  · cases hk
                  · exact hk) (fun e o' he => by rw [hobjC e]; exact he) rfl rfl
              -- the store
              have hlooks : ∀ s ∈ o.looksAt ops.toArray, get s (lex st seg).regs = get s (delAll uts regs) := by
                intro s hs
                rw [get_delAll, if_neg ?_]
                · exact (hfull s (fun q hq hqs => hlooked s hs q.1 _ (hops q hq).1 hqs (hops q hq).2)).symm
                · intro hm
                  obtain ⟨x, hx, hl, hd⟩ := (hmemu s).1 hm
                  have hx1 : x.1 < i := hr1 x.1 (by rw [← e1]; exact List.mem_map_of_mem hx)
                  have := hlooked s hs x.1 _ (e2 x hx).1 hd hx1
                  rw [hl] at this; cases this
              rw [z1] at hflok
              have hstepI : ∃ rr w' vv, (execOp a.eval o).run P w = .ok rr w' ∧ ((rr = .value vv) ∨ (rr = .skip ∧ vv = undef)) ∧ (∀ c, o.op ≠ .defer c) ∧
                  Inv X { st with regs := putD D (delAll uts regs), objs := put d ob (pendOf P seg ++ st.objs) } (a.put o.dst vv) w' := by
                rcases hflok with ⟨rfl, hdn, hst⟩ | ⟨rfl, hdd, hmem', hlt, hisa, ⟨rT, rs, rn, rcs, rfl⟩, hst⟩
                · have hst2 : storeO P (delAll uts regs) (pendOf P seg ++ st.objs) o.op = some (d, ob) := by
                    rw [← storeO_congr (ev_looks hlooks)]
                    exact hst
                  have hstep : stepO P X.n o { st with regs := delAll uts regs, objs := pendOf P seg ++ st.objs } = some { st with regs := delAll uts regs, objs := put d ob (pendOf P seg ++ st.objs) } := by
                    have hop : ∃ T x v, o.op = .store T x v := by
                      unfold storeO at hst2
                      split at hst2
                      · rename_i T x v hop; exact ⟨T, x, v, hop⟩
                      · cases hst2
                    obtain ⟨T, x, v, hop⟩ := hop
                    rw [hop] at hst2
                    unfold stepO
                    simp only [hdn, hop, hst2, Option.map_some]
                  obtain ⟨γ, U, V, S⟩ := hi2
                  obtain ⟨rr, w', vv, hrun, hvv, hi'⟩ := stepO_sound S hstep
                  exact ⟨rr, w', vv, hrun, hvv, stepO_defer hstep, hi'⟩
                · have hst2 : appendO P (delAll uts regs) (pendOf P seg ++ st.objs) o.op = some (none, .row rT rs rn rcs) := by
                    rw [← appendO_congr (ev_looks hlooks)]
                    exact hst
                  have hstep := stepO_append (st := { st with regs := delAll uts regs, objs := pendOf P seg ++ st.objs }) hisa hdd hlt hst2
                  obtain ⟨γ, U, V, S⟩ := hi2
                  obtain ⟨rr, w', vv, hrun, hvv, hi'⟩ := stepO_sound S hstep
                  refine ⟨rr, w', vv, hrun, hvv, stepO_defer hstep, hi'.le ?_ ?_ rfl ?_⟩
                  · intro k u hk
                    simp only [putD] at hk
                    simp only [allocSt]
                    by_cases he : d = k
                    · subst he
                      rw [get_put_same] at hk ⊢
                      exact hk
                    · rw [get_put_ne he] at hk ⊢
                      rw [get_mapv, hk, Option.map_some]
                      congr 1
                      rw [get_delAll] at hk
                      split at hk
                      · cases hk
                      · simp only [freeSt, Bool.and_eq_true] at hfree
                        rw [hget k] at hk
                        rcases G_cases _ _ _ _ hk with h1 | rfl | ⟨q, o', h1, h2, h3⟩
                        rotate_left 1
                        · simp [AV.kill]
                        rotate_left 1
                        · exact kill_free (by simpa using hmem') u (regsFree_get hfree.1.1 h1)
                        · obtain ⟨_, hf⟩ := hfacts.mem h1
                          simp only [Fact] at hf
                          cases hal' : allocD P o' with
                          | none => rw [hal'] at hf; exact kill_free (by simpa using hmem') u hf.2.2.2
                          | some x' =>
                            obtain ⟨d', ob'⟩ := x'
                            rw [hal'] at hf
                            obtain ⟨_, _, _, rfl⟩ := hf
                            have hd' := allocD_dst hal'
                            rw [h2] at hd'
                            have : ¬ d' = d := fun h => he (by rw [← h]; exact (Option.some.inj hd').symm)
                            simp only [AV.kill, if_neg this]
                  · intro e o' he
                    simp only [allocSt]
                    simp only at he
                    by_cases hde : d = e
                    · subst hde
                      rw [get_put_same] at he ⊢
                      exact he
                    · rw [get_put_ne hde] at he ⊢
                      rw [get_mapv, he, Option.map_some]
                      congr 1
                      rw [← hobjC e, hgeto e] at he
                      simp only [freeSt, Bool.and_eq_true] at hfree
                      rcases HO_cases _ _ _ _ he with h1 | ⟨o2, h1⟩
                      · exact (objsFree_get (by simpa using hmem') hfree.1.2 h1).2
                      · exact alloc_kill h1
                  · simp only [allocSt]
                    simp only [freeSt, Bool.and_eq_true] at hfree
                    rw [outerFree_kill (by simpa using hmem') _ hfree.2]
              obtain ⟨rr, w', vv, hrun, hvv, hdef, hi'⟩ := hstepI
              have hDdst : ∀ k, D = some k → o.dst = some k := by
                intro k hk
                rcases hflok with ⟨rfl, _⟩ | ⟨rfl, hdd, _⟩
                · cases hk
                · rw [hdd]; exact hk
              refine wpIn_of_run hdef hrun hvv ?_
              obtain ⟨seg', tail', h1, hrow, h2, h3⟩ := DrW.split rest' [] [] _ _ hk
              simp only [List.nil_append] at h3
              obtain ⟨r1, r2, r3, r4⟩ := inRow_mem seg' (i + 1) tail' ops hrow (by rw [hrest, h1])
              have hes1 : ∀ x ∈ es, x.1 < i := fun x hx => hr1 x.1 (by rw [← e1]; exact List.mem_map_of_mem hx)
              have hespw : List.Pairwise (fun a b : En => a.1 < b.1) es := by
                rw [← e1, List.pairwise_map] at hr2
                exact hr2
              have hbase : (behindD D ops fl0 (flush (pendOf P seg) (lex st seg)) d ob).objs = put d ob (pendOf P seg ++ st.objs) := by simp only [behindD, flush, z1]
              have hbaseR : ∀ k, D ≠ some k → get k (behindD D ops fl0 (flush (pendOf P seg) (lex st seg)) d ob).regs = if k ∈ dstsOf es then none else get k (lex st seg).regs := by
                intro k hDk
                simp only [behindD, flush, get_putD, if_neg hDk, get_delAll, e5]
              refine ih _ (i + 1 + seg'.length) [] (behindD D ops fl0 (flush (pendOf P seg) (lex st seg)) d ob) (es ++ seg') tail' (putD D (delAll uts regs)) (put d ob (pendOf P seg ++ st.objs)) _ w' (by simpa using hsz) hun' r4 ?_ ?_ ?_ ?_ (fun j hj => hLhi j (by omega)) ?_ ?_ hdc' (freeSt_nil _) ?_ ?_ ?_
              · have hlen := congrArg List.length hrest
                rw [h1] at hlen
                simp at hlen
                omega
              · rw [List.pairwise_append]
                exact ⟨hespw, r2, fun x hx y hy => by have := hes1 x hx; have := (r1 y hy).2.1; omega⟩
              · intro q hq
                rcases List.mem_append.1 hq with hq | hq
                · exact ⟨(e2 q hq).1, by have := hes1 q hq; omega⟩
                · exact ⟨(r1 q hq).1, (r1 q hq).2.2⟩
              · intro j hj hn
                rcases Nat.lt_or_ge j (i + 1) with h | h
                · refine hLlo j h (fun q hq hf he => ?_)
                  rw [← e1] at hf
                  obtain ⟨x, hx, hxe⟩ := List.mem_map.1 hf
                  exact hn x (List.mem_append_left _ hx) (hxe.trans he)
                · obtain ⟨q, hq, he⟩ := r3 j h hj
                  exact absurd he (hn q (List.mem_append_right _ hq))
              · exact Facts.append es seg' _ (e4 hdfl) h2
              · rw [pendOf_append, e3, List.nil_append, lex_append]
                exact h3
              · exact hi'.le (fun _ _ h => h) (fun _ _ h => h) z2 z3
              · intro k
                have hskip : ∀ q ∈ seg', q.2.1.dst = some k → (listed.setIfInBounds i true).getD q.1 false = false := fun q hq _ => hLhi q.1 (r1 q hq).2.1
                have hes' : ∀ x ∈ es, (listed.setIfInBounds i true).getD x.1 false = listed.getD x.1 false := fun x hx => by rw [hset, if_neg (by have := hes1 x hx; omega)]
                by_cases hDk : D = some k
                · rw [get_putD, if_pos hDk, G_skip (es ++ seg') _ k (fun y hy hyk => by
                    exfalso
                    have hyo : ops[y.1]? = some y.2.1 ∧ y.1 ≠ i := by
                      rcases List.mem_append.1 hy with hy | hy
                      · exact ⟨(e2 y hy).1, by have := hes1 y hy; omega⟩
                      · exact ⟨(r1 y hy).1, by have := (r1 y hy).2.1; omega⟩
                    exact hyo.2 (uniq_writer hok hyo.1 ho' hyk (hDdst k hDk)))]
                  simp only [behindD, get_putD, if_pos hDk]
                rw [get_putD, if_neg hDk]
                by_cases hk1 : ∃ x ∈ es, x.2.1.dst = some k
                · obtain ⟨x, hx, hxk⟩ := hk1
                  have honly : ∀ y ∈ es ++ seg', y.2.1.dst = some k → y.1 = x.1 := by
                    intro y hy hyk
                    have hyo : ops[y.1]? = some y.2.1 := by
                      rcases List.mem_append.1 hy with hy | hy
                      · exact (e2 y hy).1
                      · exact (r1 y hy).1
                    exact uniq_writer hok hyo (e2 x hx).1 hyk hxk
                  cases hl : listed.getD x.1 false with
                  | false =>
                    rw [get_delAll, if_pos ((hmemu k).2 ⟨x, hx, hl, hxk⟩)]
                    rw [G_skip (es ++ seg') _ k (fun y hy hyk => by rw [honly y hy hyk, hes' x hx]; exact hl)]
                    rw [hbaseR k hDk, if_pos ((mem_dstsOf es k).2 ⟨x, hx, hxk⟩)]
                  | true =>
                    rw [get_delAll, if_neg (fun hm => by
                      obtain ⟨y, hy, hyl, hyk⟩ := (hmemu k).1 hm
                      rw [honly y (List.mem_append_left _ hy) hyk, hl] at hyl
                      cases hyl)]
                    rw [hfull k (fun q hq hqk => by rw [uniq_writer hok (hops q hq).1 (e2 x hx).1 hqk hxk]; exact hl)]
                    rw [sameVals_get hsame x hx k hxk]
                    have hu2 : Uniq (es ++ seg') := uniq_of hok _ (fun q hq => by
                      rcases List.mem_append.1 hq with hq | hq
                      · exact (e2 q hq).1
                      · exact (r1 q hq).1) (List.pairwise_append.2 ⟨hespw, r2, fun x hx y hy => by have := hes1 x hx; have := (r1 y hy).2.1; omega⟩)
                    obtain ⟨xi, xo, xr⟩ := x
                    have hgs := G_set (base := fun k => get k (behindD D ops fl0 (flush (pendOf P seg) (lex st seg)) d ob).regs) (es ++ seg') (fun _ => false) (fun j => decide (j = xi)) xi xo xr hu2 (List.mem_append_left _ hx) (fun m => by by_cases h : m = xi <;> simp [h]) k
                    rw [if_pos hxk] at hgs
                    obtain ⟨xv, hxv⟩ := (e2 (xi, xo, xr) hx).2.2
                    have hxr : some (xr.getD (.p (.tup []))) = xr := by have hxv' : xr = some xv := hxv; rw [hxv']; rfl
                    rw [hxr] at hgs
                    rw [← hgs]
                    refine G_congr _ _ _ k (fun y hy hyk => ?_)
                    rw [honly y hy hyk]
                    simp only [decide_true]
                    rw [hes' _ hx]
                    exact hl.symm
                · have hnu : k ∉ uts := fun hm => by
                    obtain ⟨y, hy, _, hyk⟩ := (hmemu k).1 hm
                    exact hk1 ⟨y, hy, hyk⟩
                  rw [get_delAll, if_neg hnu, G_skip (es ++ seg') _ k (fun y hy hyk => by
                    rcases List.mem_append.1 hy with hy | hy
                    · exact absurd ⟨y, hy, hyk⟩ hk1
                    · exact hskip y hy hyk), hbaseR k hDk, if_neg (fun hm => hk1 ((mem_dstsOf es k).1 hm))]
                  refine hfull k (fun q hq hqk => hseglisted q hq (fun hf => ?_))
                  rw [← e1] at hf
                  obtain ⟨x, hx, hxe⟩ := List.mem_map.1 hf
                  have hxo := (e2 x hx).1
                  rw [hxe, (hops q hq).1] at hxo
                  exact hk1 ⟨x, hx, by rw [← Option.some.inj hxo]; exact hqk⟩
              · intro e
                rw [HO_none (P := P) (es ++ seg') (fun j => (listed.setIfInBounds i true).getD j false) (fun q hq ha => ?_) e]
                · rw [hbase]
                · rcases List.mem_append.1 hq with hq | hq
                  · rw [(e2 q hq).2.1] at ha; cases ha
                  · exact hLhi q.1 (r1 q hq).2.1

theorem barF_mem {i : Nat} {fl : List Nat} : ∀ {bs : List (Nat × List Nat)}, barF bs i = some fl → (i, fl) ∈ bs
  | [], hb => by cases hb
  | (j, fl') :: l, hb => by
    simp only [barF] at hb
    split at hb
    · rename_i hj
      subst hj
      obtain rfl := Option.some.inj hb
      exact List.mem_cons_self
    · exact List.mem_cons_of_mem _ (barF_mem hb)

theorem AW.draw {id : Nat} {ops : Array Oper} {st : St} {Q : Exit → St → Prop} (bs : List (Nat × List Nat)) (ds : List Nat) (hm : P.follows .mixedOrders = true) (hok : drawOk ops.toList = true)
    (hbs : bs.all (fun b => barrier ops.toList b && risingB b.1 b.2 && b.2.all fun j => match ops.toList[j]? with | some f => dstOk X f | none => true) = true) (hfree : freeSt ds st = true)
    (h : DrW X ops.toList bs ds [] 0 ops.toList st (fun st' => Q .normal st')) : AW X (.region id ops true) st Q := by
  intro a w hi
  refine wpIn_region_any hm ?_
  obtain ⟨seg, tail, h1, hrow, h2, h3⟩ := DrW.split ops.toList ds [] 0 st h
  simp only [List.nil_append] at h3
  have hi' : Inv X st a { w with drawn := w.drawn + 1 } := by
    obtain ⟨γ, U, V, S⟩ := hi
    exact ⟨γ, U, V, S.same (Same.drew _ w)⟩
  have hrep : ∀ j, (Array.replicate ops.size false).getD j false = false := by
    intro j
    rw [Array.getD_eq_getD_getElem?, Array.getElem?_replicate]
    split <;> rfl
  obtain ⟨r1, r2, r3, r4⟩ := inRow_mem seg 0 tail ops.toList hrow (by simpa using h1)
  have hbs' : ∀ i fl, barF bs i = some fl → barrier ops.toList (i, fl) = true ∧ risingB i fl = true ∧ ∀ j ∈ fl, ∀ f, ops.toList[j]? = some f → dstOk X f = true := by
    intro i fl hb
    have hmem := barF_mem hb
    have := List.all_eq_true.1 hbs _ hmem
    simp only [Bool.and_eq_true] at this
    refine ⟨this.1.1, this.1.2, fun j hj f hf => ?_⟩
    have h5 := List.all_eq_true.1 this.2 j hj
    rw [hf] at h5
    exact h5
  have := any_sound (Q := Good X Q) hok hbs' (fun a w st' hk hi => ⟨st', hk, hi⟩) ops.toList.length (Array.replicate ops.size false) (0 + seg.length) ds st seg tail st.regs st.objs a _ (by simp) (by unfold unl; simp) r4
    (by have := congrArg List.length h1; simp at this ⊢; omega) r2 (fun q hq => ⟨(r1 q hq).1, (r1 q hq).2.2⟩) (fun j hj hn => by
      obtain ⟨q, hq, he⟩ := r3 j (Nat.zero_le _) hj
      exact absurd he (hn q hq)) (fun j _ => hrep j) h2 h3 (fun j o _ hl => by rw [hrep] at hl; cases hl) hfree hi' (fun k => (G_skip (base := fun k => get k st.regs) seg (fun j => (Array.replicate ops.size false).getD j false) k (fun q _ _ => hrep q.1)).symm)
    (fun e => (HO_none (P := P) (base := fun e => get e st.objs) seg (fun j => (Array.replicate ops.size false).getD j false) (fun q _ _ => hrep q.1) e).symm)
  simpa using this
end Go.AE
