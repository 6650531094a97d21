/- YtombondekjflaaaAhSlice: a part of the proof; see the last text for what is proved. -/
import Derived.Test.YtombondekjflaaaAhCalc
import Derived.Laws.BytesString
set_option linter.unusedVariables false
set_option linter.unusedSimpArgs false
namespace Go.AE
open Go.RowKit

variable {P : Program}
section
variable {Y : Value} {γ : Nat → Value} {w : World} {M : Nat → Prop} {objs : List (Nat × Obj)} {regs : List (Nat × AV)} {a : Act}

def IsB (v : Option Value) (i : Option Int) : Prop := (v = none ∧ i = none) ∨ ∃ k j, v = some (.int k j) ∧ i = some j

theorem IsB.lo {v : Option Value} {i : Option Int} (h : IsB v i) (d : Int) : (v = none ∧ i.getD d = d) ∨ ∃ k, v = some (.int k (i.getD d)) := by
  rcases h with ⟨rfl, rfl⟩ | ⟨k, j, rfl, rfl⟩
  · exact .inl ⟨rfl, rfl⟩
  · exact .inr ⟨k, rfl⟩

theorem run_slice_some {T e k : Nat} (hu : P.underlying T = some (.slice e)) (hk : size? P e = some k) {A : Option Addr} {n c : Nat} {lo hi mx : Option Value} {l h m : Nat}
    (hb : (Instr.sliceBounds true n c lo hi mx).run P w = .ok (l, h, m) w) :
    (Instr.sliceAt T (.slice A n c) lo hi mx).run P w = .ok (.slice (if m = l then A else A.map (·.add (l * k))) (h - l) (m - l)) w := by
  simp [Instr.sliceAt, Instr.slice, run_underlying hu, hb, run_sizeOf' hk]

theorem cut_p {cs : List PV} {xs : List Value} {A : Option Addr} {l len m k n : Nat} (h1 : RPs w M cs xs) (h2 : One xs) (hat : At w M A xs) (hlen : cs.length = n * k) (hm : m = l → len = 0) :
    ∃ ys, RPs w M ((cs.drop (l * k)).take (len * k)) ys ∧ One ys ∧ At w M (if m = l then A else A.map (·.add (l * k))) ys := by
  refine ⟨_, (h1.drop (l * k)).take (len * k), (h2.drop _).take _, ?_⟩
  intro hne
  have hlen0 : len ≠ 0 := by intro e; subst e; simp at hne
  have hx : xs ≠ [] := by intro e; subst e; simp at hne
  obtain ⟨ad, rfl, hn, hc⟩ := hat hx
  have hml : m ≠ l := fun e => hlen0 (hm e)
  rw [if_neg hml]
  refine ⟨_, rfl, ?_, fun j v hj => ?_⟩
  · have : (ad.add (l * k)).block = ad.block := by unfold Addr.add; split <;> rfl
    rw [this]; exact hn
  · rw [add_add_addr]
    rw [List.getElem?_take] at hj
    split at hj
    · exact hc _ _ (by rwa [List.getElem?_drop] at hj)
    · cases hj

theorem tagS_ok {t : Tag} {A : Option Addr} {n c : Nat} {l h : Int} {f : Addr → Addr} (ht : TagOk t A n c) (h0 : 0 ≤ l) (h1 : l ≤ h) (h2 : h ≤ n) (h3 : n ≤ c) :
    TagOk (tagS t (decide (h = (n : Int)))) (if c = l.toNat then A else A.map f) (h - l).toNat (c - l.toNat) := by
  have hA : A ≠ none → (if c = l.toNat then A else A.map f) ≠ none := by
    intro hA
    split
    · exact hA
    · cases A <;> simp_all
  by_cases hw : h = (n : Int)
  · rw [decide_eq_true hw]
    cases t <;> simp only [tagS, if_true, TagOk] at ht ⊢
    · obtain ⟨rfl, rfl, rfl⟩ := ht
      exact ⟨by simp, by omega, by omega⟩
    · exact ⟨hA ht.1, by omega⟩
    · omega
    · exact hA ht
  · rw [decide_eq_false hw]
    cases t <;> simp only [tagS, Bool.false_eq_true, if_false, TagOk] at ht ⊢
    · obtain ⟨rfl, rfl, rfl⟩ := ht
      exact ⟨by simp, by omega, by omega⟩
    · exact hA ht.1
    · exact hA ht

theorem sliceA_sound (hobj : ∀ d o, get d objs = some o → SimObj Y γ w M d o) {T : TypeId} {x r : AV} {v : Value} {lo hi mx : Option Int} {lov hiv mxv : Option Value}
    (h : sliceA P objs T x lo hi mx = some r) (hx : RA Y γ w M x v) (hlo : IsB lov lo) (hhi : IsB hiv hi) (hmx : IsB mxv mx) :
    ∃ u, (Instr.sliceAt T v lov hiv mxv).run P w = .ok u w ∧ RA Y γ w M r u := by
  unfold sliceA at h
  split at h
  · rename_i hu
    split at h
    · rename_i s
      split at h
      · rename_i hb
        obtain rfl := Option.some.inj h
        simp only [RA, RP] at hx
        subst hx
        have hm : mxv = none := by rcases hmx with ⟨rfl, _⟩ | ⟨k, j, _, hj⟩; · rfl
                                   · cases hj
        subst hm
        have := run_sliceBounds (P := P) (w := w) (s := false) (len := s.size) (cap := s.size) (hlo.lo 0) (hhi.lo s.size) hb.1 hb.2.1 hb.2.2
        exact ⟨_, by simp [Instr.sliceAt, Instr.slice, run_underlying hu, this]; rfl, by simp only [RA, RP]⟩
      · cases h
    · cases h
  · rename_i e hu
    split at h
    · rename_i k t n cs hk
      split at h
      · rename_i hb
        simp only [RA, RP] at hx
        obtain ⟨A, c, xs, rfl, ht, hnc, hcm, h1, h2, hat⟩ := hx
        split at h
        · obtain rfl := Option.some.inj h
          have hm : mxv = none := by rcases hmx with ⟨rfl, _⟩ | ⟨k, j, _, hj⟩; · rfl
                                     · cases hj
          subst hm
          have hr := run_slice_some (P := P) hu hk (A := A) (n := n) (c := c) (run_sliceBounds (P := P) (w := w) (s := true) (len := n) (cap := c) (hlo.lo 0) (hhi.lo n) hb.1 hb.2.1 (by omega))
          refine ⟨_, hr, ?_⟩
          obtain ⟨ys, g1, g2, g3⟩ := cut_p (l := (lo.getD 0).toNat) (len := (hi.getD n - lo.getD 0).toNat) (m := c) (k := k) (n := n) h1 h2 hat hb.2.2.2 (by intro e; omega)
          simp only [RA, RP]
          refine ⟨_, c - (lo.getD 0).toNat, ys, by congr 1; omega, ?_, by omega, by omega, g1, g2, g3⟩
          exact tagS_ok ht hb.1 hb.2.1 hb.2.2.1 hnc
        · rename_i m
          split at h
          · rename_i hb2
            obtain rfl := Option.some.inj h
            obtain ⟨hsome, hb3, hb4⟩ := hb2
            have hmv : ∃ k2, mxv = some (.int k2 m) := by
              rcases hmx with ⟨_, hj⟩ | ⟨k2, j, rfl, hj⟩
              · cases hj
              · cases hj; exact ⟨k2, rfl⟩
            obtain ⟨k2, rfl⟩ := hmv
            have hhv : ∃ k3 j, hiv = some (.int k3 j) ∧ hi = some j := by
              rcases hhi with ⟨_, rfl⟩ | h'
              · simp at hsome
              · exact h'
            obtain ⟨k3, j, rfl, rfl⟩ := hhv
            simp only [Option.getD_some] at hb hb3 ⊢
            have hr := run_slice_some (P := P) hu hk (A := A) (n := n) (c := c) (run_sliceBounds3 (P := P) (w := w) (s := true) (len := n) (cap := c) (k := k3) (k2 := k2) (hlo.lo 0) hb.1 hb.2.1 hb3 (by omega))
            refine ⟨_, hr, ?_⟩
            obtain ⟨ys, g1, g2, g3⟩ := cut_p (l := (lo.getD 0).toNat) (len := (j - lo.getD 0).toNat) (m := m.toNat) (k := k) (n := n) h1 h2 hat hb.2.2.2 (by intro e; omega)
            simp only [RA, RP]
            refine ⟨_, m.toNat - (lo.getD 0).toNat, ys, by congr 1; omega, ?_, by omega, by omega, g1, g2, g3⟩
            split
            · rename_i he
              simp only [TagOk]
              omega
            · simp only [TagOk]
          · cases h
      · cases h
    · rename_i k d hk
      split at h
      · rename_i T' sz n cs ho
        split at h
        · rename_i hb
          obtain rfl := Option.some.inj h
          have hm : mxv = none := by rcases hmx with ⟨rfl, _⟩ | ⟨k, j, _, hj⟩; · rfl
                                     · cases hj
          subst hm
          simp only [RA] at hx
          subst hx
          have := hobj d _ ho
          simp only [SimObj] at this
          obtain ⟨A, c, xs, hg, hnc, hcm, _, _, _, hblk⟩ := this
          rw [hg]
          have hr := run_slice_some (P := P) hu hk (A := A) (n := n) (c := c) (run_sliceBounds (P := P) (w := w) (s := true) (len := n) (cap := c) (hlo.lo 0) (hhi.lo n) hb.1 hb.2.1 (by omega))
          refine ⟨_, hr, ?_⟩
          simp only [RA]
          refine ⟨_, c - (lo.getD 0).toNat, by congr 1; omega, by omega, by omega, fun hpos => ?_, fun ho0 A0 n0 c0 h0 => ?_⟩
          rotate_left
          · rw [hg] at h0
            simp only [Value.slice.injEq] at h0
            obtain ⟨rfl, _, rfl⟩ := h0
            have hl0 : (lo.getD 0).toNat = 0 := (Nat.mul_eq_zero.1 ho0).resolve_right (by omega)
            refine ⟨?_, by omega⟩
            split
            · rfl
            · cases A <;> simp [hl0, Addr.add]
          obtain ⟨g, cur, rfl, _⟩ := hblk (by omega)
          obtain ⟨c', rfl⟩ : ∃ c', c = c' + 1 := ⟨c - 1, by omega⟩
          refine ⟨g, by rw [hg]; rfl, ?_⟩
          rw [if_neg (by omega)]
          simp [Addr.add_mid]
        · cases h
      · cases h
    · rename_i k d off n hk
      split at h
      · split at h
        · rename_i hb
          obtain rfl := Option.some.inj h
          have hm : mxv = none := by rcases hmx with ⟨rfl, _⟩ | ⟨k, j, _, hj⟩; · rfl
                                     · cases hj
          subst hm
          simp only [RA] at hx
          obtain ⟨A, c, rfl, hnc, hcm, hA, hA0⟩ := hx
          have hr := run_slice_some (P := P) hu hk (A := A) (n := n) (c := c) (run_sliceBounds (P := P) (w := w) (s := true) (len := n) (cap := c) (hlo.lo 0) (hhi.lo n) hb.1 hb.2.1 (by omega))
          refine ⟨_, hr, ?_⟩
          simp only [RA]
          refine ⟨_, c - (lo.getD 0).toNat, by congr 1; omega, by omega, by omega, fun hpos => ?_, fun ho0 A0 n0 c0 h0 => ?_⟩
          rotate_left
          · obtain ⟨rfl, rfl⟩ := hA0 (by omega) A0 n0 c0 h0
            have hl0 : (lo.getD 0).toNat = 0 := (Nat.mul_eq_zero.1 (Nat.add_eq_zero_iff.1 ho0).2).resolve_right (by omega)
            refine ⟨?_, by omega⟩
            split
            · rfl
            · cases A <;> simp [hl0, Addr.add]
          obtain ⟨b, hb', rfl⟩ := hA (by omega)
          refine ⟨b, hb', ?_⟩
          rw [if_neg (by omega)]
          simp [Addr.add_mid]
        · cases h
      · cases h
    · cases h
  · rename_i n e hu
    split at h
    · rename_i k d off hk
      split at h
      · rename_i T' cs' hbx
        split at h
        · rename_i hb
          obtain rfl := Option.some.inj h
          have hm : mxv = none := by rcases hmx with ⟨rfl, _⟩ | ⟨k, j, _, hj⟩; · rfl
                                     · cases hj
          subst hm
          simp only [RA] at hx
          obtain ⟨b, hb', rfl⟩ := hx
          have hbo := hobj d _ hbx
          simp only [SimObj] at hbo
          obtain ⟨b0, xs0, hg0, _⟩ := hbo
          have := run_sliceBounds (P := P) (w := w) (s := false) (len := n) (cap := n) (hlo.lo 0) (hhi.lo n) hb.1 hb.2.1 (by omega)
          refine ⟨_, by simp [Instr.sliceAt, run_underlying hu, Instr.sureAddr, this, run_sizeOf' hk]; rfl, ?_⟩
          simp only [RA]
          refine ⟨_, n - (lo.getD 0).toNat, by congr 1; omega, by omega, by omega, fun hpos => ⟨b, hb', ?_⟩, fun _ A0 n0 c0 h0 => by rw [hg0] at h0; cases h0⟩
          rw [if_neg (by omega), Addr.add_mid]
        · cases h
      · cases h
    · cases h
  · cases h

theorem optI_isB {x : Option Operand} {i : Option Int} (h : optI regs x = some i) (S : RegsG Y γ w M regs a.tmps) : IsB (x.map a.eval) i := by
  rcases optI_sound h S with ⟨rfl, rfl⟩ | ⟨y, k, j, rfl, rfl, he⟩
  · exact .inl ⟨rfl, rfl⟩
  · exact .inr ⟨k, j, by simp [he], rfl⟩

theorem u8s_sound : ∀ {cs : List PV} {l : List Int} {xs : List Value}, u8s cs = some l → RPs w M cs xs → xs = l.map (Value.int .u8)
  | [], l, xs, h, hx => by
    simp only [u8s, Option.some.injEq] at h
    subst h
    simpa only [RPs, List.map_nil] using hx
  | c :: cs, l, xs, h, hx => by
    unfold u8s at h
    split at h
    · rename_i heq; cases heq
    · rename_i heq
      cases heq
      obtain ⟨l', hl, rfl⟩ := Option.map_eq_some_iff.1 h
      simp only [RPs, RP] at hx
      obtain ⟨x, xs', rfl, rfl, h2⟩ := hx
      rw [u8s_sound hl h2]; rfl
    · cases h
theorem pureO_sound {o : Oper} {r : AV} (h : pureO P regs objs o.op = some r) (S : RegsG Y γ w M regs a.tmps) (hobj : ∀ d o, get d objs = some o → SimObj Y γ w M d o) :
    ∃ u, (execOp a.eval o).run P w = .ok (.value u) w ∧ RA Y γ w M r u := by
  obtain ⟨dst, op, type, pos, after, guard⟩ := o
  simp only at h
  cases op <;> simp only [pureO] at h <;> first | (cases h; done) | skip
  case move x => exact ⟨_, by simp [execOp], ev_sound h S⟩
  case assign x => exact ⟨_, by simp [execOp], ev_sound h S⟩
  case pick c x y =>
    split at h
    · rename_i t ht
      have := ev_sound ht S
      simp only [RA, RP] at this
      split at h
      · rename_i hb
        subst hb
        exact ⟨_, by simp [execOp, this, asBool], ev_sound h S⟩
      · rename_i hb
        exact ⟨_, by simp [execOp, this, asBool, hb], ev_sound h S⟩
    · cases h
  case load T x =>
    split at h
    · rename_i v hv
      obtain ⟨u, hu, hr⟩ := loadA_sound hobj h (ev_sound hv S)
      exact ⟨u, by simp [execOp, hu], hr⟩
    · cases h
  case nilCheck x =>
    split at h
    · rename_i d off hv
      obtain rfl := Option.some.inj h
      have := ev_sound hv S
      have h2 := this
      simp only [RA] at this
      obtain ⟨b, _, he⟩ := this
      rw [he] at h2
      exact ⟨_, by simp [execOp, he], h2⟩
    · rename_i cs hv
      obtain rfl := Option.some.inj h
      have := ev_sound hv S
      have h2 := this
      simp only [RA, RP] at this
      obtain ⟨ad, xs, he, _⟩ := this
      rw [he] at h2
      exact ⟨_, by simp [execOp, he], h2⟩
    · cases h
  case binOp op T x y yT =>
    split at h
    · rename_i u v hu hv
      obtain ⟨z, hz, hr⟩ := binA_sound (P := P) hobj (xo := x) (yo := y) h (ev_sound hu S) (ev_sound hv S)
      rw [Sem.run_bind] at hz
      exact ⟨z, by simp only [execOp, Sem.run_bind, hz, Result.andThen_ok, Sem.run_pure], hr⟩
    · cases h
  case unOp op T x =>
    split at h
    · rename_i v hv
      obtain ⟨z, hz, rfl⟩ := Option.map_eq_some_iff.1 h
      have := ev_sound hv S
      simp only [RA, RP] at this
      exact ⟨z, by simp [execOp, this, unA_sound hz], by simp only [RA, RP]⟩
    · cases h
  case convert src dst x =>
    split at h
    · rename_i v hv
      obtain ⟨z, hz, rfl⟩ := Option.map_eq_some_iff.1 h
      have := ev_sound hv S
      simp only [RA, RP] at this
      exact ⟨z, by simp [execOp, this, convA_sound hz], by simp only [RA, RP]⟩
    · rename_i t n cs hv
      have := ev_sound hv S
      simp only [RA, RP] at this
      obtain ⟨A, c, xs, he, _, _, _, h1, _, hat⟩ := this
      unfold convB at h
      split at h
      · rename_i e hs hd
        split at h
        · rename_i hu
          split at h
          · rename_i hl
            obtain ⟨l, hl2, rfl⟩ := Option.map_eq_some_iff.1 h
            have hx := u8s_sound hl2 h1
            refine ⟨.string (strOf l), ?_, by simp only [RA, RP]⟩
            have hrun : (Conv.bytesToString (.slice A n c)).run P w = .ok (.string (strOf l)) w := by
              cases A with
              | none =>
                have : xs = [] := by
                  rcases List.eq_nil_or_concat xs with h | ⟨ys, y, h⟩
                  · exact h
                  · obtain ⟨ad, he, _⟩ := hat (by rw [h]; simp)
                    cases he
                rw [this] at hx
                have : l = [] := by simpa using hx.symm
                subst this
                rfl
              | some ad =>
                refine run_bytesToString w ad n c l ?_
                have hlen : n = (l.map (Value.int .u8)).length := by rw [← hx, h1.length, hl]
                rw [hlen]
                refine run_loadCells_list w ad _ (fun j v hj => ?_)
                rw [← hx] at hj
                obtain ⟨ad', had, _, hc⟩ := hat (by intro e; rw [e] at hj; simp at hj)
                cases had
                exact hc j v hj
            simp only [execOp, he, Sem.run_bind, run_convert_bytes_string w src dst e A n c hs hu hd, hrun, Result.andThen_ok, Sem.run_pure]
          · cases h
        · cases h
      · cases h
    · cases h
  case makeFunc fn first captured =>
    cases fn <;> simp only at h <;> first | (cases h; done) | skip
    rename_i f
    split at h
    · rename_i hf
      obtain ⟨vs, hvs, rfl⟩ := Option.map_eq_some_iff.1 h
      have hf' : first = #[] := Array.eq_empty_of_size_eq_zero hf
      subst hf'
      refine ⟨.func (.func f) #[] (captured.map a.eval), by simp [execOp, Instr.makeFunc], ?_⟩
      simp only [RA]
      exact ⟨captured.toList.map a.eval, by rw [← Array.toList_map], evs_sound hvs S⟩
    · cases h
  case slice T x lo hi mx =>
    split at h
    · rename_i v l hh m hv hl hhh hm
      obtain ⟨u, hu, hr⟩ := sliceA_sound hobj h (ev_sound hv S) (optI_isB hl S) (optI_isB hhh S) (optI_isB hm S)
      exact ⟨u, by simp [execOp, hu], hr⟩
    · cases h
  case fieldAddr s x f =>
    split at h
    · rename_i v hv
      obtain ⟨u, hu, hr⟩ := fieldAddrA_sound (w := w) h (ev_sound hv S)
      exact ⟨u, by simp [execOp, hu], hr⟩
    · cases h
  case field s x f =>
    split at h
    · rename_i v hv
      obtain ⟨u, hu, hr⟩ := fieldA_sound (w := w) h (ev_sound hv S)
      exact ⟨u, by simp [execOp, hu], hr⟩
    · cases h
  case indexAddr T x i =>
    split at h
    · rename_i v j hv hj
      obtain ⟨k, hk⟩ := evI_sound hj S
      obtain ⟨u, hu, hr⟩ := indexAddrA_sound (q := k) hobj h (ev_sound hv S)
      exact ⟨u, by simp [execOp, hk, hu], hr⟩
    · cases h
  case index T x i =>
    split at h
    · rename_i v j hv hj
      obtain ⟨k, hk⟩ := evI_sound hj S
      obtain ⟨u, hu, hr⟩ := indexA_sound (q := k) (w := w) h (ev_sound hv S)
      exact ⟨u, by simp [execOp, hk, hu], hr⟩
    · cases h
  case extract t i =>
    split at h
    · rename_i v hv
      obtain ⟨u, hu, hr⟩ := extractA_sound (P := P) (w := w) h (ev_sound hv S)
      exact ⟨u, by simp [execOp, hu], hr⟩
    · cases h
  case call c =>
    obtain ⟨callee, args, ts⟩ := c
    simp only at h
    split at h
    · rename_i b vs hvs
      obtain ⟨u, hu, hr⟩ := builtA_sound (P := P) (t := type) (cs := args.map fun | .const _ => true | _ => false) hobj h (evs_sound hvs S)
      have e : (args.toList.map a.eval).toArray = args.map a.eval := by rw [← Array.toList_map]
      rw [e] at hu
      refine ⟨u, ?_, hr⟩
      simp only [execOp, resolve, Sem.run_bind, Sem.run_pure, Result.andThen_ok, invoke]
      exact hu
    · cases h
end
end Go.AE
