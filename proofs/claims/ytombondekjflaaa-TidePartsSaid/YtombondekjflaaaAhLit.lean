/- YtombondekjflaaaAhLit: a part of the proof; see the last text for what is proved. -/
import Derived.Test.YtombondekjflaaaAhAppend
set_option linter.unusedVariables false
set_option linter.unusedSimpArgs false
namespace Go.AE
open Go.RowKit

variable {P : Program} {X : Env P} {γ : Nat → Value} {U V : Nat → Prop} {st : St} {a : Act} {w w' : World}

structure Marked (b : Nat) (w w' : World) : Prop where
  os : w'.os = w.os
  tape : w'.tape = w.tape
  output : w'.output = w.output
  size : w'.heap.size = w.heap.size
  other : ∀ b', b' ≠ b → w'.heap[b']? = w.heap[b']?
  same : ∃ cs T fr fr', w.heap[b]? = some (Go.Obj.cells cs T fr) ∧ w'.heap[b]? = some (Go.Obj.cells cs T fr')

theorem Marked.cell {b : Nat} (h : Marked b w w') {ad : Addr} {v : Value} (hv : w.cell? ad = some v) : w'.cell? ad = some v := by
  by_cases hb : ad.block = b
  · obtain ⟨cs, T, fr, fr', h1, h2⟩ := h.same
    rw [← hv]
    simp only [World.cell?, hb, h1, h2]
  · rw [← hv]
    exact World.cell?_of_block (h.other _ hb)

mutual
theorem RP.cells {M : Nat → Prop} (hc : ∀ ad v, w.cell? ad = some v → w'.cell? ad = some v) : ∀ (p : PV) (x : Value), RP w M p x → RP w' M p x
  | .s v, x, h => by simpa only [RP] using h
  | .agg cs, x, h => by
    simp only [RP] at h ⊢
    obtain ⟨xs, rfl, h1, h2⟩ := h
    exact ⟨xs, rfl, RPs.cells hc cs xs h1, h2⟩
  | .sl t n cs, x, h => by
    simp only [RP] at h ⊢
    obtain ⟨A, c, xs, rfl, ht, h1, h2, h3, h4, h5⟩ := h
    refine ⟨A, c, xs, rfl, ht, h1, h2, RPs.cells hc cs xs h3, h4, fun hne => ?_⟩
    obtain ⟨ad, h6, h7, h8⟩ := h5 hne
    exact ⟨ad, h6, h7, fun j v hj => hc _ _ (h8 j v hj)⟩
  | .rop cs, x, h => by
    simp only [RP] at h ⊢
    obtain ⟨ad, xs, rfl, h3, h4, h5⟩ := h
    refine ⟨ad, xs, rfl, RPs.cells hc cs xs h3, h4, fun hne => ?_⟩
    obtain ⟨ad', h6, h7, h8⟩ := h5 hne
    exact ⟨ad', h6, h7, fun j v hj => hc _ _ (h8 j v hj)⟩
  | .fn f cap, x, h => by
    simp only [RP] at h ⊢
    obtain ⟨xs, rfl, h1⟩ := h
    exact ⟨xs, rfl, RPs.cells hc cap xs h1⟩
  | .tup vs, x, h => by
    simp only [RP] at h ⊢
    obtain ⟨xs, rfl, h1⟩ := h
    exact ⟨xs, rfl, RPs.cells hc vs xs h1⟩
theorem RPs.cells {M : Nat → Prop} (hc : ∀ ad v, w.cell? ad = some v → w'.cell? ad = some v) : ∀ (ps : List PV) (xs : List Value), RPs w M ps xs → RPs w' M ps xs
  | [], xs, h => by simpa only [RPs] using h
  | p :: ps, xs, h => by
    simp only [RPs] at h ⊢
    obtain ⟨x, xs', rfl, h1, h2⟩ := h
    exact ⟨x, xs', rfl, RP.cells hc p x h1, RPs.cells hc ps xs' h2⟩
end
mutual
theorem RA.cells {Y : Value} {M : Nat → Prop} (hc : ∀ ad v, w.cell? ad = some v → w'.cell? ad = some v) : ∀ (p : AV) (x : Value), RA Y γ w M p x → RA Y γ w' M p x
  | .p q, x, h => by simp only [RA] at h ⊢; exact RP.cells hc q x h
  | .agg cs, x, h => by
    simp only [RA] at h ⊢
    obtain ⟨xs, rfl, h1, h2⟩ := h
    exact ⟨xs, rfl, RAs.cells hc cs xs h1, h2⟩
  | .own d, x, h => by simpa only [RA] using h
  | .sub d off n, x, h => by simpa only [RA] using h
  | .ptr d off, x, h => by simpa only [RA] using h
  | .fn f cap, x, h => by
    simp only [RA] at h ⊢
    obtain ⟨xs, rfl, h1⟩ := h
    exact ⟨xs, rfl, RAs.cells hc cap xs h1⟩
  | .tup vs, x, h => by
    simp only [RA] at h ⊢
    obtain ⟨xs, rfl, h1⟩ := h
    exact ⟨xs, rfl, RAs.cells hc vs xs h1⟩
  | .yield, x, h => by simpa only [RA] using h
  | .any, x, h => by simp only [RA]
  | .lit n cs, x, h => by
    rw [RA] at h ⊢
    exact RP.cells hc _ x h
theorem RAs.cells {Y : Value} {M : Nat → Prop} (hc : ∀ ad v, w.cell? ad = some v → w'.cell? ad = some v) : ∀ (ps : List AV) (xs : List Value), RAs Y γ w M ps xs → RAs Y γ w' M ps xs
  | [], xs, h => by simpa only [RAs] using h
  | p :: ps, xs, h => by
    simp only [RAs] at h ⊢
    obtain ⟨x, xs', rfl, h1, h2⟩ := h
    exact ⟨x, xs', rfl, RA.cells hc p x h1, RAs.cells hc ps xs' h2⟩
end
theorem OutsOk.cells {Y : Value} {M : Nat → Prop} (hc : ∀ ad v, w.cell? ad = some v → w'.cell? ad = some v) : ∀ {rs : List (List (Nat × AV))} {ts : List (Array Value)}, OutsOk Y γ w M rs ts → OutsOk Y γ w' M rs ts
  | [], ts, h => by simpa only [OutsOk] using h
  | r :: rs, ts, h => by
    simp only [OutsOk] at h ⊢
    obtain ⟨t, ts', rfl, h1, h3, h2⟩ := h
    exact ⟨t, ts', rfl, fun k v hk' => RA.cells hc v _ (h1 k v hk'), h3, OutsOk.cells hc h2⟩

theorem Sim.marked {b : Nat} (S : Sim X γ U V st a w) (hU : U b) (hb : ∀ p o, get p st.objs = some o → blk (γ p) ≠ some b) (h : Marked b w w') : Sim X γ U V st a w' := by
  have hc : ∀ ad v, w.cell? ad = some v → w'.cell? ad = some v := fun ad v hv => h.cell hv
  have hs : Same (fun x => x = b) w w' := ⟨h.os, h.tape, h.output, by rw [h.size]; exact Nat.le_refl _, fun b' _ hn => h.other b' hn⟩
  refine ⟨X.stable S.env (hs.mono fun x _ hx => by subst hx; exact hU) (fun _ hx => .inl hx), S.size, fun k v hk => RA.cells hc v _ (S.reg k v hk), S.outs.cells hc, ?_, S.sep, S.own, S.zone, fun x hx => by rw [h.size]; exact S.ltU x hx, fun x hx => by rw [h.size]; exact S.ltV x hx, ?_, S.lits, S.kept⟩
  · intro d o hd
    have ho := S.obj d o hd
    have hne := hb d o hd
    cases o with
    | box T cs =>
      simp only [SimObj] at ho ⊢
      obtain ⟨b', xs, hg, hh, h1, h2⟩ := ho
      have : b' ≠ b := fun e => hne (by rw [hg, e]; rfl)
      exact ⟨b', xs, hg, by rw [h.other b' this]; exact hh, RAs.cells hc cs xs h1, h2⟩
    | row T sz n cs =>
      simp only [SimObj] at ho ⊢
      obtain ⟨A, c, xs, hg, h1, h2, h3, h4, h5, h6⟩ := ho
      refine ⟨A, c, xs, hg, h1, h2, h3, RPs.cells hc cs xs h4, h5, fun hcp => ?_⟩
      obtain ⟨g, cur, rfl, hh, h7, h8⟩ := h6 hcp
      have : g ≠ b := fun e => hne (by
        rw [hg, e]
        obtain ⟨c', rfl⟩ : ∃ c', c = c' + 1 := ⟨c - 1, by omega⟩
        rfl)
      exact ⟨g, cur, rfl, by rw [h.other g this]; exact hh, h7, h8⟩
  · obtain ⟨Ds, h1, h2, h3⟩ := S.defs
    refine ⟨Ds, h1, h2, fun D hD => ⟨(h3 D hD).1, ?_⟩⟩
    have : D ≠ b := fun e => by
      obtain ⟨cs, T, fr, _, h4, _⟩ := h.same
      have h5 := (h3 D hD).2
      rw [e, h4] at h5
      cases h5
    rw [h.other D this]
    exact (h3 D hD).2

theorem run_mark {T e : TypeId} (ht : P.underlying T = some (.slice e)) (he : P.underlying e = some (.int .u8)) {ad : Addr} {n c : Nat} {cs : Array Value} {T' : TypeId} {fr : Nat × Nat} (hh : w.heap[ad.block]? = some (Go.Obj.cells cs T' fr)) :
    ∃ w', (convert T T (.slice (some ad) n c)).run P w = .ok (.slice (some ad) n c) w' ∧ Marked ad.block w w' := by
  refine ⟨w.freeze { block := ad.block, off := cs.size } 1, ?_, ?_⟩
  · have hsh : w.shape? ad.block = some (T', cs.size) := by simp [World.shape?, hh]
    simp [convert, run_underlying ht, run_underlying he, markStringish, hsh]
  · unfold World.freeze
    rw [if_neg (by decide)]
    obtain ⟨lo, hi⟩ := fr
    refine ⟨rfl, rfl, rfl, by simp, fun b' hb => ?_, cs, T', (lo, hi), if lo == hi then (cs.size, cs.size + 1) else (min lo cs.size, max hi (cs.size + 1)), hh, ?_⟩
    · simp only [Array.getElem?_modify]
      rw [if_neg (fun e => hb e.symm)]
    · simp only [Array.getElem?_modify, if_true, hh, Option.map_some]
end Go.AE
