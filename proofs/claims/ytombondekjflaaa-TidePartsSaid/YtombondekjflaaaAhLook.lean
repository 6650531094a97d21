/- YtombondekjflaaaAhLook: a part of the proof; see the last text for what is proved. -/
import Derived.Test.YtombondekjflaaaAhPure
set_option linter.unusedVariables false
set_option linter.unusedSimpArgs false
namespace Go.AE
open Go.RowKit

variable {P : Program}

def cellsA : AV → Option (List AV)
  | .agg cs => some cs
  | .p (.agg cs) => some (cs.map .p)
  | _ => none

def fieldOf (P : Program) (S f : Nat) : Option Field :=
  match P.underlying S with
  | some (.struct fs) => fs[f]?
  | _ => none

def loadA (P : Program) (objs : List (Nat × Obj)) (T : TypeId) : AV → Option AV
  | .p (.rop cs) => (loadL P T PV.agg cs).map .p
  | .ptr d off =>
    match get d objs with
    | some (.box _ cs) => loadL P T .agg (cs.drop off)
    | some (.row _ _ _ cs) => (loadL P T PV.agg (cs.drop off)).map .p
    | none => none
  | _ => none

def fieldAddrA (P : Program) (S : TypeId) (f : Nat) (x : AV) : Option AV :=
  match fieldOf P S f with
  | some fd =>
    match size? P fd.type with
    | some (k + 1) =>
      match x with
      | .p (.rop cs) => some (.p (.rop (cs.drop fd.offset)))
      | .ptr d off => some (.ptr d (off + fd.offset))
      | _ => none
    | _ => none
  | none => none

def fieldA (P : Program) (S : TypeId) (f : Nat) (x : AV) : Option AV :=
  match fieldOf P S f, cellsA x with
  | some fd, some cs =>
    match P.underlying fd.type, size? P fd.type with
    | some d, some k => if d.isRow then some (.agg ((cs.drop fd.offset).take k)) else cs[fd.offset]?
    | _, _ => none
  | _, _ => none

def indexAddrA (P : Program) (objs : List (Nat × Obj)) (T : TypeId) (x : AV) (i : Int) : Option AV :=
  match P.underlying T with
  | some (.array len e) =>
    match size? P e with
    | some k =>
      if 0 ≤ i ∧ i < len then
        match x with
        | .p (.rop cs) => some (.p (.rop (cs.drop (i.toNat * k))))
        | .ptr d off => some (.ptr d (off + i.toNat * k))
        | _ => none
      else none
    | none => none
  | some (.slice e) =>
    match size? P e with
    | some k =>
      match x with
      | .p (.sl _ n cs) => if 0 ≤ i ∧ i < n ∧ cs.length = n * k ∧ 0 < k then some (.p (.rop (cs.drop (i.toNat * k)))) else none
      | .own d =>
        match get d objs with
        | some (.row _ _ n _) => if 0 ≤ i ∧ i < n then some (.ptr d (i.toNat * k)) else none
        | _ => none
      | .sub d off n => if 0 ≤ i ∧ i < n then some (.ptr d (off + i.toNat * k)) else none
      | _ => none
    | none => none
  | _ => none

def indexA (P : Program) (T : TypeId) (x : AV) (i : Int) : Option AV :=
  match P.underlying T, x with
  | some (.array len e), x =>
    match cellsA x, P.underlying e, size? P e with
    | some cs, some d, some k =>
      if 0 ≤ i ∧ i < len then
        (if d.isRow then some (.agg ((cs.drop (i.toNat * k)).take k)) else cs[i.toNat * k]?)
      else none
    | _, _, _ => none
  | some .string, .p (.s (.string s)) =>
    if 0 ≤ i then (s[i.toNat]?).map (fun b => .p (.s (.int .u8 b.toNat))) else none
  | _, _ => none

def extractA (x : AV) (i : Nat) : Option AV :=
  match x with
  | .tup vs => vs[i]?
  | .p (.tup vs) => (vs[i]?).map .p
  | _ => none

section
variable {Y : Value} {γ : Nat → Value} {w : World} {M : Nat → Prop} {objs : List (Nat × Obj)}

theorem RAs_map_p : ∀ {cs : List PV} {xs : List Value}, RPs w M cs xs → RAs Y γ w M (cs.map .p) xs := RAs.of_RPs

theorem cellsA_sound {x : AV} {cs : List AV} {v : Value} (h : cellsA x = some cs) (hr : RA Y γ w M x v) : ∃ xs : List Value, v = .agg xs.toArray ∧ RAs Y γ w M cs xs ∧ One xs := by
  unfold cellsA at h
  split at h
  · obtain rfl := Option.some.inj h
    simpa only [RA] using hr
  · obtain rfl := Option.some.inj h
    simp only [RA, RP] at hr
    obtain ⟨xs, rfl, h1, h2⟩ := hr
    exact ⟨xs, rfl, RAs.of_RPs h1, h2⟩
  · cases h

theorem loadL_p {T : TypeId} {cs : List PV} {p : PV} (h : loadL P T PV.agg cs = some p) {ad : Addr} {xs : List Value} (hx : RPs w M cs xs) (h1 : One xs)
    (hc : ∀ j v, xs[j]? = some v → w.cell? (ad.add j) = some v) : ∃ v, (loadVar T ad).run P w = .ok v w ∧ RP w M p v := by
  unfold loadL at h
  split at h
  · rename_i d k hd hk
    obtain ⟨ha, hb⟩ := run_loadVar_cells hd hk w ad xs hc
    split at h
    · rename_i hr
      split at h
      · rename_i hl
        obtain rfl := Option.some.inj h
        refine ⟨_, ha hr (by rw [hx.length]; exact hl), ?_⟩
        simp only [RP]
        exact ⟨_, rfl, hx.take k, h1.take k⟩
      · cases h
    · rename_i hr
      obtain ⟨v, hv, hp⟩ := hx.get h
      exact ⟨v, hb (by simpa using hr) v hv, hp⟩
  · cases h

theorem loadL_a {T : TypeId} {cs : List AV} {p : AV} (h : loadL P T AV.agg cs = some p) {ad : Addr} {xs : List Value} (hx : RAs Y γ w M cs xs) (h1 : One xs)
    (hc : ∀ j v, xs[j]? = some v → w.cell? (ad.add j) = some v) : ∃ v, (loadVar T ad).run P w = .ok v w ∧ RA Y γ w M p v := by
  unfold loadL at h
  split at h
  · rename_i d k hd hk
    obtain ⟨ha, hb⟩ := run_loadVar_cells hd hk w ad xs hc
    split at h
    · rename_i hr
      split at h
      · rename_i hl
        obtain rfl := Option.some.inj h
        refine ⟨_, ha hr (by rw [hx.length]; exact hl), ?_⟩
        simp only [RA]
        exact ⟨_, rfl, hx.take k, h1.take k⟩
      · cases h
    · rename_i hr
      obtain ⟨v, hv, hp⟩ := hx.get h
      exact ⟨v, hb (by simpa using hr) v hv, hp⟩
  · cases h

theorem loadL_some_ne {α : Type} {T : TypeId} {f : List α → α} {cs : List α} {p : α} (h : loadL P T f cs = some p) : cs ≠ [] ∨ ∃ d, P.underlying T = some d ∧ d.isRow = true ∧ size? P T = some 0 := by
  unfold loadL at h
  split at h
  · rename_i d k hd hk
    split at h
    · rename_i hr
      split at h
      · rename_i hl
        cases cs with
        | nil => right; simp at hl; subst hl; exact ⟨d, hd, hr, hk⟩
        | cons c cs => left; simp
      · cases h
    · left; intro e; subst e; simp at h
  · cases h

theorem block_cells {g : Nat} {cs : Array Value} {T : TypeId} {fr : Nat × Nat} (hg : w.heap[g]? = some (.cells cs T fr)) (off : Nat) :
    ∀ j v, (cs.toList.drop off)[j]? = some v → w.cell? ((⟨g, off, none⟩ : Addr).add j) = some v := by
  intro j v hv
  rw [Addr.add_mid]
  simp only [World.cell?, hg]
  simpa [List.getElem?_drop] using hv

theorem loadA_sound (hobj : ∀ d o, get d objs = some o → SimObj Y γ w M d o) {T : TypeId} {x r : AV} {v : Value} (h : loadA P objs T x = some r) (hx : RA Y γ w M x v) :
    ∃ u, (Instr.loadAt T v).run P w = .ok u w ∧ RA Y γ w M r u := by
  unfold loadA at h
  split at h
  · rename_i cs
    obtain ⟨p, hp, rfl⟩ := Option.map_eq_some_iff.1 h
    simp only [RA, RP] at hx
    obtain ⟨ad, xs, rfl, h1, h2, hat⟩ := hx
    have hc : ∀ j v, xs[j]? = some v → w.cell? (ad.add j) = some v := by
      intro j v hj
      have hne : xs ≠ [] := by intro e; subst e; simp at hj
      obtain ⟨ad', he, _, hc⟩ := hat hne
      cases he
      exact hc j v hj
    obtain ⟨u, hu, hr⟩ := loadL_p hp h1 h2 hc
    exact ⟨u, by simp [Instr.loadAt, Instr.sureAddr, hu], by simpa only [RA] using hr⟩
  · rename_i d off
    simp only [RA] at hx
    obtain ⟨b, hb, rfl⟩ := hx
    split at h
    · rename_i T' cs ho
      have := hobj d _ ho
      simp only [SimObj] at this
      obtain ⟨b', xs, hg, hh, h1, h2⟩ := this
      rw [hg] at hb
      simp only [blk, Option.some.injEq] at hb
      subst hb
      obtain ⟨u, hu, hr⟩ := loadL_a (ad := ⟨b', off, none⟩) h (h1.drop off) (h2.drop off) (by simpa using block_cells hh off)
      exact ⟨u, by simp [Instr.loadAt, Instr.sureAddr, hu], hr⟩
    · rename_i T' sz n cs ho
      obtain ⟨p, hp, rfl⟩ := Option.map_eq_some_iff.1 h
      have := hobj d _ ho
      simp only [SimObj] at this
      obtain ⟨A, c, xs, hg, hnc, hcm, hlen, h1, h2, hh⟩ := this
      rw [hg] at hb
      have hc0 : 0 < c := by
        cases c with
        | zero => cases A <;> simp [blk] at hb
        | succ c => omega
      obtain ⟨g, cur, rfl, hh, hcs, htk⟩ := hh hc0
      have hgb : g = b := by
        cases c with
        | zero => omega
        | succ c => simpa [blk] using hb
      subst hgb
      obtain ⟨u, hu, hr⟩ := loadL_p (ad := ⟨g, off, none⟩) hp (h1.drop off) (h2.drop off) (by
        intro j v hj
        refine block_cells hh off j v ?_
        rw [← htk, List.getElem?_drop, List.getElem?_take] at hj
        split at hj
        · rwa [List.getElem?_drop]
        · cases hj)
      exact ⟨u, by simp [Instr.loadAt, Instr.sureAddr, hu], by simpa only [RA] using hr⟩
    · cases h
  · cases h

theorem add_add_addr (a : Addr) (m n : Nat) : (a.add m).add n = a.add (m + n) := by
  unfold Addr.add
  by_cases hm : m = 0
  · subst hm; simp
  · by_cases hn : n = 0
    · subst hn; simp
    · simp [hm, hn, Nat.add_assoc]

theorem rop_drop {cs : List PV} {ad : Addr} {xs : List Value} (k : Nat) (h1 : RPs w M cs xs) (h2 : One xs) (hat : At w M (some ad) xs) : RP w M (.rop (cs.drop k)) (.pointer (some (ad.add k))) := by
  simp only [RP]
  refine ⟨_, _, rfl, h1.drop k, h2.drop k, ?_⟩
  intro hne
  have hx : xs ≠ [] := by intro e; subst e; simp at hne
  obtain ⟨ad', he, hn, hc⟩ := hat hx
  cases he
  refine ⟨_, rfl, ?_, fun j v hj => ?_⟩
  · have : (ad.add k).block = ad.block := by unfold Addr.add; split <;> rfl
    rw [this]; exact hn
  · rw [add_add_addr]
    exact hc _ _ (by rwa [List.getElem?_drop] at hj)

theorem fieldAddrA_sound {S f : Nat} {x r : AV} {v : Value} (h : fieldAddrA P S f x = some r) (hx : RA Y γ w M x v) :
    ∃ u, (Instr.fieldAt S v f).run P w = .ok u w ∧ RA Y γ w M r u := by
  unfold fieldAddrA at h
  split at h
  · rename_i fd hfd
    split at h
    · rename_i k hk
      unfold fieldOf at hfd
      split at hfd
      · rename_i fs hfs
        have place : ∀ ad : Addr, (Instr.fieldAt S (.pointer (some ad)) f).run P w = .ok (.pointer (some (ad.add fd.offset))) w := by
          intro ad
          simp [Instr.fieldAt, run_underlying hfs, hfd, Instr.sureAddr, fieldPlace, run_sizeOf' hk]
        split at h
        · rename_i cs
          obtain rfl := Option.some.inj h
          simp only [RA, RP] at hx
          obtain ⟨ad, xs, rfl, h1, h2, hat⟩ := hx
          exact ⟨_, place ad, by simp only [RA]; exact rop_drop _ h1 h2 hat⟩
        · rename_i d off
          obtain rfl := Option.some.inj h
          simp only [RA] at hx
          obtain ⟨b, hb, rfl⟩ := hx
          refine ⟨_, place _, ?_⟩
          simp only [RA]
          exact ⟨b, hb, by rw [Addr.add_mid]⟩
        · cases h
      · cases hfd
    · cases h
  · cases h

theorem part_sound {T : TypeId} {d : TypeDesc} {k : Nat} (hd : P.underlying T = some d) (hk : size? P T = some k) {cs : List AV} {xs : List Value} (h1 : RAs Y γ w M cs xs) (h2 : One xs) {off : Nat} {r : AV}
    (h : (if d.isRow then some (.agg ((cs.drop off).take k)) else cs[off]?) = some r) : ∃ u, (part T xs.toArray off).run P w = .ok u w ∧ RA Y γ w M r u := by
  split at h
  · rename_i hr
    obtain rfl := Option.some.inj h
    refine ⟨_, by simp [part, run_isAgg' hd w, hr, run_sizeOf' hk w]; rfl, ?_⟩
    simp only [RA]
    exact ⟨(xs.drop off).take k, by simp [List.extract_eq_take_drop], (h1.drop off).take k, (h2.drop off).take k⟩
  · rename_i hr
    obtain ⟨v, hv, hp⟩ := h1.get h
    exact ⟨v, by simp [part, run_isAgg' hd w, hr, hv], hp⟩

theorem fieldA_sound {S f : Nat} {x r : AV} {v : Value} (h : fieldA P S f x = some r) (hx : RA Y γ w M x v) :
    ∃ u, (Instr.field S v f).run P w = .ok u w ∧ RA Y γ w M r u := by
  unfold fieldA at h
  split at h
  · rename_i fd cs hfd hcs
    obtain ⟨xs, rfl, h1, h2⟩ := cellsA_sound hcs hx
    unfold fieldOf at hfd
    split at hfd
    · rename_i fs hfs
      split at h
      · rename_i d k hd hk
        obtain ⟨u, hu, hr⟩ := part_sound hd hk h1 h2 h
        exact ⟨u, by simp [Instr.field, run_underlying hfs, hfd, asAgg, hu], hr⟩
      · cases h
    · cases hfd
  · cases h

theorem indexAddrA_sound (hobj : ∀ d o, get d objs = some o → SimObj Y γ w M d o) {T : TypeId} {x r : AV} {q : IntKind} {i : Int} {v : Value} (h : indexAddrA P objs T x i = some r) (hx : RA Y γ w M x v) :
    ∃ u, (Instr.indexAt T v (.int q i)).run P w = .ok u w ∧ RA Y γ w M r u := by
  unfold indexAddrA at h
  split at h
  · rename_i len e hu
    split at h
    · rename_i k hk
      split at h
      · rename_i hi
        have place : ∀ ad : Addr, (Instr.indexAt T (.pointer (some ad)) (.int q i)).run P w = .ok (.pointer (some (ad.add (i.toNat * k)))) w := by
          intro ad
          simp [Instr.indexAt, asIntOf, run_underlying hu, Instr.sureAddr, hi, run_sizeOf' hk]
        split at h
        · rename_i cs
          obtain rfl := Option.some.inj h
          simp only [RA, RP] at hx
          obtain ⟨ad, xs, rfl, h1, h2, hat⟩ := hx
          exact ⟨_, place ad, by simp only [RA]; exact rop_drop _ h1 h2 hat⟩
        · rename_i d off
          obtain rfl := Option.some.inj h
          simp only [RA] at hx
          obtain ⟨b, hb, rfl⟩ := hx
          refine ⟨_, place _, ?_⟩
          simp only [RA]
          exact ⟨b, hb, by rw [Addr.add_mid]⟩
        · cases h
      · cases h
    · cases h
  · rename_i e hu
    split at h
    · rename_i k hk
      have place : ∀ (ad : Addr) (n c : Nat), (0 ≤ i ∧ i < n) → (Instr.indexAt T (.slice (some ad) n c) (.int q i)).run P w = .ok (.pointer (some (ad.add (i.toNat * k)))) w := by
        intro ad n c hi
        simp [Instr.indexAt, asIntOf, run_underlying hu, hi, run_sizeOf' hk]
      split at h
      · rename_i tg n cs
        split at h
        · rename_i hi
          obtain rfl := Option.some.inj h
          simp only [RA, RP] at hx
          obtain ⟨A, c, xs, rfl, _, _, _, h1, h2, hat⟩ := hx
          have hne : xs ≠ [] := by
            intro e; subst e
            have := h1.length
            have h3 : 0 < n * k := Nat.mul_pos (by omega) hi.2.2.2
            simp at this
            omega
          obtain ⟨ad, rfl, hn, hc⟩ := hat hne
          refine ⟨_, place ad n c ⟨hi.1, hi.2.1⟩, ?_⟩
          simp only [RA]
          exact rop_drop _ h1 h2 hat
        · cases h
      · rename_i d
        split at h
        · rename_i T' sz n cs ho
          split at h
          · rename_i hi
            obtain rfl := Option.some.inj h
            simp only [RA] at hx
            subst hx
            have := hobj d _ ho
            simp only [SimObj] at this
            obtain ⟨A, c, xs, hg, hnc, _, _, _, _, hb⟩ := this
            obtain ⟨g, cur, rfl, _⟩ := hb (by omega)
            rw [hg]
            refine ⟨_, place _ n c hi, ?_⟩
            simp only [RA]
            refine ⟨g, ?_, by rw [Addr.add_mid]; simp⟩
            rw [hg]
            obtain ⟨c', rfl⟩ : ∃ c', c = c' + 1 := ⟨c - 1, by omega⟩
            rfl
          · cases h
        · cases h
      · rename_i d off n
        split at h
        · rename_i hi
          obtain rfl := Option.some.inj h
          simp only [RA] at hx
          obtain ⟨A, c, rfl, _, _, hA⟩ := hx
          obtain ⟨b, hb, rfl⟩ := hA.1 (by omega)
          refine ⟨_, place _ n c hi, ?_⟩
          simp only [RA]
          exact ⟨b, hb, by rw [Addr.add_mid]⟩
        · cases h
      · cases h
    · cases h
  · cases h

theorem indexA_sound {T : TypeId} {x r : AV} {q : IntKind} {i : Int} {v : Value} (h : indexA P T x i = some r) (hx : RA Y γ w M x v) :
    ∃ u, (Instr.index T v (.int q i)).run P w = .ok u w ∧ RA Y γ w M r u := by
  unfold indexA at h
  split at h
  · rename_i len e x hu
    split at h
    · rename_i cs d k hcs hd hk
      split at h
      · rename_i hi
        obtain ⟨xs, rfl, h1, h2⟩ := cellsA_sound hcs hx
        obtain ⟨u, hu', hr⟩ := part_sound hd hk h1 h2 h
        exact ⟨u, by simp [Instr.index, asIntOf, run_underlying hu, hi, run_sizeOf' hk, hu'], hr⟩
      · cases h
    · cases h
  · rename_i s hu
    split at h
    · rename_i hi
      obtain ⟨b, hb, rfl⟩ := Option.map_eq_some_iff.1 h
      simp only [RA, RP] at hx
      subst hx
      exact ⟨_, by simp [Instr.index, asIntOf, run_underlying hu, hi, hb]; rfl, by simp only [RA, RP]⟩
    · cases h
  · cases h

theorem extractA_sound {x r : AV} {i : Nat} {v : Value} (h : extractA x i = some r) (hx : RA Y γ w M x v) :
    ∃ u, (Instr.extract v i).run P w = .ok u w ∧ RA Y γ w M r u := by
  unfold extractA at h
  split at h
  · simp only [RA] at hx
    obtain ⟨xs, rfl, h1⟩ := hx
    obtain ⟨u, hu, hr⟩ := h1.get h
    exact ⟨u, by simp [Instr.extract, hu], hr⟩
  · obtain ⟨p, hp, rfl⟩ := Option.map_eq_some_iff.1 h
    simp only [RA, RP] at hx
    obtain ⟨xs, rfl, h1⟩ := hx
    obtain ⟨u, hu, hr⟩ := h1.get hp
    exact ⟨u, by simp [Instr.extract, hu], by simpa only [RA] using hr⟩
  · cases h
end
end Go.AE
