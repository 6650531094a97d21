/- YtombondekjflaaaAhStore: a part of the proof; see the last text for what is proved. -/
import Derived.Test.YtombondekjflaaaAhObj
set_option linter.unusedVariables false
set_option linter.unusedSimpArgs false
namespace Go.AE
open Go.RowKit

variable {P : Program}

def storeO (P : Program) (regs : List (Nat × AV)) (objs : List (Nat × Obj)) (op : Go.Op) : Option (Nat × Obj) :=
  match op with
  | .store T x v =>
    match ev regs x, ev regs v, size? P T with
    | some (.ptr d off), some y, some k =>
      match cellsC objs y with
      | some vc =>
        match get d objs with
        | some (.box T' cs) => if vc.length = k ∧ off + k ≤ cs.length then some (d, .box T' (setL off vc cs)) else none
        | some (.row e sz n cs) =>
          match AV.toPs vc with
          | some ps => if vc.length = k ∧ off + k ≤ cs.length then some (d, .row e sz n (setL off ps cs)) else none
          | none => none
        | none => none
      | none => none
    | _, _, _ => none
  | _ => none

def srcA (P : Program) (objs : List (Nat × Obj)) (k : Nat) (tx : TypeId) (x : AV) : Option (Nat × List PV) :=
  match P.underlying tx, x with
  | some (.slice _), .p (.sl _ m cs) => if cs.length = m * k then some (m, cs) else none
  | some (.slice _), .own d =>
    match get d objs with
    | some (.row _ _ m cs) => if cs.length = m * k then some (m, cs) else none
    | _ => none
  | some (.slice _), .sub d off m =>
    match get d objs with
    | some (.row _ _ _ cs) => if off + m * k ≤ cs.length then some (m, (cs.drop off).take (m * k)) else none
    | some (.box _ cs) => if off + m * k ≤ cs.length then (AV.toPs ((cs.drop off).take (m * k))).map fun ps => (m, ps) else none
    | none => none
  | some .string, .p (.s (.string b)) => if k = 1 then some (b.size, b.data.toList.map fun c => .s (.int .u8 c.toNat)) else none
  | _, _ => none

def baseA (objs : List (Nat × Obj)) (k : Nat) (m : Nat) : AV → Option (Option Nat × Nat × List PV)
  | .p (.sl .nil 0 []) => some (none, 0, [])
  | .p (.sl .full n cs) => if cs.length = n * k ∧ (n = 0 ∨ 0 < m) then some (none, n, cs) else none
  | .p (.sl .tight n cs) => if cs.length = n * k ∧ (n = 0 ∨ 0 < m) then some (none, n, cs) else none
  | .own d => match get d objs with
    | some (.row _ _ n cs) => some (some d, n, cs)
    | _ => none
  | _ => none

def baseT (objs : List (Nat × Obj)) (e k : Nat) : Option Nat → Bool
  | none => true
  | some d => match get d objs with
    | some (.row e' sz _ _) => e' = e ∧ sz = k
    | _ => false

def appendZ (P : Program) (regs : List (Nat × AV)) (op : Go.Op) : Option (Option Nat × Obj) :=
  match op with
  | .call c =>
    match c.callee, evs regs c.args.toList, c.argTypes.toList with
    | .builtin .append, some [.p (.sl .nil 0 []), .p (.s (.int .i64 l))], [t, tx] =>
      match P.underlying t, P.underlying tx with
      | some (.slice e), some (.int _) =>
        match zeroC P e, bytes? P e with
        | some zs, some by_ => if 0 < zs.length ∧ 0 ≤ l ∧ l.toNat * by_ ≤ 140737488355328 ∧ l.toNat ≤ maxLen then some (none, .row e zs.length l.toNat (repZ l.toNat zs)) else none
        | _, _ => none
      | _, _ => none
    | _, _, _ => none
  | _ => none

def appendO0 (P : Program) (regs : List (Nat × AV)) (objs : List (Nat × Obj)) (op : Go.Op) : Option (Option Nat × Obj) :=
  match op with
  | .call c =>
    match c.callee, evs regs c.args.toList, c.argTypes.toList with
    | .builtin .append, some [s, x], [t, tx] =>
      match P.underlying t with
      | some (.slice e) =>
        match zeroC P e, bytes? P e with
        | some zs, some by_ =>
          match srcA P objs zs.length tx x with
          | some (m, xs) =>
            match baseA objs zs.length m s with
            | some (d0, n, cs) =>
              if baseT objs e zs.length d0 = true ∧ (n + m) * by_ ≤ 140737488355328 ∧ n + m ≤ maxLen then some (d0, .row e zs.length (n + m) (cs ++ xs)) else none
            | none => none
          | none => none
        | _, _ => none
      | _ => none
    | _, _, _ => none
  | _ => none

def appendO (P : Program) (regs : List (Nat × AV)) (objs : List (Nat × Obj)) (op : Go.Op) : Option (Option Nat × Obj) :=
  match appendZ P regs op with
  | some r => some r
  | none => appendO0 P regs objs op

section
variable {Y : Value} {γ : Nat → Value} {w : World} {M : Nat → Prop} {objs : List (Nat × Obj)} {regs : List (Nat × AV)} {a : Act}

theorem same_setRow {M : Nat → Prop} (w : World) (g : Nat) (cs : Array Value) (h : M g) : Same M w (w.setRow g cs) :=
  ⟨rfl, rfl, rfl, by simp, fun b _ hn => setRow_other w g b cs (fun e => hn (e ▸ h))⟩

theorem storeO_sound (hγ : ∀ d o, get d objs = some o → SimObj Y γ w M d o) (S : RegsG Y γ w M regs a.tmps) (hM : ∀ d o b, get d objs = some o → blk (γ d) = some b → M b) {o : Oper} {d : Nat} {ob : Obj} (h : storeO P regs objs o.op = some (d, ob)) :
    ∃ w' ob0, get d objs = some ob0 ∧ (execOp a.eval o).run P w = .ok .skip w' ∧ Same (fun b => blk (γ d) = some b) w w' ∧ SimObj Y γ w' M d ob := by
  obtain ⟨dst, op, type, pos, after, guard⟩ := o
  cases op <;> simp only [storeO] at h <;> first | (cases h; done) | skip
  case store T x v =>
    split at h
    · rename_i d' off y k hx hy hk
      split at h
      · rename_i vc hvc
        have hxv := ev_sound hx S
        simp only [RA] at hxv
        obtain ⟨b, hb, hxe⟩ := hxv
        obtain ⟨hv1, hv2⟩ := cellsC_sound hγ hvc (ev_sound hy S)
        split at h
        · rename_i T' cs ho
          split at h
          · rename_i hc
            simp only [Option.some.injEq, Prod.mk.injEq] at h
            obtain ⟨rfl, rfl⟩ := h
            have hs := hγ _ _ ho
            simp only [SimObj] at hs
            obtain ⟨b', xs, hg, hh, h1, h2⟩ := hs
            have hbb : b' = b := by rw [hg] at hb; simpa [blk] using hb
            subst hbb
            have hl1 := hv1.length
            have hl2 := h1.length
            have hst := run_storeCells_at P b' off T' (a.eval v).cells.toList 0 xs.toArray w hh (by simp; simp at hl1; omega) hv2
            generalize hN : (List.take (off + 0) xs.toArray.toList ++ (a.eval v).cells.toList ++ List.drop (off + 0 + (a.eval v).cells.toList.length) xs.toArray.toList).toArray = N at hst
            refine ⟨w.setRow b' N, _, ho, ?_, same_setRow w b' _ hb, ?_⟩
            · have hsz : (a.eval v).cells.size = k := by simp at hl1; omega
              simp [execOp, hxe, Instr.storeAt, Instr.sureAddr, storeVar, run_sizeOf' hk, hsz, hst]
            · simp only [SimObj]
              refine ⟨b', setL off (a.eval v).cells.toList xs, hg, ?_, ?_, hv2.setL h2 off⟩
              · rw [setRow_heap w b' _ _ T' _ hh, setL_eq _ _ _ (by simp at hl1 ⊢; omega), ← hN]
                simp
              · exact RAs.setL off (RAs.mono (same_setRow w b' _ (hM d' _ b' ho hb)) (fun _ _ h => h) _ _ hv1) (RAs.mono (same_setRow w b' _ (hM d' _ b' ho hb)) (fun _ _ h => h) _ _ h1)
          · cases h
        · rename_i e sz n cs ho
          split at h
          · rename_i ps hps
            split at h
            · rename_i hc
              simp only [Option.some.injEq, Prod.mk.injEq] at h
              obtain ⟨rfl, rfl⟩ := h
              have hs := hγ _ _ ho
              simp only [SimObj] at hs
              obtain ⟨A, c, xs, hg, hnc, hcm, hlen, h1, h2, hh⟩ := hs
              have hc0 : 0 < c := by
                rw [hg] at hb
                cases c with
                | zero => cases A <;> simp [blk] at hb
                | succ c => omega
              obtain ⟨g, cur, rfl, hh, hcur, htk⟩ := hh hc0
              have hbb : g = b := by
                rw [hg] at hb
                obtain ⟨c', rfl⟩ : ∃ c', c = c' + 1 := ⟨c - 1, by omega⟩
                simpa [blk] using hb
              subst hbb
              have hl1 := hv1.length
              have hl2 := h1.length
              have hxl : xs.length ≤ cur.size := by rw [← htk]; simp; omega
              have hst := run_storeCells_at P g off e (a.eval v).cells.toList 0 cur w hh (by simp; simp at hl1; omega) hv2
              generalize hN : (List.take (off + 0) cur.toList ++ (a.eval v).cells.toList ++ List.drop (off + 0 + (a.eval v).cells.toList.length) cur.toList).toArray = N at hst
              refine ⟨w.setRow g N, _, ho, ?_, same_setRow w g _ hb, ?_⟩
              · have hsz : (a.eval v).cells.size = k := by simp at hl1; omega
                simp [execOp, hxe, Instr.storeAt, Instr.sureAddr, storeVar, run_sizeOf' hk, hsz, hst]
              · simp only [SimObj]
                refine ⟨_, c, setL off (a.eval v).cells.toList xs, hg, hnc, hcm, by rw [setL_length]; exact hlen, ?_, hv2.setL h2 off, fun _ => ?_⟩
                · exact RPs.setL off (RPs.mono (same_setRow w g _ (hM d' _ g ho hb)) (fun _ _ h => h) _ _ (toPs_sound vc ps _ hps hv1)) (RPs.mono (same_setRow w g _ (hM d' _ g ho hb)) (fun _ _ h => h) _ _ h1)
                · refine ⟨g, _, rfl, setRow_heap w g _ _ e _ hh, ?_, ?_⟩
                  · rw [← hN]; simp at hl1 ⊢; omega
                  · have hnk : n * sz ≤ c * sz := Nat.mul_le_mul_right _ hnc
                    have hbd : off + (a.eval v).cells.toList.length ≤ n * sz := by simp at hl1 ⊢; omega
                    rw [setL_eq _ _ _ (by simp at hl1 ⊢; omega), ← htk, ← hN]
                    have hcl : cur.toList.length = c * sz := by simpa using hcur
                    simp only [Nat.add_zero]
                    generalize (a.eval v).cells.toList = us at *
                    apply List.ext_getElem?
                    intro j
                    simp only [List.append_assoc, List.getElem?_take, List.getElem?_append, List.length_take, List.getElem?_drop, List.toList_toArray]
                    by_cases hj : j < n * sz
                    · simp only [hj, if_true]
                      have e1 : min off cur.toList.length = off := by omega
                      have e2 : min off (min (n * sz) cur.toList.length) = off := by omega
                      rw [e1, e2]
                      split
                      · rfl
                      · split
                        · rfl
                        · rw [if_pos (by omega)]
                    · simp only [hj, if_false]
                      have e2 : min off (min (n * sz) cur.toList.length) = off := by omega
                      rw [e2, if_neg (by omega), if_neg (by omega), if_neg (by omega)]
            · cases h
          · cases h
        · cases h
      · cases h
    · cases h
end
end Go.AE
