/- YtombondekjflaaaAhObj: a part of the proof; see the last text for what is proved. -/
import Derived.Test.YtombondekjflaaaAhAlloc
set_option linter.unusedVariables false
set_option linter.unusedSimpArgs false
namespace Go.AE
open Go.RowKit

variable {P : Program}

def bytes? (P : Program) (T : TypeId) : Option Nat := (P.info? T).map (·.bytes)

def cellA : Value → PV
  | .slice none 0 0 => .sl .any 0 []
  | v => .s v
theorem RP_cellA (w : World) (M : Nat → Prop) (v : Value) : RP w M (cellA v) v := by
  unfold cellA
  split
  · simp only [RP]
    exact ⟨none, 0, [], rfl, trivial, Nat.le_refl _, Nat.zero_le _, by simp [RPs], by simp [One], by simp [At]⟩
  · simp only [RP]
def repZ (n : Nat) (zs : List Value) : List PV :=
  match zs with
  | [z] => List.replicate n (cellA z)
  | _ => (List.range (n * zs.length)).map fun i => cellA (zs.getD (i % zs.length) undef)

def allocO (P : Program) (regs : List (Nat × AV)) (objs : List (Nat × Obj)) (op : Go.Op) : Option Obj :=
  match op with
  | .alloc T => (zeroC P T).map fun zs => .box T (zeroA zs)
  | .box T x => match ev regs x with
    | some v => (cellsC objs v).map (.box T)
    | none => none
  | .makeSlice T l c =>
    match P.underlying T with
    | some (.slice e) =>
      match zeroC P e, bytes? P e, evI regs l, evI regs c with
      | some zs, some b, some l, some c =>
        if 0 ≤ l ∧ l ≤ c ∧ (b : Int) * c ≤ 281474976710656 ∧ c ≤ 9223372036854775807 then some (.row e zs.length l.toNat (repZ l.toNat zs)) else none
      | _, _, _, _ => none
    | _ => none
  | .buildSlice T n parts =>
    match P.underlying T, evParts regs parts.toList with
    | some (.slice e), some ps =>
      match zeroC P e with
      | some zs =>
        if n * zs.length ≤ 16777216 ∧ n ≤ 16777216 then
          match fillA objs (fun i => some (i * zs.length, zs.length)) ((repZ n zs).map .p) ps with
          | some cs => (AV.toPs cs).map (.row e zs.length n)
          | none => none
        else none
      | none => none
    | _, _ => none
  | _ => none

section
variable {Y : Value} {γ : Nat → Value} {w : World} {M : Nat → Prop} {objs : List (Nat × Obj)} {regs : List (Nat × AV)} {a : Act}

theorem repZ_list (n : Nat) (zs : List Value) : repZ n zs = (List.range (n * zs.length)).map fun i => cellA (zs.getD (i % zs.length) undef) := by
  unfold repZ
  split
  · rename_i z
    simp only [List.length_singleton, Nat.mul_one, Nat.mod_one, List.getD_cons_zero]
    apply List.ext_getElem?
    intro j
    simp [List.getElem?_replicate]
    by_cases h : j < n <;> simp [h]
  · rfl

theorem madeCells_list (zs : List Value) (n : Nat) (hz : n ≠ 0 → zs ≠ []) : (madeCells zs.toArray n).toList = (List.range n).map fun i => zs.getD (i % zs.length) undef := by
  unfold madeCells
  apply List.ext_getElem?
  intro j
  simp only [Array.toList_map, Array.toList_range, List.getElem?_map, List.size_toArray]
  by_cases h : j < n
  · have hne := hz (by omega)
    have hpos : 0 < zs.length := List.length_pos_iff.2 hne
    have hm := Nat.mod_lt j hpos
    simp [h, hm, List.getD_eq_getElem?_getD]
  · simp [h]

theorem One_made {zs : List Value} (h : One zs) (n : Nat) (hz : n ≠ 0 → zs ≠ []) : One ((List.range n).map fun i => zs.getD (i % zs.length) undef) := by
  intro v hv
  obtain ⟨i, hi, rfl⟩ := List.mem_map.1 hv
  have hi' := List.mem_range.1 hi
  have hpos : 0 < zs.length := List.length_pos_iff.2 (hz (by omega))
  have hm := Nat.mod_lt i hpos
  simp only [List.getD_eq_getElem?_getD, List.getElem?_eq_getElem hm, Option.getD_some]
  exact h _ (List.getElem_mem hm)

theorem RPs_cellA (w : World) (M : Nat → Prop) : ∀ vs : List Value, RPs w M (vs.map cellA) vs
  | [] => by simp [RPs]
  | v :: vs => by simp only [List.map_cons, RPs]; exact ⟨v, vs, rfl, RP_cellA w M v, RPs_cellA w M vs⟩
theorem RPs_repZ (n : Nat) (zs : List Value) : RPs w M (repZ n zs) ((List.range (n * zs.length)).map fun i => zs.getD (i % zs.length) undef) := by
  rw [repZ_list]
  have := RPs_cellA w M ((List.range (n * zs.length)).map fun i => zs.getD (i % zs.length) undef)
  simpa [Function.comp_def] using this
theorem repZ_length (n : Nat) (zs : List Value) : (repZ n zs).length = n * zs.length := by rw [repZ_list]; simp

theorem heap_new (w : World) (o : Go.Obj) : (w.alloc o).heap[w.heap.size]? = some o := World.alloc_heap_new w o

theorem allocO_sound (hγ : ∀ d o, get d objs = some o → SimObj Y γ w M d o) (S : RegsG Y γ w M regs a.tmps) {o : Oper} {ob : Obj} (h : allocO P regs objs o.op = some ob) (d : Nat) :
    ∃ v ob', (execOp a.eval o).run P w = .ok (.value v) (w.alloc ob') ∧ (∀ b, blk v = some b → b = w.heap.size) ∧
      ∀ M', (∀ b, b < w.heap.size → M' b → M b) → SimObj Y (upd γ d v) (w.alloc ob') M' d (ob.kill d) := by
  have hsame : ∀ ob', Same M w (w.alloc ob') := fun ob' => Same.alloc M w ob'
  obtain ⟨dst, op, type, pos, after, guard⟩ := o
  cases op <;> simp only [allocO] at h <;> first | (cases h; done) | skip
  case alloc T =>
    obtain ⟨zs, hz, rfl⟩ := Option.map_eq_some_iff.1 h
    obtain ⟨i, z, hi, hzz, hzc, hone, hlen⟩ := zeroC_sound hz
    refine ⟨.pointer (some ⟨w.heap.size, 0, none⟩), .cells zs.toArray T, ?_, ?_, fun M' hM => ?_⟩
    · simp [execOp, Instr.alloc, zeroValue, typeInfo, hi, hzz, newVar, newRow, hzc]
    · intro b hb; simpa [blk] using hb.symm
    · simp only [Obj.kill, SimObj]
      refine ⟨w.heap.size, zs, by rw [upd_same], heap_new _ _, ?_, hone⟩
      refine RAs.kill (γ := γ) (fun e he => upd_ne he) _ _ ?_
      exact zeroA_sound zs
  case box T x =>
    split at h
    · rename_i v hv
      obtain ⟨cs, hcs, rfl⟩ := Option.map_eq_some_iff.1 h
      obtain ⟨h1, h2⟩ := cellsC_sound hγ hcs (ev_sound hv S)
      refine ⟨.pointer (some ⟨w.heap.size, 0, none⟩), .cells (a.eval x).cells T, ?_, ?_, fun M' hM => ?_⟩
      · simp [execOp, Instr.box, newVar, newRow]
      · intro b hb; simpa [blk] using hb.symm
      · simp only [Obj.kill, SimObj]
        refine ⟨w.heap.size, (a.eval x).cells.toList, by rw [upd_same], by simpa using heap_new _ _, ?_, h2⟩
        exact RAs.kill (γ := γ) (fun e he => upd_ne he) _ _ (RAs.mono (hsame _) hM _ _ h1)
    · cases h
  case makeSlice T l c =>
    split at h
    · rename_i e hu
      split at h
      · rename_i zs b li ci hz hb hl hc
        split at h
        · rename_i hcond
          obtain rfl := Option.some.inj h
          obtain ⟨i, z, hi, hzz, hzc, hone, hlen⟩ := zeroC_sound hz
          obtain ⟨kl, hkl⟩ := evI_sound hl S
          obtain ⟨kc, hkc⟩ := evI_sound hc S
          have hib : i.bytes = b := by unfold bytes? at hb; rw [hi] at hb; simpa using hb
          have hr := run_make (P := P) w T e i z hu hi hzz kl kc li ci hcond.1 hcond.2.1 (by rw [hib]; exact hcond.2.2.1) hcond.2.2.2
          have hzl : ∀ n, n * zs.length ≠ 0 → zs ≠ [] := fun n hn e => hn (by subst e; simp)
          refine ⟨_, _, by simp [execOp, hkl, hkc, hr]; exact ⟨rfl, rfl⟩, ?_, fun M' hM => ?_⟩
          · intro b hb
            cases hcn : ci.toNat with
            | zero => rw [hcn] at hb; simp [blk] at hb
            | succ m => rw [hcn] at hb; simpa [blk] using hb.symm
          · simp only [Obj.kill, SimObj, upd_same]
            refine ⟨_, _, (List.range (li.toNat * zs.length)).map fun i => zs.getD (i % zs.length) undef, rfl, by omega, by have := hcond.2.2.2; simp only [maxLen]; omega, repZ_length _ _, RPs_repZ _ _, One_made hone _ (hzl _), fun hc0 => ?_⟩
            refine ⟨w.heap.size, _, rfl, heap_new _ _, by rw [size_madeCells, hlen], ?_⟩
            rw [hzc, madeCells_list _ _ (by intro hn; rw [← hlen] at hn; exact hzl _ hn), ← List.map_take, List.take_range, ← hlen]
            congr 2
            have : li.toNat * zs.length ≤ ci.toNat * zs.length := Nat.mul_le_mul_right _ (by omega)
            omega
        · cases h
      · cases h
    · cases h
  case buildSlice T n parts =>
    split at h
    · rename_i e ps hu hps
      split at h
      · rename_i zs hz
        split at h
        · rename_i hcap
          split at h
          · rename_i cs hcs
            obtain ⟨qs, hqs, rfl⟩ := Option.map_eq_some_iff.1 h
            obtain ⟨i, z, hi, hzz, hzc, hone, hlen⟩ := zeroC_sound hz
            have hzl : n * zs.length ≠ 0 → zs ≠ [] := fun hn e => hn (by subst e; simp)
            obtain ⟨ys, hy, h1, h2⟩ := fillA_sound hγ ps _ _ _ _ hcs (evParts_sound hps S) (RAs.of_RPs (RPs_repZ n zs)) (One_made hone _ hzl)
            have h3 := toPs_sound cs qs ys hqs h1
            have hn : i.size = zs.length := hlen.symm
            have hyl : ys.length = n * zs.length := by
              have hf : ∀ (pls : List (Nat × Value)) (xs : Array Value) (r : Array Value), Instr.fill (fun i => some (i * zs.length, zs.length)) xs pls = some r → r.size = xs.size := by
                intro pls
                induction pls with
                | nil => intro xs r h; simp [Instr.fill] at h; rw [h]
                | cons q pls ih =>
                  intro xs r h
                  obtain ⟨j, u⟩ := q
                  simp only [Instr.fill] at h
                  split at h
                  · cases h
                  · have := ih _ _ h
                    rw [this]
                    have hg : ∀ (l : List (Value × Nat)) (xs : Array Value), (l.foldl (fun cs (c, j') => cs.setIfInBounds (j * zs.length + j') c) xs).size = xs.size := by
                      intro l
                      induction l with
                      | nil => intro xs; rfl
                      | cons q l ih2 => intro xs; simp only [List.foldl_cons]; rw [ih2]; simp
                    rw [← Array.foldl_toList]
                    exact hg _ _
              have := hf _ _ _ hy
              simpa using this
            refine ⟨.slice (some ⟨w.heap.size, 0, none⟩) n n, .cells ys.toArray e, ?_, ?_, fun M' hM => ?_⟩
            · have hrow : (((Array.range (n * zs.length)).map fun j => (if n * zs.length = 0 then (#[] : Array Value) else zs.toArray)[j % (if n * zs.length = 0 then (#[] : Array Value) else zs.toArray).size]!)) = ((List.range (n * zs.length)).map fun i => zs.getD (i % zs.length) undef).toArray := by
                by_cases h0 : n * zs.length = 0
                · rw [h0]; apply Array.ext'; simp [Array.range]
                · rw [if_neg h0]
                  apply Array.ext'
                  have := madeCells_list zs (n * zs.length) hzl
                  rw [← this]
                  rfl
              have hy' := hy
              rw [← hrow] at hy'
              simp only [execOp, Instr.buildSlice, Sem.run_bind, run_underlying hu, Result.andThen_ok]
              by_cases h0 : n * zs.length = 0
              · rw [if_pos h0] at hy'
                simp [sizeOf, typeInfo, hi, hn, h0, newRow] at hy' ⊢
                rw [hy']
                simp
              · rw [if_neg h0] at hy'
                have h0' : ¬ (16777216 < n * zs.length) := by omega
                have h0a : ¬ (n = 0 ∨ zs = []) := by
                  rintro (e | e)
                  · exact h0 (by rw [e]; simp)
                  · exact h0 (by rw [e]; simp)
                simp [sizeOf, typeInfo, zeroValue, hi, hn, hzz, hzc, h0, h0', h0a, newRow] at hy' ⊢
                rw [hy']
                simp
            · intro b hb
              cases n with
              | zero => simp [blk] at hb
              | succ m => simpa [blk] using hb.symm
            · simp only [Obj.kill, SimObj, upd_same]
              refine ⟨_, _, ys, rfl, Nat.le_refl _, ?_, ?_, RPs.mono (hsame _) hM _ _ h3, h2, fun hc0 => ?_⟩
              · have := hcap.2
                simp only [maxLen]
                omega
              · rw [← h3.length, hyl]
              · exact ⟨w.heap.size, _, rfl, heap_new _ _, by simp [hyl], by rw [← hyl]; simp⟩
          · cases h
        · cases h
      · cases h
    · cases h
end
end Go.AE
