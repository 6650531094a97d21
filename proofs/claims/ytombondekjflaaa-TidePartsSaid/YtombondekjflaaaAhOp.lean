/- YtombondekjflaaaAhOp: a part of the proof; see the last text for what is proved. -/
import Derived.Test.YtombondekjflaaaAhState
import Derived.ChangeKeysEq
set_option linter.unusedVariables false
set_option linter.unusedSimpArgs false
namespace Go.AE
open Go.RowKit

variable {P : Program}

def size? (P : Program) (T : TypeId) : Option Nat := (P.info? T).map (·.size)

def loadL {α : Type} (P : Program) (T : TypeId) (agg : List α → α) (cs : List α) : Option α :=
  match P.underlying T, size? P T with
  | some d, some k => if d.isRow then (if k ≤ cs.length then some (agg (cs.take k)) else none) else cs[0]?
  | _, _ => none

theorem run_sizeOf' {T k : Nat} (h : size? P T = some k) (w : World) : (sizeOf T).run P w = .ok k w := by
  unfold size? at h
  cases hq : P.info? T with
  | none => simp [hq] at h
  | some i => simp [hq] at h; simp [sizeOf, typeInfo, hq, h]

theorem run_isAgg' {T : Nat} {d : TypeDesc} (h : P.underlying T = some d) (w : World) : (isAgg T).run P w = .ok d.isRow w := by
  unfold isAgg
  rw [Sem.run_bind, run_underlying h w]
  cases d <;> simp [TypeDesc.isRow]

theorem add_zero_addr (a : Addr) : a.add 0 = a := by simp [Addr.add]

theorem run_loadVar_cells {T : Nat} {d : TypeDesc} {k : Nat} (hd : P.underlying T = some d) (hk : size? P T = some k) (w : World) (ad : Addr) (xs : List Value)
    (hc : ∀ j v, xs[j]? = some v → w.cell? (ad.add j) = some v) :
    (d.isRow = true → k ≤ xs.length → (loadVar T ad).run P w = .ok (.agg (xs.take k).toArray) w) ∧
    (d.isRow = false → ∀ v, xs[0]? = some v → (loadVar T ad).run P w = .ok v w) := by
  refine ⟨fun hr hl => ?_, fun hr v hv => ?_⟩
  · have h1 : (loadCells ad (xs.take k).length).run P w = .ok (xs.take k).toArray w :=
      run_loadCells_list (P := P) w ad (xs.take k) (fun j v hv => by
        rw [List.getElem?_take] at hv
        split at hv
        · exact hc j v hv
        · cases hv)
    rw [show (xs.take k).length = k by simp; omega] at h1
    simp [loadVar, run_isAgg' hd w, hr, run_sizeOf' hk w, h1]
  · have h0 := hc 0 v hv
    rw [add_zero_addr] at h0
    simp [loadVar, run_isAgg' hd w, hr, load, Sem.run, h0]

/-! ### Operands -/
def cellP : Value → PV
  | .slice none 0 0 => .sl .nil 0 []
  | v => .s v
def constP : Value → PV
  | .agg cs => .agg (cs.toList.map cellP)
  | v => cellP v
def constOk : Value → Bool
  | .agg cs => cs.toList.all (·.oneCell')
  | _ => true

theorem RP_cellP (w : World) (M : Nat → Prop) (v : Value) : RP w M (cellP v) v := by
  unfold cellP
  split
  · simp only [RP]
    exact ⟨none, 0, [], rfl, ⟨rfl, rfl, rfl⟩, Nat.le_refl _, Nat.zero_le _, by simp [RPs], by simp [One], by simp [At]⟩
  · simp only [RP]
theorem RPs_cells (w : World) (M : Nat → Prop) : ∀ vs : List Value, RPs w M (vs.map cellP) vs
  | [] => by simp [RPs]
  | v :: vs => by simp only [List.map_cons, RPs]; exact ⟨v, vs, rfl, RP_cellP w M v, RPs_cells w M vs⟩
theorem RP_const (w : World) (M : Nat → Prop) (v : Value) (h : constOk v = true) : RP w M (constP v) v := by
  unfold constP
  split
  · rename_i cs
    simp only [RP]
    refine ⟨cs.toList, by simp, RPs_cells w M _, ?_⟩
    intro v hv
    simp only [constOk] at h
    exact List.all_eq_true.1 h v hv
  · exact RP_cellP w M v

def glA (g : Nat) : Option PV :=
  match gl.find? (fun e => decide (e.1 = g)) with
  | some (_, _, cs) => if cs.all (·.oneCell') = true then some (.rop (cs.map .s)) else none
  | none => none
theorem RPs_s {w : World} {M : Nat → Prop} : ∀ cs : List Value, RPs w M (cs.map .s) cs
  | [] => by simp [RPs]
  | c :: cs => by simp only [List.map_cons, RPs]; exact ⟨c, cs, rfl, by simp only [RP], RPs_s cs⟩
theorem glA_sound {w : World} {M : Nat → Prop} {g : Nat} {p : PV} (h : glA g = some p) (hG : GlOk w M) : RP w M p (.pointer (some ⟨g, 0, none⟩)) := by
  unfold glA at h
  split at h
  · rename_i g' T cs hf
    split at h
    · rename_i hc
      obtain rfl := Option.some.inj h
      have hm := List.mem_of_find?_eq_some hf
      have he := List.find?_some hf
      simp only [decide_eq_true_eq] at he
      subst he
      obtain ⟨⟨T', h1⟩, h2⟩ := hG _ _ _ hm
      simp only [RP]
      refine ⟨_, cs, rfl, RPs_s cs, fun v hv => List.all_eq_true.1 hc v hv, fun _ => ⟨_, rfl, h2, fun j v hj => ?_⟩⟩
      by_cases h0 : j = 0
      · subst h0; simp [World.cell?, Addr.add, h1]; simpa using hj
      · simp [World.cell?, Addr.add, h1, h0]; simpa using hj
    · cases h
  · cases h
def ev (regs : List (Nat × AV)) : Operand → Option AV
  | .tmp t => get t regs
  | .const v => if constOk v then some (.p (constP v)) else none
  | .func f => some (.p (.fn f []))
  | .global g => (glA g).map .p

section
variable {Y : Value} {γ : Nat → Value} {w : World} {M : Nat → Prop} {regs : List (Nat × AV)} {a : Act}
theorem ev_sound {x : Operand} {av : AV} (h : ev regs x = some av) (S : RegsG Y γ w M regs a.tmps) : RA Y γ w M av (a.eval x) := by
  cases x with
  | tmp t => exact S.1 t av h
  | const v =>
    simp only [ev] at h
    split at h
    · rename_i hc
      obtain rfl := Option.some.inj h
      simp only [RA]
      exact RP_const w M v hc
    · cases h
  | func f =>
    obtain rfl := Option.some.inj h
    simp only [RA, RP]
    exact ⟨[], rfl, by simp [RPs]⟩
  | global g =>
    simp only [ev] at h
    obtain ⟨p, hp, rfl⟩ := Option.map_eq_some_iff.1 h
    simp only [RA]
    exact glA_sound hp S.2
end

/-! ### Scalars -/
def intOp (op : BinOp) (k : IntKind) (a b : Int) : Option Value :=
  match op with
  | .add => some (.int k (k.wrap (a + b)))
  | .sub => some (.int k (k.wrap (a - b)))
  | .mul => some (.int k (k.wrap (a * b)))
  | .quo => if b = 0 then none else some (.int k (k.wrap (a.tdiv b)))
  | .rem => if b = 0 then none else some (.int k (a.tmod b))
  | .and => some (.int k (bits .and k a b))
  | .or => some (.int k (bits .or k a b))
  | .xor => some (.int k (bits .xor k a b))
  | .andNot => some (.int k (bits .andNot k a b))
  | .eql => some (.bool (a == b))
  | .neq => some (.bool (a != b))
  | .lss => some (.bool (a < b))
  | .leq => some (.bool (a ≤ b))
  | .gtr => some (.bool (a > b))
  | .geq => some (.bool (a ≥ b))
  | _ => none

def shiftOp (op : BinOp) (k : IntKind) (a b : Int) : Option Value :=
  if b < 0 then none else
  match op with
  | .shl => some (.int k (k.wrap (a * 2 ^ min b.toNat k.bits)))
  | .shr => some (.int k (a.fdiv (2 ^ min b.toNat k.bits)))
  | _ => none

def floatOp (op : BinOp) (k : FloatKind) (a b : Nat) : Option Value :=
  match op with
  | .add => (k.format.add a b).map (.float k)
  | .sub => (k.format.sub a b).map (.float k)
  | .mul => (k.format.mul a b).map (.float k)
  | .quo => (k.format.div a b).map (.float k)
  | .eql => some (.bool (k.format.order a b == some .eq))
  | .neq => some (.bool (k.format.order a b != some .eq))
  | .lss => some (.bool (k.format.order a b == some .lt))
  | .leq => some (.bool (k.format.order a b == some .lt || k.format.order a b == some .eq))
  | .gtr => some (.bool (k.format.order a b == some .gt))
  | .geq => some (.bool (k.format.order a b == some .gt || k.format.order a b == some .eq))
  | _ => none

def complexOp (op : BinOp) (k : FloatKind) (a b c d : Nat) : Option Value :=
  match op with
  | .add => match k.format.add a c, k.format.add b d with
    | some r, some i => some (.complex k r i)
    | _, _ => none
  | .sub => match k.format.sub a c, k.format.sub b d with
    | some r, some i => some (.complex k r i)
    | _, _ => none
  | .eql => some (.bool (k.format.order a c == some .eq && k.format.order b d == some .eq))
  | .neq => some (.bool !(k.format.order a c == some .eq && k.format.order b d == some .eq))
  | _ => none

def stringOp (op : BinOp) (a b : ByteArray) : Option Value :=
  match op with
  | .add => if a.size + b.size ≤ 9223372036854775807 then some (.string (a ++ b)) else none
  | .eql => some (.bool (a.toList == b.toList))
  | .neq => some (.bool (!(a.toList == b.toList)))
  | .lss => some (.bool (Op.bytesLess a.toList b.toList))
  | .leq => some (.bool (Op.bytesLess a.toList b.toList || a.toList == b.toList))
  | .gtr => some (.bool (!(Op.bytesLess a.toList b.toList || a.toList == b.toList)))
  | .geq => some (.bool (!(Op.bytesLess a.toList b.toList)))
  | _ => none

def binS (P : Program) (op : BinOp) (T : TypeId) (x y : Value) : Option Value :=
  match x, y with
  | .int k a, .int k' b =>
    match op with
    | .shl | .shr => shiftOp op k a b
    | _ => if k = k' then intOp op k a b else none
  | .float k a, .float k' b => if k = k' then floatOp op k a b else none
  | .complex k a b, .complex k' c d => if k = k' then complexOp op k a b c d else none
  | .string a, .string b => stringOp op a b
  | .bool a, .bool b =>
    match P.underlying T, op with
    | some .bool, .eql => some (.bool (a == b))
    | some .bool, .neq => some (.bool (!(a == b)))
    | _, _ => none
  | _, _ => none

theorem binS_sound {op : BinOp} {T : TypeId} {x y v : Value} {xo yo : Operand} (h : binS P op T x y = some v) (w : World) :
    (do eqGuard op T xo yo x y; binOp op T x y : Sem Value).run P w = .ok v w := by
  unfold binS at h
  split at h
  · rename_i k a k' b
    have hg : eqGuard op T xo yo (.int k a) (.int k' b) = pure () := by cases op <;> rfl
    rw [hg]
    cases op
    case shl | shr =>
      all_goals
        simp only [shiftOp] at h
        split at h
        · cases h
        · rename_i hb
          obtain rfl := Option.some.inj h
          simp [binOp, Op.shift, hb]
    all_goals
      simp only at h
      split at h
      · rename_i hk
        subst hk
        simp only [intOp] at h
        first
          | (obtain rfl := Option.some.inj h; simp [binOp, Op.intArith, Op.intBits, Op.intCmp, bits]; done)
          | (split at h
             · cases h
             · rename_i hb
               obtain rfl := Option.some.inj h
               simp [binOp, Op.intDiv, hb])
          | cases h
      · cases h
  · rename_i k a k' b
    have hg : eqGuard op T xo yo (.float k a) (.float k' b) = pure () := by cases op <;> rfl
    rw [hg]
    split at h
    · rename_i hk
      subst hk
      cases op <;> simp only [floatOp] at h <;>
        first
          | cases h; done
          | (obtain rfl := Option.some.inj h; simp [binOp, Op.floatCmp]; done)
          | (obtain ⟨r, hr, rfl⟩ := Option.map_eq_some_iff.1 h; simp [binOp, Op.floatArith, hr])
    · cases h
  · rename_i k a b k' c d
    have hg : eqGuard op T xo yo (.complex k a b) (.complex k' c d) = pure () := by cases op <;> rfl
    rw [hg]
    split at h
    · rename_i hk
      subst hk
      cases op <;> simp only [complexOp] at h <;>
        first
          | cases h; done
          | (obtain rfl := Option.some.inj h; simp [binOp, Op.complexOp, Op.Complex.cmp, Op.floatCmp, asBool]; done)
          | (split at h
             · rename_i r i hr hi
               obtain rfl := Option.some.inj h
               simp [binOp, Op.complexOp, Op.Complex.arith, Op.floatArith, hr, hi]
             · cases h)
    · cases h
  · rename_i a b
    have hg : eqGuard op T xo yo (.string a) (.string b) = pure () := by cases op <;> rfl
    rw [hg]
    cases op <;> simp only [stringOp] at h <;>
        first
          | cases h; done
          | (obtain rfl := Option.some.inj h; simp [binOp, Op.stringOp]; done)
          | (split at h
             · obtain rfl := Option.some.inj h
               simp [binOp, Op.stringOp]; omega
             · cases h)
  · rename_i a b
    have hg : eqGuard op T xo yo (.bool a) (.bool b) = pure () := by cases op <;> rfl
    rw [hg]
    split at h
    · rename_i hu
      obtain rfl := Option.some.inj h
      simp only [binOp, Op.equal, Op.maxDepth, Sem.run_bind, Sem.run_pure, Result.andThen_ok, run_equalIn_bool' w 9999 T a b hu]
    · rename_i hu
      obtain rfl := Option.some.inj h
      simp only [binOp, Op.equal, Op.maxDepth, Sem.run_bind, Sem.run_pure, Result.andThen_ok, run_equalIn_bool' w 9999 T a b hu]
    · cases h
  · cases h

/-! ### Structs and arrays held against each other -/
def mkV (d : TypeDesc) (xs : List Value) : Value := if d.isRow then .agg xs.toArray else xs.getD 0 undef

def eqFs (P : Program) (rec : TypeId → List Value → List Value → Option Bool) : List Field → List Value → List Value → Option Bool
  | [], _, _ => some true
  | f :: fs, xs, ys =>
    if f.name = "_" then eqFs P rec fs xs ys else
    match size? P f.type with
    | some k =>
      match rec f.type ((xs.drop f.offset).take k) ((ys.drop f.offset).take k), eqFs P rec fs xs ys with
      | some a, some b => some (a && b)
      | _, _ => none
    | none => none
def eqIs (rec : List Value → List Value → Option Bool) (c : Nat) : List Nat → List Value → List Value → Option Bool
  | [], _, _ => some true
  | i :: is, xs, ys =>
    match rec ((xs.drop (i * c)).take c) ((ys.drop (i * c)).take c), eqIs rec c is xs ys with
    | some a, some b => some (a && b)
    | _, _ => none
def eqL (P : Program) : Nat → TypeId → List Value → List Value → Option Bool
  | 0, _, _, _ => none
  | d + 1, T, xs, ys =>
    match P.underlying T with
    | some .bool => match xs, ys with
      | [.bool a], [.bool b] => some (a == b)
      | _, _ => none
    | some (.int _) => match xs, ys with
      | [.int k a], [.int k' b] => if k = k' then some (a == b) else none
      | _, _ => none
    | some .string => match xs, ys with
      | [.string a], [.string b] => some (a.toList == b.toList)
      | _, _ => none
    | some (.complex _) => match xs, ys with
      | [.complex k a b], [.complex k' c d] => if k = k' then some (Op.floatEq k a c && Op.floatEq k b d) else none
      | _, _ => none
    | some (.struct fs) => if P.stoodInHeld T = false then eqFs P (eqL P d) fs.toList xs ys else none
    | some (.array n e) => match size? P e with
      | some c => eqIs (eqL P d e) c (List.range n) xs ys
      | none => none
    | _ => none

theorem run_part_mkV {T k : Nat} {d : TypeDesc} (hd : P.underlying T = some d) (hk : size? P T = some k) (xs : List Value) (off : Nat)
    (h1 : d.isRow = false → ∃ v, (xs.drop off).take k = [v]) (w : World) : (part T xs.toArray off).run P w = .ok (mkV d ((xs.drop off).take k)) w := by
  unfold part mkV
  cases hr : d.isRow with
  | true => simp [run_isAgg' hd w, hr, run_sizeOf' hk w, List.extract_toArray, List.extract_eq_take_drop]
  | false =>
    obtain ⟨v, hv⟩ := h1 hr
    have h2 : xs[off]? = some v := by
      have := getElem?_of_chunk (xs := xs.toArray) (off := off) (c := k) (a := v) (by simpa using hv)
      simpa using this
    simp [run_isAgg' hd w, hr, h2, hv]

theorem eqL_cell {d : Nat} {T : TypeId} {xs ys : List Value} {r : Bool} {td : TypeDesc} (h : eqL P d T xs ys = some r) (hd : P.underlying T = some td) (hr : td.isRow = false) : (∃ v, xs = [v]) ∧ ∃ v, ys = [v] := by
  cases d with
  | zero => simp [eqL] at h
  | succ d =>
    simp only [eqL, hd] at h
    cases td <;> simp only [TypeDesc.isRow] at hr <;> simp only at h <;> first
      | (cases h; done)
      | (cases hr; done)
      | (split at h <;> first | (cases h; done) | exact ⟨⟨_, rfl⟩, ⟨_, rfl⟩⟩)

theorem run_eqFs {d d' : Nat} (xs ys : List Value)
    (ih : ∀ (T : TypeId) (td : TypeDesc) (xs ys : List Value) (r : Bool), eqL P d T xs ys = some r → P.underlying T = some td → ∀ w, (Op.equalIn d' T (mkV td xs) (mkV td ys)).run P w = .ok r w) :
    ∀ (fs : List Field) (r : Bool), eqFs P (eqL P d) fs xs ys = some r → ∀ w, (Op.eqFields d' xs.toArray ys.toArray fs).run P w = .ok r w
  | [], r, h, w => by simp only [eqFs, Option.some.injEq] at h; simp [Op.eqFields, h]
  | f :: fs, r, h, w => by
    simp only [eqFs] at h
    simp only [Op.eqFields]
    split at h
    · rename_i hn
      simp only [hn, ne_eq, not_true_eq_false, if_false]
      exact run_eqFs xs ys ih fs r h w
    · rename_i hn
      simp only [ne_eq, hn, not_false_eq_true, if_true]
      split at h
      · rename_i k hk
        split at h
        · rename_i a b ha hb
          obtain rfl := Option.some.inj h
          cases hu : P.underlying f.type with
          | none =>
            cases d with
            | zero => simp [eqL] at ha
            | succ d => simp [eqL, hu] at ha
          | some td =>
            have hc := fun hr => eqL_cell ha hu hr
            rw [Sem.run_bind, run_part_mkV hu hk xs f.offset (fun hr => (hc hr).1) w, Result.andThen_ok, Sem.run_bind, run_part_mkV hu hk ys f.offset (fun hr => (hc hr).2) w, Result.andThen_ok,
              Sem.run_bind, ih f.type td _ _ a ha hu w, Result.andThen_ok]
            cases a
            · simp
            · simpa using run_eqFs xs ys ih fs b hb w
        · cases h
      · cases h

theorem run_eqIs {d d' e c : Nat} (xs ys : List Value) (hk : size? P e = some c)
    (ih : ∀ (T : TypeId) (td : TypeDesc) (xs ys : List Value) (r : Bool), eqL P d T xs ys = some r → P.underlying T = some td → ∀ w, (Op.equalIn d' T (mkV td xs) (mkV td ys)).run P w = .ok r w) :
    ∀ (is : List Nat) (r : Bool), eqIs (eqL P d e) c is xs ys = some r → ∀ w, (Op.eqItems d' e c xs.toArray ys.toArray is).run P w = .ok r w
  | [], r, h, w => by simp only [eqIs, Option.some.injEq] at h; simp [Op.eqItems, h]
  | i :: is, r, h, w => by
    simp only [eqIs] at h
    simp only [Op.eqItems]
    split at h
    · rename_i a b ha hb
      obtain rfl := Option.some.inj h
      cases hu : P.underlying e with
      | none =>
        cases d with
        | zero => simp [eqL] at ha
        | succ d => simp [eqL, hu] at ha
      | some td =>
        have hc := fun hr => eqL_cell ha hu hr
        rw [Sem.run_bind, run_part_mkV hu hk xs (i * c) (fun hr => (hc hr).1) w, Result.andThen_ok, Sem.run_bind, run_part_mkV hu hk ys (i * c) (fun hr => (hc hr).2) w, Result.andThen_ok,
          Sem.run_bind, ih e td _ _ a ha hu w, Result.andThen_ok]
        cases a
        · simp
        · simpa using run_eqIs xs ys hk ih is b hb w
    · cases h

theorem eqL_sound : ∀ (d d' : Nat), d ≤ d' → ∀ (T : TypeId) (td : TypeDesc) (xs ys : List Value) (r : Bool), eqL P d T xs ys = some r → P.underlying T = some td →
    ∀ w, (Op.equalIn d' T (mkV td xs) (mkV td ys)).run P w = .ok r w
  | 0, _, _, _, _, _, _, _, h, _, _ => by simp [eqL] at h
  | d + 1, 0, hle, _, _, _, _, _, _, _, _ => by omega
  | d + 1, d' + 1, hle, T, td, xs, ys, r, h, hd, w => by
    have ih := eqL_sound d d' (by omega)
    simp only [eqL, hd] at h
    cases td <;> simp only at h <;> first | (cases h; done) | skip
    · split at h
      · obtain rfl := Option.some.inj h
        simp only [mkV, TypeDesc.isRow, Bool.false_eq_true, if_false, List.getD_cons_zero]
        exact run_equalIn_bool' w d' T _ _ hd
      · cases h
    · split at h
      · split at h
        · rename_i hk
          subst hk
          obtain rfl := Option.some.inj h
          simp only [mkV, TypeDesc.isRow, Bool.false_eq_true, if_false, List.getD_cons_zero]
          exact run_equalIn_int w d' T _ _ _ _ hd
        · cases h
      · cases h
    · split at h
      · split at h
        · rename_i hk
          subst hk
          obtain rfl := Option.some.inj h
          simp only [mkV, TypeDesc.isRow, Bool.false_eq_true, if_false, List.getD_cons_zero]
          simp [Op.equalIn, run_underlying hd]
        · cases h
      · cases h
    · split at h
      · obtain rfl := Option.some.inj h
        simp only [mkV, TypeDesc.isRow, Bool.false_eq_true, if_false, List.getD_cons_zero]
        exact run_equalIn_string w d' T _ _ hd
      · cases h
    · rename_i n e
      split at h
      · rename_i c hk
        simp only [mkV, TypeDesc.isRow, if_true]
        cases hq : P.info? e with
        | none => simp [size?, hq] at hk
        | some i =>
          have hc : P.cellsOf e = c := by simp [Program.cellsOf, hq]; simpa [size?, hq] using hk
          rw [run_equalIn_array w d' _ _ hd hq, hc]
          exact run_eqIs xs ys hk ih _ r h w
      · cases h
    · rename_i fs
      split at h
      · rename_i hs
        simp only [mkV, TypeDesc.isRow, if_true]
        have hf : P.fieldsOf T = fs := by simp [Program.fieldsOf, hd]
        rw [run_equalIn_struct w d' T _ _ (by rw [hf]; exact hd) hs, hf]
        exact run_eqFs xs ys ih _ r h w
      · cases h
end Go.AE
