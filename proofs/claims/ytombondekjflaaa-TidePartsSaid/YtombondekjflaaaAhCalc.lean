/- YtombondekjflaaaAhCalc: a part of the proof; see the last text for what is proved. -/
import Derived.Test.YtombondekjflaaaAhLook
set_option linter.unusedVariables false
set_option linter.unusedSimpArgs false
namespace Go.AE
open Go.RowKit

variable {P : Program}

def unA (op : UnOp) (v : Value) : Option Value :=
  match op, v with
  | .neg, .int k n => some (.int k (k.wrap (0 - n)))
  | .xor, .int k n => some (.int k (bits .xor k (if k.signed then -1 else k.max) n))
  | .neg, .float k b => some (.float k (Op.negFloat k b))
  | .neg, .complex k re im => some (.complex k (Op.negFloat k re) (Op.negFloat k im))
  | .not, .bool b => some (.bool !b)
  | _, _ => none

theorem unA_sound {op : UnOp} {v r : Value} (h : unA op v = some r) (w : World) : (Op.unary op v).run P w = .ok r w := by
  unfold unA at h
  split at h <;> first | (cases h; done) | (obtain rfl := Option.some.inj h; simp [Op.unary, Op.intArith, Op.intBits, bits])

def convA (P : Program) (src dst : TypeId) (v : Value) : Option Value :=
  match P.underlying src, P.underlying dst, v with
  | some _, some (.int k), .int _ n => some (.int k (k.wrap n))
  | some _, some (.float k), .int _ n => some (.float k (k.nearest n))
  | some _, some (.int k), .float s b =>
    match (s.decode b).toInt .zero with
    | some n => if k.min ≤ n ∧ n ≤ k.max then some (.int k n) else none
    | none => none
  | some _, some (.float k), .float s b => if s = k then some (.float k b) else none
  | some _, some .string, .string s => some (.string s)
  | _, _, _ => none

theorem convA_sound {src dst : TypeId} {v r : Value} (h : convA P src dst v = some r) (w : World) : (convert src dst v).run P w = .ok r w := by
  unfold convA at h
  split at h
  · rename_i hs hk
    obtain rfl := Option.some.inj h
    simp [convert, run_underlying hs, run_underlying hk, Conv.intToInt]
  · rename_i hs hk
    obtain rfl := Option.some.inj h
    simp [convert, run_underlying hs, run_underlying hk, Conv.intToFloat]
  · rename_i hs hk
    split at h
    · rename_i m hm
      split at h
      · rename_i hr
        obtain rfl := Option.some.inj h
        simp [convert, run_underlying hs, run_underlying hk, Conv.floatToInt, hm, hr]
      · cases h
    · cases h
  · rename_i hs hk
    split at h
    · rename_i he
      subst he
      obtain rfl := Option.some.inj h
      simp [convert, run_underlying hs, run_underlying hk, Conv.floatToFloat]
    · cases h
  · rename_i hs hk
    obtain rfl := Option.some.inj h
    simp [convert, run_underlying hs, run_underlying hk]
  · cases h

/-! ### Slicing -/
def evI (regs : List (Nat × AV)) (x : Operand) : Option Int :=
  match ev regs x with
  | some (.p (.s (.int _ i))) => some i
  | _ => none

def tagS (t : Tag) (whole : Bool) : Tag :=
  match t with
  | .nil => .nil
  | .tight => if whole then .tight else .nn
  | .nn => .nn
  | .full => if whole then .full else .any
  | .any => .any
  | .isnil => .any

def sliceA (P : Program) (objs : List (Nat × Obj)) (T : TypeId) (x : AV) (lo hi mx : Option Int) : Option AV :=
  match P.underlying T with
  | some .string =>
    match x, mx with
    | .p (.s (.string s)), none =>
      if 0 ≤ lo.getD 0 ∧ lo.getD 0 ≤ hi.getD s.size ∧ hi.getD s.size ≤ s.size then some (.p (.s (.string (s.extract (lo.getD 0).toNat (hi.getD s.size).toNat)))) else none
    | _, _ => none
  | some (.slice e) =>
    match size? P e, x with
    | some k, .p (.sl t n cs) =>
      if 0 ≤ lo.getD 0 ∧ lo.getD 0 ≤ hi.getD n ∧ hi.getD n ≤ n ∧ cs.length = n * k then
        match mx with
        | none => some (.p (.sl (tagS t (hi.getD n = n)) (hi.getD n - lo.getD 0).toNat ((cs.drop ((lo.getD 0).toNat * k)).take ((hi.getD n - lo.getD 0).toNat * k))))
        | some m =>
          if hi.isSome = true ∧ hi.getD n ≤ m ∧ m ≤ n then
            some (.p (.sl (if m = hi.getD n then .full else .any) (hi.getD n - lo.getD 0).toNat ((cs.drop ((lo.getD 0).toNat * k)).take ((hi.getD n - lo.getD 0).toNat * k))))
          else none
      else none
    | some k, .own d =>
      match get d objs, mx with
      | some (.row _ _ n _), none =>
        if 0 ≤ lo.getD 0 ∧ lo.getD 0 ≤ hi.getD n ∧ hi.getD n ≤ n ∧ 0 < k then some (.sub d ((lo.getD 0).toNat * k) (hi.getD n - lo.getD 0).toNat) else none
      | _, _ => none
    | some k, .sub d off n =>
      match mx with
      | none => if 0 ≤ lo.getD 0 ∧ lo.getD 0 ≤ hi.getD n ∧ hi.getD n ≤ n ∧ 0 < k then some (.sub d (off + (lo.getD 0).toNat * k) (hi.getD n - lo.getD 0).toNat) else none
      | _ => none
    | _, _ => none
  | some (.array n e) =>
    match size? P e, x, mx with
    | some k, .ptr d off, none =>
      match get d objs with
      | some (.box _ _) => if 0 ≤ lo.getD 0 ∧ lo.getD 0 ≤ hi.getD n ∧ hi.getD n ≤ n ∧ n ≤ maxLen then some (.sub d (off + (lo.getD 0).toNat * k) (hi.getD n - lo.getD 0).toNat) else none
      | _ => none
    | _, _, _ => none
  | _ => none

def lenA (objs : List (Nat × Obj)) : AV → Option Nat
  | .p (.sl _ n _) => some n
  | .own d => match get d objs with
    | some (.row _ _ n _) => some n
    | _ => none
  | .sub _ _ n => some n
  | _ => none

def minI (a b : Int) : Int := if b < a then b else a
def maxI (a b : Int) : Int := if b > a then b else a
def foldI (f : Int → Int → Int) (k : IntKind) : Int → List AV → Option AV
  | a, [] => some (.p (.s (.int k a)))
  | a, .p (.s (.int k' b)) :: l => if k = k' then foldI f k (f a b) l else none
  | _, _ => none

def builtA (P : Program) (objs : List (Nat × Obj)) (b : Builtin) (ts : Array TypeId) (args : List AV) : Option AV :=
  match b, args with
  | .len, [x] =>
    match ts[0]? with
    | some T =>
      match P.underlying T with
      | some .string => match x with
        | .p (.s (.string s)) => some (.p (.s (.int .i64 s.size)))
        | _ => none
      | some (.array n _) => some (.p (.s (.int .i64 n)))
      | some (.pointer arr) => match P.underlying arr with
        | some (.array n _) => some (.p (.s (.int .i64 n)))
        | _ => none
      | some (.slice _) => (lenA objs x).map fun n => AV.p (.s (.int .i64 (Int.ofNat n)))
      | _ => none
    | none => none
  | .min, .p (.s (.int k a)) :: l => foldI minI k a l
  | .max, .p (.s (.int k a)) :: l => foldI maxI k a l
  | .cap, [.p (.sl .nil _ _)] =>
    match ts[0]? with
    | some T =>
      match P.underlying T with
      | some (.slice _) => some (.p (.s (.int .i64 0)))
      | _ => none
    | none => none
  | .real, [.p (.s (.complex k re _))] => some (.p (.s (.float k re)))
  | .imag, [.p (.s (.complex k _ im))] => some (.p (.s (.float k im)))
  | .complex, [.p (.s (.float k re)), .p (.s (.float k' im))] => if k = k' then some (.p (.s (.complex k re im))) else none
  | _, _ => none

def evs (regs : List (Nat × AV)) : List Operand → Option (List AV)
  | [] => some []
  | x :: l => match ev regs x, evs regs l with
    | some v, some vs => some (v :: vs)
    | _, _ => none

def optI (regs : List (Nat × AV)) : Option Operand → Option (Option Int)
  | none => some none
  | some x => (evI regs x).map some

def u8s : List PV → Option (List Int)
  | [] => some []
  | .s (.int .u8 v) :: l => (u8s l).map (v :: ·)
  | _ => none
def strOf (l : List Int) : ByteArray := l.foldl (fun r n => r.push (UInt8.ofNat n.toNat)) ByteArray.empty
def convB (P : Program) (src dst : TypeId) (n : Nat) (cs : List PV) : Option AV :=
  match P.underlying src, P.underlying dst with
  | some (.slice e), some .string =>
    match P.underlying e with
    | some (.int .u8) => if cs.length = n then (u8s cs).map fun l => .p (.s (.string (strOf l))) else none
    | _ => none
  | _, _ => none

def pureO (P : Program) (regs : List (Nat × AV)) (objs : List (Nat × Obj)) (op : Go.Op) : Option AV :=
  match op with
  | .move x => ev regs x
  | .assign x => ev regs x
  | .pick c a b =>
    match ev regs c with
    | some (.p (.s (.bool t))) => if t = true then ev regs a else ev regs b
    | _ => none
  | .load T x => match ev regs x with
    | some v => loadA P objs T v
    | none => none
  | .nilCheck x => match ev regs x with
    | some (.ptr d o) => some (.ptr d o)
    | some (.p (.rop cs)) => some (.p (.rop cs))
    | _ => none
  | .binOp op T x y _ => match ev regs x, ev regs y with
    | some u, some v => binA P objs op T u v
    | _, _ => none
  | .unOp op _ x => match ev regs x with
    | some (.p (.s v)) => (unA op v).map fun r => .p (.s r)
    | _ => none
  | .convert src dst x => match ev regs x with
    | some (.p (.s v)) => (convA P src dst v).map fun r => .p (.s r)
    | some (.p (.sl _ n cs)) => convB P src dst n cs
    | _ => none
  | .makeFunc (.func f) first captured => if first.size = 0 then (evs regs captured.toList).map (.fn f) else none
  | .slice T x lo hi mx =>
    match ev regs x, optI regs lo, optI regs hi, optI regs mx with
    | some v, some l, some h, some m => sliceA P objs T v l h m
    | _, _, _, _ => none
  | .fieldAddr S x f => match ev regs x with
    | some v => fieldAddrA P S f v
    | none => none
  | .field S x f => match ev regs x with
    | some v => fieldA P S f v
    | none => none
  | .indexAddr T x i => match ev regs x, evI regs i with
    | some v, some j => indexAddrA P objs T v j
    | _, _ => none
  | .index T x i => match ev regs x, evI regs i with
    | some v, some j => indexA P T v j
    | _, _ => none
  | .extract t i => match ev regs t with
    | some v => extractA v i
    | none => none
  | .call c => match c.callee, evs regs c.args.toList with
    | .builtin b, some vs => builtA P objs b c.argTypes vs
    | _, _ => none
  | _ => none

section
variable {Y : Value} {γ : Nat → Value} {w : World} {M : Nat → Prop} {objs : List (Nat × Obj)} {regs : List (Nat × AV)} {a : Act}

theorem evI_sound {x : Operand} {i : Int} (h : evI regs x = some i) (S : RegsG Y γ w M regs a.tmps) : ∃ k, a.eval x = .int k i := by
  unfold evI at h
  split at h
  · rename_i k j hj
    obtain rfl := Option.some.inj h
    have := ev_sound hj S
    simp only [RA, RP] at this
    exact ⟨k, this⟩
  · cases h

theorem evs_sound : ∀ {xs : List Operand} {vs : List AV}, evs regs xs = some vs → RegsG Y γ w M regs a.tmps → RAs Y γ w M vs (xs.map a.eval)
  | [], vs, h, S => by simp only [evs, Option.some.injEq] at h; subst h; simp [RAs]
  | x :: l, vs, h, S => by
    simp only [evs] at h
    split at h
    · rename_i v us hv hu
      obtain rfl := Option.some.inj h
      simp only [List.map_cons, RAs]
      exact ⟨_, _, rfl, ev_sound hv S, evs_sound hu S⟩
    · cases h

theorem optI_sound {x : Option Operand} {i : Option Int} (h : optI regs x = some i) (S : RegsG Y γ w M regs a.tmps) :
    (x = none ∧ i = none) ∨ ∃ y k j, x = some y ∧ i = some j ∧ a.eval y = .int k j := by
  unfold optI at h
  split at h
  · obtain rfl := Option.some.inj h
    exact .inl ⟨rfl, rfl⟩
  · rename_i y
    obtain ⟨j, hj, rfl⟩ := Option.map_eq_some_iff.1 h
    obtain ⟨k, hk⟩ := evI_sound hj S
    exact .inr ⟨y, k, j, rfl, rfl, hk⟩

theorem lenA_sound (hobj : ∀ d o, get d objs = some o → SimObj Y γ w M d o) {x : AV} {n : Nat} {v : Value} (h : lenA objs x = some n) (hx : RA Y γ w M x v) : ∃ A c, v = .slice A n c := by
  unfold lenA at h
  split at h
  · obtain rfl := Option.some.inj h
    simp only [RA, RP] at hx
    obtain ⟨A, c, xs, rfl, _⟩ := hx
    exact ⟨_, _, rfl⟩
  · split at h
    · rename_i d T sz m cs ho
      obtain rfl := Option.some.inj h
      simp only [RA] at hx
      have := hobj _ _ ho
      simp only [SimObj] at this
      obtain ⟨A, c, xs, hg, _⟩ := this
      exact ⟨_, _, hx.trans hg⟩
    · cases h
  · obtain rfl := Option.some.inj h
    simp only [RA] at hx
    obtain ⟨A, c, rfl, _⟩ := hx
    exact ⟨_, _, rfl⟩
  · cases h

def intV (k : IntKind) (i : Option Int) : Option Value := i.map (.int k)

theorem run_sliceBound {k : IntKind} {i : Int} {y : Nat} {code : BoundsCode} (h : 0 ≤ i ∧ i ≤ y) : (Instr.sliceBound (.int k i) y code).run P w = .ok i.toNat w := by
  simp [Instr.sliceBound, asIntOf, h]

theorem run_sliceBounds {s : Bool} {len cap : Nat} {lo hi : Option Value} {l h : Int} (hlo : (lo = none ∧ l = 0) ∨ ∃ k, lo = some (.int k l)) (hhi : (hi = none ∧ h = len) ∨ ∃ k, hi = some (.int k h))
    (h0 : 0 ≤ l) (h1 : l ≤ h) (h2 : h ≤ cap) : (Instr.sliceBounds s len cap lo hi none).run P w = .ok (l.toNat, h.toNat, cap) w := by
  unfold Instr.sliceBounds
  rcases hhi with ⟨rfl, rfl⟩ | ⟨k, rfl⟩ <;> rcases hlo with ⟨rfl, rfl⟩ | ⟨k', rfl⟩
  · simp
  · simp [run_sliceBound (P := P) (w := w) (k := k') (i := l) (y := len) ⟨h0, h1⟩]
  · simp [run_sliceBound (P := P) (w := w) (k := k) (i := h) (y := cap) ⟨by omega, h2⟩]
  · simp [run_sliceBound (P := P) (w := w) (k := k) (i := h) (y := cap) ⟨by omega, h2⟩, run_sliceBound (P := P) (w := w) (k := k') (i := l) (y := h.toNat) ⟨h0, by omega⟩]

theorem run_sliceBounds3 {s : Bool} {len cap : Nat} {lo : Option Value} {l h m : Int} {k k2 : IntKind} (hlo : (lo = none ∧ l = 0) ∨ ∃ k, lo = some (.int k l))
    (h0 : 0 ≤ l) (h1 : l ≤ h) (h2 : h ≤ m) (h3 : m ≤ cap) : (Instr.sliceBounds s len cap lo (some (.int k h)) (some (.int k2 m))).run P w = .ok (l.toNat, h.toNat, m.toNat) w := by
  unfold Instr.sliceBounds
  rcases hlo with ⟨rfl, rfl⟩ | ⟨k', rfl⟩
  · simp [run_sliceBound (P := P) (w := w) (k := k2) (i := m) (y := cap) ⟨by omega, h3⟩, run_sliceBound (P := P) (w := w) (k := k) (i := h) (y := m.toNat) ⟨by omega, by omega⟩]
  · simp [run_sliceBound (P := P) (w := w) (k := k2) (i := m) (y := cap) ⟨by omega, h3⟩, run_sliceBound (P := P) (w := w) (k := k) (i := h) (y := m.toNat) ⟨by omega, by omega⟩, run_sliceBound (P := P) (w := w) (k := k') (i := l) (y := h.toNat) ⟨h0, by omega⟩]

theorem builtA_sound (hobj : ∀ d o, get d objs = some o → SimObj Y γ w M d o) {b : Builtin} {ts : Array TypeId} {t : TypeId} {cs : Array Bool} {args : List AV} {vs : List Value} {r : AV}
    (h : builtA P objs b ts args = some r) (hx : RAs Y γ w M args vs) : ∃ u, (builtin b ts t cs vs.toArray).run P w = .ok (.value u) w ∧ RA Y γ w M r u := by
  have foldMin : ∀ (k : IntKind) (l : List AV) (a : Int) (vs : List Value) (r : AV), foldI minI k a l = some r → RAs Y γ w M l vs → ∃ u, (vs.foldlM Builtin.min2 (.int k a) : Sem Value).run P w = .ok u w ∧ RA Y γ w M r u := by
    intro k l
    induction l with
    | nil =>
      intro a vs r h hx
      simp only [foldI, Option.some.injEq] at h
      subst h
      simp only [RAs] at hx
      subst hx
      exact ⟨.int k a, by simp, by simp only [RA, RP]⟩
    | cons x l ih =>
      intro a vs r h hx
      unfold foldI at h
      split at h <;> first | (cases h; done) | skip
      · rename_i heq; cases heq
      · rename_i heq
        cases heq
        split at h
        · rename_i hk
          subst hk
          simp only [RAs, RA, RP] at hx
          obtain ⟨_, vs', rfl, rfl, h2⟩ := hx
          obtain ⟨u, hu, hr⟩ := ih _ vs' r h h2
          refine ⟨u, ?_, hr⟩
          rw [List.foldlM_cons, Sem.run_bind]
          simpa [Builtin.min2, minI] using hu
        · cases h
  have foldMax : ∀ (k : IntKind) (l : List AV) (a : Int) (vs : List Value) (r : AV), foldI maxI k a l = some r → RAs Y γ w M l vs → ∃ u, (vs.foldlM Builtin.max2 (.int k a) : Sem Value).run P w = .ok u w ∧ RA Y γ w M r u := by
    intro k l
    induction l with
    | nil =>
      intro a vs r h hx
      simp only [foldI, Option.some.injEq] at h
      subst h
      simp only [RAs] at hx
      subst hx
      exact ⟨.int k a, by simp, by simp only [RA, RP]⟩
    | cons x l ih =>
      intro a vs r h hx
      unfold foldI at h
      split at h <;> first | (cases h; done) | skip
      · rename_i heq; cases heq
      · rename_i heq
        cases heq
        split at h
        · rename_i hk
          subst hk
          simp only [RAs, RA, RP] at hx
          obtain ⟨_, vs', rfl, rfl, h2⟩ := hx
          obtain ⟨u, hu, hr⟩ := ih _ vs' r h h2
          refine ⟨u, ?_, hr⟩
          rw [List.foldlM_cons, Sem.run_bind]
          simpa [Builtin.max2, maxI] using hu
        · cases h
  unfold builtA at h
  split at h
  · rename_i x
    simp only [RAs] at hx
    obtain ⟨v, _, rfl, h1, rfl⟩ := hx
    split at h
    · rename_i T hT
      split at h
      · rename_i hu
        split at h
        · obtain rfl := Option.some.inj h
          simp only [RA, RP] at h1
          subst h1
          exact ⟨_, by simp [builtin, Builtin.len_, hT, run_underlying hu, goInt]; rfl, by simp only [RA, RP]⟩
        · cases h
      · rename_i n e hu
        obtain rfl := Option.some.inj h
        exact ⟨_, by simp [builtin, Builtin.len_, hT, run_underlying hu, goInt]; rfl, by simp only [RA, RP]⟩
      · rename_i arr hu
        split at h
        · rename_i n e hu2
          obtain rfl := Option.some.inj h
          exact ⟨_, by simp [builtin, Builtin.len_, hT, run_underlying hu, run_underlying hu2, goInt]; rfl, by simp only [RA, RP]⟩
        · cases h
      · rename_i e hu
        obtain ⟨n, hn, rfl⟩ := Option.map_eq_some_iff.1 h
        obtain ⟨A, c, rfl⟩ := lenA_sound hobj hn h1
        exact ⟨.int .i64 (Int.ofNat n), by simp [builtin, Builtin.len_, hT, run_underlying hu, goInt], by simp only [RA, RP]⟩
      · cases h
    · cases h
  · rename_i k a l
    simp only [RAs, RA, RP] at hx
    obtain ⟨_, vs', rfl, rfl, h2⟩ := hx
    obtain ⟨u, hu, hr⟩ := foldMin k l a vs' r h h2
    exact ⟨u, by simp [builtin, Builtin.min_, hu], hr⟩
  · rename_i k a l
    simp only [RAs, RA, RP] at hx
    obtain ⟨_, vs', rfl, rfl, h2⟩ := hx
    obtain ⟨u, hu, hr⟩ := foldMax k l a vs' r h h2
    exact ⟨u, by simp [builtin, Builtin.max_, hu], hr⟩
  · rename_i m cs
    simp only [RAs, RA, RP] at hx
    obtain ⟨v, _, rfl, ⟨A, c, xs, rfl, hT0, _⟩, rfl⟩ := hx
    simp only [TagOk] at hT0
    obtain ⟨rfl, rfl, rfl⟩ := hT0
    split at h
    · rename_i T hT
      split at h
      · rename_i e hu
        obtain rfl := Option.some.inj h
        exact ⟨.int .i64 0, by simp [builtin, Builtin.cap_, hT, run_underlying hu, goInt], by simp only [RA, RP]⟩
      · cases h
    · cases h
  · obtain rfl := Option.some.inj h
    simp only [RAs, RA, RP] at hx
    obtain ⟨_, _, rfl, rfl, rfl⟩ := hx
    exact ⟨_, rfl, by simp only [RA, RP]⟩
  · obtain rfl := Option.some.inj h
    simp only [RAs, RA, RP] at hx
    obtain ⟨_, _, rfl, rfl, rfl⟩ := hx
    exact ⟨_, rfl, by simp only [RA, RP]⟩
  · rename_i k re k' im
    split at h
    · rename_i hk
      subst hk
      obtain rfl := Option.some.inj h
      simp only [RAs, RA, RP] at hx
      obtain ⟨_, _, rfl, rfl, _, _, rfl, rfl, rfl⟩ := hx
      refine ⟨.complex k re im, ?_, by simp only [RA, RP]⟩
      have e : Builtin.complex_ ts t #[.float k re, .float k im] = (if k = k then pure (.complex k re im) else stuck "complex: parts of different kinds") := rfl
      simp only [builtin, e, if_true, Sem.run_bind, Sem.run_pure, Result.andThen_ok]
    · cases h
  · cases h
end
end Go.AE
