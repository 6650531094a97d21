/- YtegjbjnmedgdoaaDoorPh: a part of the proof; see the last text for what is proved. -/
import Derived.Test.YtegjbjnmedgdoaaDoorPe
set_option maxRecDepth 100000
set_option linter.unusedVariables false
set_option linter.unusedSimpArgs false
/- Chapter 11, part h: automata that may be, and their steps. -/
namespace Go.Proofs.YtegjbjnmedgdoaaDoor
open Go.AE

/-! ### classes -/
def U64c (c : Arr4 Int) : Prop := U64 c.a0 ∧ U64 c.a1 ∧ U64 c.a2 ∧ U64 c.a3
theorem fdiv_u64 {w : Int} (h : U64 w) (r : Nat) : U64 (w.fdiv (2 ^ r)) := by
  obtain ⟨n, rfl⟩ := Int.eq_ofNat_of_zero_le h.1
  have h2 : ((2 : Int) ^ r) = ((2 ^ r : Nat) : Int) := by simp
  have h3 : n / 2 ^ r ≤ n := Nat.div_le_self _ _
  have h4 := h.2
  rw [h2, Int.fdiv_eq_ediv_of_nonneg _ (Int.natCast_nonneg _), ← Int.natCast_ediv]
  generalize n / 2 ^ r = m at h3 ⊢
  constructor <;> omega
theorem get4_u64 {c : Arr4 Int} (h : U64c c) (i : Int) : U64 (get4 c.a0 c.a1 c.a2 c.a3 i) := by
  unfold get4; split
  · exact h.1
  · split
    · exact h.2.1
    · split
      · exact h.2.2.1
      · exact h.2.2.2
def hasC (c : Arr4 Int) (x : Int) : Bool := ((get4 c.a0 c.a1 c.a2 c.a3 (x / 64)).fdiv (2 ^ (x % 64).toNat) % 2) == 1
theorem cHas_ev (c : Arr4 Int) (hc : U64c c) (x : Int) (h0 : 0 ≤ x) (h1 : x < 256) : class_Has c x = some (hasC c x) := by
  have e1 : x.fdiv (2 ^ 6) = x / 64 := by rw [Int.fdiv_eq_ediv_of_nonneg _ (by decide)]; rfl
  have e2 : bits .and .u8 x 63 = x % 64 := u8_and63 x h0 h1
  have e3 : min (x % 64).toNat IntKind.u64.bits = (x % 64).toNat := by simp only [IntKind.bits]; omega
  unfold class_Has
  rw [e1, e2, e3, if_pos (by omega), if_pos (by omega)]
  have := fdiv_u64 (get4_u64 hc (x / 64)) (x % 64).toNat
  rw [u64_and1 _ this.1 this.2]
  rfl
theorem rcHas_ev (c : Arr4 Int) (hc : U64c c) (x : Int) (h0 : 0 ≤ x) (h1 : x < 256) : riddleref02_Has c x = some (hasC c x) := by
  have e1 : IntKind.u8.wrap (x.tdiv 64) = x / 64 := by
    rw [Int.tdiv_eq_ediv_of_nonneg h0]; exact wrap_u8_of _ (by omega) (by omega)
  have e2 : x.tmod 64 = x % 64 := Int.tmod_eq_emod_of_nonneg h0
  have e3 : min (x % 64).toNat IntKind.u64.bits = (x % 64).toNat := by simp only [IntKind.bits]; omega
  unfold riddleref02_Has
  rw [e1, e2, e3, if_pos (by omega), if_pos (by omega)]
  have := fdiv_u64 (get4_u64 hc (x / 64)) (x % 64).toNat
  rw [Int.tmod_eq_emod_of_nonneg this.1]
  rfl


/-! ### which automata may be -/
def WFN (n : api_Nfa) : Prop := WF n.First ∧ WF n.Last ∧ (∀ f ∈ n.Follow, WF f) ∧ (∀ c ∈ n.Classes, U64c c) ∧ n.Classes.length ≤ 9223372036854775807 ∧ n.Follow.length ≤ 9223372036854775807
def okS (b : api_Bits) (K : Nat) : Bool := okB b && decide (b.N = (K : Int))
def okN (n : api_Nfa) : Bool := decide (n.Classes.length ≤ 512 ∧ n.Follow.length = n.Classes.length) && (okS n.First n.Classes.length && (okS n.Last n.Classes.length && n.Follow.all fun f => okS f n.Classes.length))
def nilN : api_Nfa := ⟨[], ⟨0, []⟩, ⟨0, []⟩, [], false⟩
def mayN (n : api_Nfa) : api_Nfa := if okN n = true then n else nilN
theorem okN_nil : okN nilN = true := by decide
theorem okN_may (n : api_Nfa) : okN (mayN n) = true := by unfold mayN; split <;> first | assumption | exact okN_nil
theorem mayN_may (n : api_Nfa) : mayN (mayN n) = mayN n := by
  rw [show mayN (mayN n) = if okN (mayN n) = true then mayN n else nilN from rfl, if_pos (okN_may n)]
theorem mayN_of {n : api_Nfa} (h : okN n = true) : mayN n = n := by unfold mayN; rw [if_pos h]
theorem wf_nil0 : WF ⟨0, []⟩ := ⟨(fun x hx => by cases hx), by simp⟩
theorem wfn_may (n : api_Nfa) (h : WFN n) : WFN (mayN n) := by
  unfold mayN; split
  · exact h
  · exact ⟨wf_nil0, wf_nil0, (fun f hf => by cases hf), (fun c hc => by cases hc), by simp [nilN], by simp [nilN]⟩
theorem okS_is {b : api_Bits} (hb : WF b) {K : Nat} (h : okS b K = true) : Is b K (pp b) := by
  unfold okS at h
  rw [Bool.and_eq_true, decide_eq_true_eq] at h
  have := is_of_ok hb.1 h.1
  rw [h.2, Int.toNat_natCast] at this
  rw [this.pq]; exact this
structure OkN (n : api_Nfa) (K : Nat) : Prop where
  k : n.Classes.length = K
  le : K ≤ 512
  fl : n.Follow.length = K
  fi : Is n.First K (pp n.First)
  la : Is n.Last K (pp n.Last)
  fo : ∀ f ∈ n.Follow, Is f K (pp f)
  cl : ∀ c ∈ n.Classes, U64c c
  ok : okN n = true
theorem ok_of (n : api_Nfa) (h : WFN n) (ho : okN n = true) : OkN n n.Classes.length := by
  have h0 := ho
  unfold okN at ho
  rw [Bool.and_eq_true, Bool.and_eq_true, Bool.and_eq_true, decide_eq_true_eq, List.all_eq_true] at ho
  obtain ⟨⟨h1, h2⟩, h3, h4, h5⟩ := ho
  exact ⟨rfl, h1, h2, okS_is h.1 h3, okS_is h.2.1 h4, fun f hf => okS_is (h.2.2.1 f hf) (h5 f hf), h.2.2.2.1, h0⟩
def KN (n : api_Nfa) : Nat := (mayN n).Classes.length
theorem ok_may (n : api_Nfa) (h : WFN n) : OkN (mayN n) (KN n) := ok_of _ (wfn_may n h) (okN_may n)
theorem bad_ev (b : api_Bits) (hb : WF b) (K : Nat) : glushkov_Check_1_v1 b (K : Int) = some (!okS b K) := by
  unfold glushkov_Check_1_v1 okS
  rw [check_ev b hb.1 hb.2, Option.bind_some]
  by_cases h : okB b = true
  · rw [if_pos h, h]
    by_cases h2 : b.N = (K : Int) <;> simp [h2]
  · rw [if_neg h]
    have : okB b = false := by simpa using h
    rw [this]; rfl
theorem idx_l0 (l : List api_Bits) (hl : l.length ≤ 9223372036854775807) (hw : ∀ f ∈ l, WF f) (K : Nat) : ∀ (d i m : Nat), i + d = l.length → d < m →
    ∃ r : Int, slices_IndexFunc_riddle_api_Bits_riddle_api_Bits_v1_l0 l (K : Int) (fun _ => some (-1)) m (i : Int) = some r ∧ decide (r ≥ 0) = !((l.drop i).all fun f => okS f K) := by
  intro d
  induction d with
  | zero =>
    intro i m hi hm
    obtain ⟨m, rfl⟩ : ∃ n, m = n + 1 := ⟨m - 1, by omega⟩
    exact ⟨-1, by rw [slices_IndexFunc_riddle_api_Bits_riddle_api_Bits_v1_l0, if_neg (by simp; omega)], by rw [List.drop_eq_nil_of_le (by omega)]; rfl⟩
  | succ d ih =>
    intro i m hi hm
    obtain ⟨m, rfl⟩ : ∃ n, m = n + 1 := ⟨m - 1, by omega⟩
    have hlt : i < l.length := by omega
    rw [slices_IndexFunc_riddle_api_Bits_riddle_api_Bits_v1_l0, if_pos (by simpa using hlt), at_lt hlt, Option.bind_some, bad_ev _ (hw _ (List.getElem_mem hlt)), Option.bind_some, List.drop_eq_getElem_cons hlt, List.all_cons]
    by_cases h : okS l[i] K = true
    · obtain ⟨r, h1, h2⟩ := ih (i + 1) m (by omega) (by omega)
      rw [if_neg (by simp [h]), wrapN i (by omega), h, Bool.true_and]
      exact ⟨r, h1, h2⟩
    · have h' : okS l[i] K = false := by simpa using h
      rw [if_pos (by simp [h']), h']
      exact ⟨_, rfl, by simp⟩
theorem gcheck_ev (n : api_Nfa) (h : WFN n) (k : Nat) (hk : 600 < k) : glushkov_Check k n = some (if okN n = true then 0 else 100) := by
  unfold glushkov_Check okN
  by_cases h1 : n.Classes.length ≤ 512 ∧ n.Follow.length = n.Classes.length
  · obtain ⟨r, e1, e2⟩ := idx_l0 n.Follow h.2.2.2.2.2 h.2.2.1 n.Classes.length n.Follow.length 0 k (by omega) (by omega)
    rw [if_neg (by simp; omega), bad_ev _ h.1, Option.bind_some, decide_eq_true h1, Bool.true_and]
    have e3 : slices_ContainsFunc_riddle_api_Bits_riddle_api_Bits_v1 k n.Follow (n.Classes.length : Int) = some (!(n.Follow.all fun f => okS f n.Classes.length)) := by
      unfold slices_ContainsFunc_riddle_api_Bits_riddle_api_Bits_v1 slices_IndexFunc_riddle_api_Bits_riddle_api_Bits_v1
      simp only [jn]
      rw [show (0 : Int) = ((0 : Nat) : Int) from rfl, e1, Option.bind_some]
      rw [List.drop_zero] at e2
      exact congrArg some e2
    by_cases h2 : okS n.First n.Classes.length = true
    · rw [if_neg (by simp [h2]), bad_ev _ h.2.1, Option.bind_some, h2, Bool.true_and]
      by_cases h3 : okS n.Last n.Classes.length = true
      · rw [if_neg (by simp [h3]), e3, h3, Bool.true_and, Option.bind_some, Option.bind_some]
        cases (n.Follow.all fun f => okS f n.Classes.length) <;> rfl
      · have h3' : okS n.Last n.Classes.length = false := by simpa using h3
        rw [h3']; rfl
    · have h2' : okS n.First n.Classes.length = false := by simpa using h2
      rw [h2']; rfl
  · rw [if_pos (by simp; omega), decide_eq_false h1]; rfl
theorem set_ev (b : api_Bits) (hb : WF b) (K : Nat) (k : Nat) (hk : 9000 < k) : riddleref10_set k b (K : Int) = some (okS b K) := by
  unfold riddleref10_set okS
  rw [rcheck_ev b hb.1 hb.2 k hk, Option.bind_some]
  by_cases h : okB b = true
  · rw [if_pos h, h]
    by_cases h2 : b.N = (K : Int) <;> simp [h2]
  · rw [if_neg h]
    have : okB b = false := by simpa using h
    rw [this]; rfl
theorem rchk_l0 (n : api_Nfa) (h : WFN n) (hl : n.Follow.length = n.Classes.length) (h5 : n.Classes.length ≤ 512) : ∀ (d i m : Nat), i + d = n.Classes.length → d + 9001 < m →
    riddleref10_Check_l0 n (fun _ => some 0) m (i : Int) = some (if ((n.Follow.drop i).all fun f => okS f n.Classes.length) = true then 0 else 100) := by
  intro d
  induction d with
  | zero =>
    intro i m hi hm
    obtain ⟨m, rfl⟩ : ∃ n, m = n + 1 := ⟨m - 1, by omega⟩
    rw [riddleref10_Check_l0, if_neg (by simp; omega), List.drop_eq_nil_of_le (by omega)]; rfl
  | succ d ih =>
    intro i m hi hm
    obtain ⟨m, rfl⟩ : ∃ n, m = n + 1 := ⟨m - 1, by omega⟩
    have hlt : i < n.Follow.length := by omega
    rw [riddleref10_Check_l0, if_pos (by simp; omega), at_lt hlt, Option.bind_some, set_ev _ (h.2.2.1 _ (List.getElem_mem hlt)) _ _ (by omega), Option.bind_some, List.drop_eq_getElem_cons hlt, List.all_cons]
    by_cases hx : okS n.Follow[i] n.Classes.length = true
    · rw [if_neg (by simp [hx]), wrapN i (by omega), ih (i + 1) m (by omega) (by omega), hx, Bool.true_and]
    · have hx' : okS n.Follow[i] n.Classes.length = false := by simpa using hx
      rw [hx']; rfl
theorem rcheckn_ev (n : api_Nfa) (h : WFN n) (k : Nat) (hk : 10000 < k) : riddleref10_Check k n = some (if okN n = true then 0 else 100) := by
  unfold riddleref10_Check okN
  by_cases h0 : n.Classes.length ≤ 512
  · by_cases h1 : n.Follow.length = n.Classes.length
    · rw [if_neg (by simp; omega), if_neg (by simp; omega), set_ev _ h.1 _ k (by omega), Option.bind_some, decide_eq_true ⟨h0, h1⟩, Bool.true_and]
      by_cases h2 : okS n.First n.Classes.length = true
      · rw [if_neg (by simp [h2]), set_ev _ h.2.1 _ k (by omega), Option.bind_some, Option.bind_some, h2, Bool.true_and]
        by_cases h3 : okS n.Last n.Classes.length = true
        · rw [if_neg (by simp [h3]), h3, Bool.true_and]
          simp only [jn]
          have e := rchk_l0 n h h1 h0 n.Classes.length 0 k (by omega) (by omega)
          rw [show ((0 : Nat) : Int) = 0 from rfl, List.drop_zero] at e
          exact e
        · have h3' : okS n.Last n.Classes.length = false := by simpa using h3
          rw [h3']; rfl
      · have h2' : okS n.First n.Classes.length = false := by simpa using h2
        rw [h2']; rfl
    · rw [if_neg (by simp; omega), if_pos (by simp; omega), decide_eq_false (by omega)]; rfl
  · rw [if_pos (by simp; omega), decide_eq_false (by omega)]; rfl
theorem newB_nil (N : Nat) (h : N ≤ 8192) : (newB (N : Int) []).1 = zeroB N := by unfold newB; rw [if_pos (by omega)]; rfl
theorem nmay_ev (n : api_Nfa) (h : WFN n) (k : Nat) (hk : 600 < k) : nfa_may k n = some (mayN n) := by
  unfold nfa_may mayN
  rw [gcheck_ev n h k hk, Option.bind_some]
  by_cases ho : okN n = true
  · rw [if_pos ho, if_pos ho, if_neg (by simp)]
  · have e : glushkov_none k 0 = some ⟨0, []⟩ := by
      unfold glushkov_none
      have := newB_nil 0 (by decide)
      rw [show ((0 : Nat) : Int) = 0 from rfl] at this
      rw [new_ev _ _ (by simp) k (by simp; omega), Option.bind_some, this]; rfl
    unfold glushkov_Empty
    rw [if_neg ho, if_neg ho, if_pos (by simp), e]; rfl
theorem rnmay_ev (n : api_Nfa) (h : WFN n) (k : Nat) (hk : 10000 < k) : riddleref11_may k n = some (mayN n) := by
  unfold riddleref11_may mayN
  rw [rcheckn_ev n h k hk, Option.bind_some]
  by_cases ho : okN n = true
  · rw [if_pos ho, if_pos ho, if_neg (by simp)]
  · rw [if_neg ho, if_neg ho, if_pos (by simp)]; rfl
theorem nnone_ev (n : api_Nfa) (h : WFN n) (k : Nat) (hk : 600 < k) : nfa_None k n = some (zeroB (KN n)) := by
  have := (ok_may n h).le
  unfold nfa_None
  rw [nmay_ev n h k hk, Option.bind_some, new_ev _ _ (by simp) k (by simp; omega), Option.bind_some]
  exact congrArg some (newB_nil (KN n) (by omega))
theorem rnnone_ev (n : api_Nfa) (h : WFN n) (k : Nat) (hk : 10000 < k) : riddleref11_None k n = some (zeroB (KN n)) := by
  have := (ok_may n h).le
  unfold riddleref11_None
  rw [rnmay_ev n h k hk, Option.bind_some]
  have e := zero_ev (KN n) (by omega)
  unfold KN at e ⊢
  rw [e]; rfl
theorem KN_may (n : api_Nfa) : KN (mayN n) = KN n := by unfold KN; rw [mayN_may]

/-! ### states -/
def stN (K : Nat) (s : api_Bits) : api_Bits := if okS s K = true then s else zeroB K
theorem stN_is {K : Nat} (hK : K ≤ 512) (s : api_Bits) (hs : WF s) : Is (stN K s) K (pp (stN K s)) := by
  unfold stN
  split
  · rename_i h; exact okS_is hs h
  · have := zero_is K (by omega)
    rw [this.pq]; exact this
theorem stN_of {K : Nat} {s : api_Bits} {p : Nat → Bool} (h : Is s K p) : stN K s = s := by
  unfold stN okS; rw [if_pos]; rw [h.ok, h.n]; simp
theorem state_n (n : api_Nfa) (h : WFN n) (s : api_Bits) (hs : WF s) (k : Nat) (hk : 600 < k) : nfa_state k (mayN n) s = some (stN (KN n) s) := by
  unfold nfa_state stN okS
  rw [check_ev s hs.1 hs.2, Option.bind_some]
  by_cases h1 : okB s = true
  · rw [if_pos h1, h1]
    by_cases h2 : s.N = (KN n : Int)
    · rw [if_neg (by unfold KN at h2; simp [h2]), if_pos (by simp [h2])]
    · rw [if_pos (by unfold KN at h2; simp [h2]), if_neg (by simp [h2]), nnone_ev _ (wfn_may n h) k hk, KN_may]; rfl
  · have h1' : okB s = false := by simpa using h1
    rw [if_neg h1, if_pos (by simp), if_neg (by simp [h1']), nnone_ev _ (wfn_may n h) k hk, KN_may]; rfl
theorem rstate_n (n : api_Nfa) (h : WFN n) (s : api_Bits) (hs : WF s) (k : Nat) (hk : 10000 < k) : riddleref11_state k (mayN n) s = some (stN (KN n) s) := by
  unfold riddleref11_state stN okS
  rw [rcheck_ev s hs.1 hs.2 k (by omega), Option.bind_some]
  by_cases h1 : okB s = true
  · rw [if_pos h1, h1]
    by_cases h2 : s.N = (KN n : Int)
    · rw [if_neg (by unfold KN at h2; simp [h2]), if_pos (by simp [h2])]
    · rw [if_pos (by unfold KN at h2; simp [h2]), if_neg (by simp [h2]), rnnone_ev _ (wfn_may n h) k hk, KN_may]; rfl
  · have h1' : okB s = false := by simpa using h1
    rw [if_neg h1, if_pos (by simp), if_neg (by simp [h1']), rnnone_ev _ (wfn_may n h) k hk, KN_may]; rfl

/-! ### a step -/
def fo (n : api_Nfa) (p q : Nat) : Bool := match n.Follow[p]? with | some f => pp f q | none => false
def cl (n : api_Nfa) (b : Int) (q : Nat) : Bool := match n.Classes[q]? with | some c => hasC c b | none => false
def canN (n : api_Nfa) (K : Nat) (p : Nat → Bool) (begin : Bool) (q : Nat) : Bool := (begin && pp n.First q) || (List.range K).any fun x => p x && fo n x q
def nxN (n : api_Nfa) (K : Nat) (p : Nat → Bool) (begin : Bool) (b : Int) (q : Nat) : Bool := canN n K p begin q && cl n b q
theorem any_al (p : Nat → Bool) (K : Nat) (g : Nat → Bool) : ((al p K).any fun x => g x.toNat) = (List.range K).any fun x => p x && g x := by
  rw [Bool.eq_iff_iff, List.any_eq_true, List.any_eq_true]
  constructor
  · rintro ⟨x, h1, h2⟩
    obtain ⟨n, rfl, h3, h4⟩ := (al_mem _ _ _).1 h1
    exact ⟨n, List.mem_range.2 h3, by rw [Int.toNat_natCast] at h2; simp [h4, h2]⟩
  · rintro ⟨n, h1, h2⟩
    rw [Bool.and_eq_true] at h2
    exact ⟨(n : Int), (al_mem _ _ _).2 ⟨n, rfl, List.mem_range.1 h1, h2.1⟩, by rw [Int.toNat_natCast]; exact h2.2⟩
theorem step_l1 (n : api_Nfa) (K : Nat) (h : OkN n K) (b : Int) (h0 : 0 ≤ b) (h1 : b < 256) (k : Nat) : ∀ (l : List Int) (s : api_Bits) (p : Nat → Bool), Is s K p → (∀ x ∈ l, ∃ i : Nat, x = i ∧ i < K) →
    ∃ c, nfa_step_l1 k n b l (s.N, s.Words) = some c ∧ Is c K (fun q => p q || (decide ((q : Int) ∈ l) && cl n b q)) := by
  intro l
  induction l with
  | nil => intro s p hs _; exact ⟨s, by rw [nfa_step_l1], hs.congr fun q => by simp⟩
  | cons x l ih =>
    intro s p hs hl
    obtain ⟨i, rfl, hi⟩ := hl x (by simp)
    have hl' : ∀ y ∈ l, ∃ i : Nat, y = i ∧ i < K := fun y hy => hl y (by simp [hy])
    have hlt : i < n.Classes.length := by rw [h.k]; exact hi
    have hc : cl n b i = hasC n.Classes[i] b := by unfold cl; rw [List.getElem?_eq_getElem hlt]
    rw [nfa_step_l1, at_lt hlt, Option.bind_some, cHas_ev _ (h.cl _ (List.getElem_mem hlt)) b h0 h1, Option.bind_some]
    by_cases hx : hasC n.Classes[i] b = true
    · have hw := with_is s hs.u (i : Int)
      rw [hs.nN, hs.pq] at hw
      obtain ⟨c, e1, e2⟩ := ih (withB s (i : Int)) _ hw hl'
      rw [if_pos hx, show (⟨s.N, s.Words⟩ : api_Bits) = s from rfl, with_ev s hs.u hs.wf.2, Option.bind_some]
      refine ⟨c, e1, e2.congr fun q => ?_⟩
      by_cases hq : q = i
      · subst hq; simp [hc, hx, hi]
      · have hq' : ¬ ((q : Int) = (i : Int)) := by omega
        simp [hq', hq]
    · have hx' : hasC n.Classes[i] b = false := by simpa using hx
      obtain ⟨c, e1, e2⟩ := ih s p hs hl'
      rw [if_neg hx]
      refine ⟨c, e1, e2.congr fun q => ?_⟩
      by_cases hq : q = i
      · subst hq; simp [hc, hx']
      · have hq' : ¬ ((q : Int) = (i : Int)) := by omega
        simp [hq', hq]
theorem step_l0 (n : api_Nfa) (h : WFN n) (K : Nat) (hn : OkN n K) (b : Int) (h0 : 0 ≤ b) (h1 : b < 256) (k : Nat) (hk : 9000 < k) : ∀ (l : List Int) (s : api_Bits) (p : Nat → Bool), Is s K p → (∀ x ∈ l, ∃ i : Nat, x = i ∧ i < K) →
    ∃ c, nfa_step_l0 k n b l (s.N, s.Words) = some c ∧ Is c K (fun q => (p q || l.any fun x => fo n x.toNat q) && cl n b q) := by
  intro l
  induction l with
  | nil =>
    intro s p hs _
    obtain ⟨e1, e2⟩ := all_is hs k hk
    have hKN : KN n = K := by unfold KN; rw [mayN_of hn.ok]; exact hn.k
    have hle := hn.le
    obtain ⟨c, e3, e4⟩ := step_l1 n K hn b h0 h1 k (al p K) (zeroB K) _ (zero_is K (by omega)) (fun x hx => by
      obtain ⟨i, rfl, h2, _⟩ := (al_mem _ _ _).1 hx; exact ⟨i, rfl, h2⟩)
    refine ⟨c, ?_, e4.congr fun q => ?_⟩
    · rw [nfa_step_l0, nnone_ev n h k (by omega), hKN, Option.bind_some, show (⟨s.N, s.Words⟩ : api_Bits) = s from rfl, e1, Option.bind_some, e2, Option.bind_some]; exact e3
    · have : decide ((q : Int) ∈ al p K) = p q := by
        rw [Bool.eq_iff_iff, decide_eq_true_eq, al_mem]
        constructor
        · rintro ⟨i, h2, h3, h4⟩
          have : i = q := by omega
          subst this; exact h4
        · intro h2
          refine ⟨q, rfl, ?_, h2⟩
          rcases Nat.lt_or_ge q K with h3 | h3
          · exact h3
          · rw [hs.hi q h3] at h2; cases h2
      simp [this]
  | cons x l ih =>
    intro s p hs hl
    obtain ⟨i, rfl, hi⟩ := hl x (by simp)
    have hlt : i < n.Follow.length := by rw [hn.fl]; exact hi
    have hf : ∀ q, fo n i q = pp n.Follow[i] q := fun q => by unfold fo; rw [List.getElem?_eq_getElem hlt]
    obtain ⟨c, e1, e2⟩ := Or_is hs (hn.fo _ (List.getElem_mem hlt)) k hk
    obtain ⟨d, e3, e4⟩ := ih c _ e2 (fun y hy => hl y (by simp [hy]))
    refine ⟨d, ?_, e4.congr fun q => ?_⟩
    · rw [nfa_step_l0, at_lt hlt, Option.bind_some, show (⟨s.N, s.Words⟩ : api_Bits) = s from rfl, e1, Option.bind_some]; exact e3
    · rw [List.any_cons, Int.toNat_natCast, hf, Bool.or_assoc]
theorem step_n (n : api_Nfa) (h : WFN n) (K : Nat) (hn : OkN n K) (s : api_Bits) (p : Nat → Bool) (hs : Is s K p) (begin : Bool) (b : Int) (h0 : 0 ≤ b) (h1 : b < 256) (k : Nat) (hk : 9000 < k) :
    ∃ c, nfa_step k n s begin b = some c ∧ Is c K (nxN n K p begin b) := by
  have hKN : KN n = K := by unfold KN; rw [mayN_of hn.ok]; exact hn.k
  have hle := hn.le
  obtain ⟨e1, e2⟩ := all_is hs k hk
  have hal : ∀ x ∈ al p K, ∃ i : Nat, x = i ∧ i < K := fun x hx => by
      obtain ⟨i, rfl, h2, _⟩ := (al_mem _ _ _).1 hx; exact ⟨i, rfl, h2⟩
  unfold nfa_step
  rw [nnone_ev n h k (by omega), hKN, Option.bind_some]
  simp only [jn, e1, e2, Option.bind_some]
  by_cases hb : begin = true
  · obtain ⟨c, e3, e4⟩ := Or_is (zero_is K (by omega)) hn.fi k hk
    obtain ⟨d, e5, e6⟩ := step_l0 n h K hn b h0 h1 k hk (al p K) c _ e4 hal
    rw [if_pos hb, e3, Option.bind_some]
    refine ⟨d, by simpa using e5, e6.congr fun q => ?_⟩
    unfold nxN canN
    rw [any_al p K (fun x => fo n x q), hb]; simp
  · obtain ⟨d, e5, e6⟩ := step_l0 n h K hn b h0 h1 k hk (al p K) (zeroB K) _ (zero_is K (by omega)) hal
    rw [if_neg hb]
    refine ⟨d, by simpa using e5, e6.congr fun q => ?_⟩
    have hb' : begin = false := by simpa using hb
    unfold nxN canN
    rw [any_al p K (fun x => fo n x q), hb']; simp

/-! ### the same, by the document -/
theorem any_step (K : Nat) (g : Nat → Bool) : ∀ d i, i + (d + 1) = K → ((List.range K).drop i).any g = (g i || ((List.range K).drop (i + 1)).any g) := by
  intro d i h
  have hlt : i < (List.range K).length := by simp; omega
  rw [List.drop_eq_getElem_cons hlt, List.any_cons, List.getElem_range]
theorem rnext_l1 (n : api_Nfa) (h : WFN n) (K : Nat) (hn : OkN n K) (s : api_Bits) (p : Nat → Bool) (hs : Is s K p) (q : Nat) (J : Bool → Option api_Bits) : ∀ (d i m : Nat) (v : Bool), i + d = K → d + 9001 < m →
    riddleref11_Next_l1 n s (q : Int) J m (v, (i : Int)) = J (v || ((List.range K).drop i).any fun x => p x && fo n x q) := by
  have hle := hn.le
  intro d
  induction d with
  | zero =>
    intro i m v hi hm
    obtain ⟨m, rfl⟩ : ∃ n, m = n + 1 := ⟨m - 1, by omega⟩
    rw [riddleref11_Next_l1, hn.fl, if_neg (by simp; omega), List.drop_eq_nil_of_le (by simp; omega)]; simp
  | succ d ih =>
    intro i m v hi hm
    obtain ⟨m, rfl⟩ : ∃ n, m = n + 1 := ⟨m - 1, by omega⟩
    have hlt : i < n.Follow.length := by rw [hn.fl]; omega
    have hf : fo n i q = pp n.Follow[i] q := by unfold fo; rw [List.getElem?_eq_getElem hlt]
    have hF := hn.fo _ (List.getElem_mem hlt)
    rw [any_step K _ d i hi, riddleref11_Next_l1, hn.fl, if_pos (by simp; omega), wrapN i (by omega)]
    by_cases hv : v = true
    · rw [if_pos hv, Option.bind_some, ih (i + 1) m _ (by omega) (by omega), hv]; simp
    · have hv' : v = false := by simpa using hv
      rw [if_neg hv, rhas_ev s hs.u hs.wf.2 _ _ (by omega), Option.bind_some, hasB_nat, hs.pp]
      by_cases hp : p i = true
      · rw [if_pos hp, at_lt hlt, Option.bind_some, rhas_ev _ hF.u hF.wf.2 _ _ (by omega), Option.bind_some, Option.bind_some, hasB_nat, ih (i + 1) m _ (by omega) (by omega), hv', hp, hf]; simp
      · have hp' : p i = false := by simpa using hp
        rw [if_neg hp, Option.bind_some, ih (i + 1) m _ (by omega) (by omega), hv', hp']; simp
theorem rnext_l0 (n : api_Nfa) (h : WFN n) (K : Nat) (hn : OkN n K) (s : api_Bits) (p : Nat → Bool) (hs : Is s K p) (begin : Bool) (b : Int) (h0 : 0 ≤ b) (h1 : b < 256) (J : List Int → Option api_Bits) : ∀ (d i m : Nat) (acc : List Int), i + d = K → d + 9700 < m → acc.length ≤ i →
    riddleref11_Next_l0 begin b n s J m (acc, (i : Int)) = J (acc ++ lst (nxN n K p begin b) K d i) := by
  have hle := hn.le
  intro d
  induction d with
  | zero =>
    intro i m acc hi hm ha
    obtain ⟨m, rfl⟩ : ∃ n, m = n + 1 := ⟨m - 1, by omega⟩
    rw [riddleref11_Next_l0, hn.k, if_neg (by simp; omega)]; simp [lst]
  | succ d ih =>
    intro i m acc hi hm ha
    obtain ⟨m, rfl⟩ : ∃ n, m = n + 1 := ⟨m - 1, by omega⟩
    have hlt : i < n.Classes.length := by rw [hn.k]; omega
    have hc : cl n b i = hasC n.Classes[i] b := by unfold cl; rw [List.getElem?_eq_getElem hlt]
    have e1 : ((if begin = true then (riddleref01_Has m n.First (i : Int)).bind fun t89_2 => some t89_2 else some false) : Option Bool) = some (begin && pp n.First i) := by
      by_cases hb : begin = true
      · rw [if_pos hb, rhas_ev _ hn.fi.u hn.fi.wf.2 _ _ (by omega), Option.bind_some, hasB_nat, hb, Bool.true_and]
      · have hb' : begin = false := by simpa using hb
        rw [if_neg hb, hb']; rfl
    rw [riddleref11_Next_l0, hn.k, if_pos (by simp; omega), e1, Option.bind_some]
    simp only [jn]
    rw [show (0 : Int) = ((0 : Nat) : Int) from rfl, rnext_l1 n h K hn s p hs i _ K 0 m _ (by omega) (by omega), List.drop_zero, wrapN i (by omega), lst]
    have e2 : (begin && pp n.First i || (List.range K).any fun x => p x && fo n x i) = canN n K p begin i := rfl
    rw [e2]
    have e3 : nxN n K p begin b i = (canN n K p begin i && cl n b i) := rfl
    by_cases hcan : canN n K p begin i = true
    · rw [if_pos hcan, at_lt hlt, Option.bind_some, rcHas_ev _ (hn.cl _ (List.getElem_mem hlt)) b h0 h1, Option.bind_some, Option.bind_some, ← hc]
      by_cases hx : cl n b i = true
      · rw [if_pos hx, if_pos (okApp8 (by simp; omega)), if_pos ⟨by omega, by rw [e3, hcan, hx]; rfl⟩, ih (i + 1) m _ (by omega) (by omega) (by simp; omega)]; simp
      · rw [if_neg hx, if_neg (fun hc => hx (by have := hc.2; rw [e3, hcan] at this; simpa using this)), ih (i + 1) m _ (by omega) (by omega) (by omega)]
    · have hcan' : canN n K p begin i = false := by simpa using hcan
      rw [if_neg hcan, Option.bind_some, if_neg (by simp), if_neg (fun hc => hcan (by have := hc.2; rw [e3] at this; exact (Bool.and_eq_true_iff.1 this).1)), ih (i + 1) m _ (by omega) (by omega) (by omega)]
theorem nxN_hi (n : api_Nfa) (K : Nat) (hn : OkN n K) (p : Nat → Bool) (begin : Bool) (b : Int) (q : Nat) (h : K ≤ q) : nxN n K p begin b q = false := by
  unfold nxN cl
  rw [List.getElem?_eq_none (by rw [hn.k]; exact h)]; simp
theorem rnext_n (n : api_Nfa) (h : WFN n) (s : api_Bits) (p : Nat → Bool) (hs : Is s (KN n) p) (begin : Bool) (b : Int) (h0 : 0 ≤ b) (h1 : b < 256) (k : Nat) (hk : 11000 < k) :
    ∃ c, riddleref11_Next k n s begin b = some c ∧ Is c (KN n) (nxN (mayN n) (KN n) p begin b) := by
  have hn := ok_may n h
  have hle := hn.le
  obtain ⟨i1, _⟩ := new_is (KN n) (by omega) (al (nxN (mayN n) (KN n) p begin b) (KN n))
  have hlen := lst_len (nxN (mayN n) (KN n) p begin b) (KN n) (KN n) 0
  refine ⟨_, ?_, i1.congr fun q => ?_⟩
  · unfold riddleref11_Next
    rw [rnmay_ev n h k (by omega), Option.bind_some, rstate_n n h s hs.wf k (by omega), stN_of hs, Option.bind_some]
    simp only [jn]
    rw [show (0 : Int) = ((0 : Nat) : Int) from rfl, rnext_l0 (mayN n) (wfn_may n h) (KN n) hn s p hs begin b h0 h1 _ (KN n) 0 k [] (by omega) (by omega) (by simp), List.nil_append, hn.k, rnew_ev _ _ (by omega) k (by omega)]; rfl
  · rw [Bool.eq_iff_iff, decide_eq_true_eq]
    constructor
    · rintro ⟨h2, h3⟩
      obtain ⟨i, h4, h5, h6⟩ := (al_mem _ _ _).1 h3
      have : i = q := by omega
      subst this; exact h6
    · intro h2
      have h3 : q < KN n := by
        rcases Nat.lt_or_ge q (KN n) with h | h
        · exact h
        · rw [nxN_hi _ _ hn _ _ _ _ h] at h2; cases h2
      exact ⟨h3, (al_mem _ _ _).2 ⟨q, rfl, h3, h2⟩⟩
theorem next_n (n : api_Nfa) (h : WFN n) (s : api_Bits) (p : Nat → Bool) (hs : Is s (KN n) p) (begin : Bool) (b : Int) (h0 : 0 ≤ b) (h1 : b < 256) (k : Nat) (hk : 9000 < k) :
    ∃ c, nfa_Next k n s begin b = some c ∧ Is c (KN n) (nxN (mayN n) (KN n) p begin b) := by
  obtain ⟨c, e1, e2⟩ := step_n (mayN n) (wfn_may n h) (KN n) (ok_may n h) s p hs begin b h0 h1 k hk
  refine ⟨c, ?_, e2⟩
  unfold nfa_Next
  rw [nmay_ev n h k (by omega), Option.bind_some, state_n n h s hs.wf k (by omega), stN_of hs, Option.bind_some, e1]; rfl
def acN (n : api_Nfa) (K : Nat) (p : Nat → Bool) : Bool := decide ((((al (fun q => p q && pp n.Last q) K).length : Nat) : Int) > 0)
theorem meet_n (n : api_Nfa) (K : Nat) (hn : OkN n K) (s : api_Bits) (p : Nat → Bool) (hs : Is s K p) (k : Nat) (hk : 9000 < k) : bits_Meet k s n.Last = some (acN n K p) := by
  obtain ⟨c, e1, e2⟩ := And_is hs hn.la k hk
  obtain ⟨r, e3, e4⟩ := first_is e2 0 (by decide) k (by omega)
  unfold bits_Meet
  rw [e1, Option.bind_some, e3, Option.bind_some, meet_first e2.hi e4]; rfl
theorem acc_n (n : api_Nfa) (h : WFN n) (s : api_Bits) (p : Nat → Bool) (hs : Is s (KN n) p) (k : Nat) (hk : 9000 < k) : nfa_Accepts k n s = some (acN (mayN n) (KN n) p) := by
  unfold nfa_Accepts
  rw [nmay_ev n h k (by omega), Option.bind_some, state_n n h s hs.wf k (by omega), stN_of hs, Option.bind_some, meet_n _ _ (ok_may n h) s p hs k hk]; rfl
/-! ### through bytes -/
def Bytes (w : List Int) : Prop := ∀ x ∈ w, 0 ≤ x ∧ x < 256
end Go.Proofs.YtegjbjnmedgdoaaDoor
set_option maxRecDepth 100000
set_option linter.unusedVariables false
set_option linter.unusedSimpArgs false
/- Chapter 11, part i: what any state comes to; where texts end. -/
namespace Go.Proofs.YtegjbjnmedgdoaaDoor
open Go.AE

theorem take_bytes {w : List Int} (h : Bytes w) (n : Nat) : Bytes (w.take n) := fun x hx => h x (List.mem_of_mem_take hx)
/-! ### where texts end -/
def endsN (n : api_Nfa) (K : Nat) (w : List Int) (f : Int) : Nat → Nat → (Nat → Bool) → List Int
  | 0, _, _ => []
  | d + 1, i, p => if acN n K (nxN n K p ((i : Int) == f) (w.getD i 0)) = true then ((i + 1 : Nat) : Int) :: endsN n K w f d (i + 1) (nxN n K p ((i : Int) == f) (w.getD i 0)) else endsN n K w f d (i + 1) (nxN n K p ((i : Int) == f) (w.getD i 0))
theorem endsN_len (n : api_Nfa) (K : Nat) (w : List Int) (f : Int) : ∀ d i p, (endsN n K w f d i p).length ≤ d := by
  intro d
  induction d with
  | zero => intro i p; simp [endsN]
  | succ d ih =>
    intro i p
    have := ih (i + 1) (nxN n K p ((i : Int) == f) (w.getD i 0))
    rw [endsN]; split
    · simp only [List.length_cons]; omega
    · omega
theorem getD_lt {w : List Int} {i : Nat} (h : i < w.length) : w.getD i 0 = w[i] := by rw [List.getD_eq_getElem?_getD, List.getElem?_eq_getElem h]; rfl
/-! ### wherever they begin -/
def bg (w : List Int) (i : Nat) (hat multi : Bool) : Bool := !hat || (decide (i = 0) || (multi && w.getD (i - 1) 0 == 10))
def evN (n : api_Nfa) (K : Nat) (w : List Int) (hat multi : Bool) : Nat → Nat → (Nat → Bool) → List Int
  | 0, _, _ => []
  | d + 1, i, p => if acN n K (nxN n K p (bg w i hat multi) (w.getD i 0)) = true then ((i + 1 : Nat) : Int) :: evN n K w hat multi d (i + 1) (nxN n K p (bg w i hat multi) (w.getD i 0)) else evN n K w hat multi d (i + 1) (nxN n K p (bg w i hat multi) (w.getD i 0))
theorem evN_len (n : api_Nfa) (K : Nat) (w : List Int) (hat multi : Bool) : ∀ d i p, (evN n K w hat multi d i p).length ≤ d := by
  intro d
  induction d with
  | zero => intro i p; simp [evN]
  | succ d ih =>
    intro i p
    have := ih (i + 1) (nxN n K p (bg w i hat multi) (w.getD i 0))
    rw [evN]; split
    · simp only [List.length_cons]; omega
    · omega
end Go.Proofs.YtegjbjnmedgdoaaDoor
