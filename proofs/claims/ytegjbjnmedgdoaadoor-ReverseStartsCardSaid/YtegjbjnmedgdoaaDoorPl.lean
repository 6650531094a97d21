/- YtegjbjnmedgdoaaDoorPl: a part of the proof; see the last text for what is proved. -/
import Derived.Test.YtegjbjnmedgdoaaDoorPj
set_option linter.unusedVariables false
set_option linter.unusedSimpArgs false
set_option maxRecDepth 100000
/- Chapter 12: ReverseMakes, ReverseTwice. -/
namespace Go.Proofs.YtegjbjnmedgdoaaDoor
open Go.AE

/-! ### they may be -/
theorem okS_of {b : api_Bits} {K : Nat} {p : Nat → Bool} (h : Is b K p) : okS b K = true := by
  unfold okS; rw [h.ok, h.n]; simp
theorem okN_of {n : api_Nfa} {K : Nat} (h1 : n.Classes.length = K) (h2 : K ≤ 512) (h3 : n.Follow.length = K) {p q : Nat → Bool} (hf : Is n.First K p) (hl : Is n.Last K q) (ho : ∀ f ∈ n.Follow, ∃ r, Is f K r) : okN n = true := by
  unfold okN
  rw [h1, h3, okS_of hf, okS_of hl]
  simp only [h2, and_self, decide_true, Bool.true_and, List.all_eq_true]
  intro f hh
  obtain ⟨r, hr⟩ := ho f hh
  exact okS_of hr
theorem vec_mem {K : Nat} (hK : K ≤ 8192) {g : Nat → Nat → Bool} {f : api_Bits} (h : f ∈ vec K g) : ∃ r, Is f K r := by
  obtain ⟨q, _, rfl⟩ := List.mem_map.1 h
  exact ⟨_, mkS_is K hK (g q)⟩
theorem rev_okN {n : api_Nfa} {K : Nat} (hn : OkN n K) : okN (revN n) = true := by
  have hkk := hn.k
  have hle := hn.le
  refine okN_of (K := K) hkk hle ?_ hn.la hn.fi ?_
  · show (vec n.Classes.length _).length = K
    rw [vec_length, hkk]
  · intro f hf
    have hf' : f ∈ vec n.Classes.length (fun q p => fo n p q) := hf
    rw [hkk] at hf'
    exact vec_mem (by omega) hf'
theorem rev_wfn {n : api_Nfa} {K : Nat} (hn : OkN n K) : WFN (revN n) := by
  have hkk := hn.k
  have hle := hn.le
  refine ⟨hn.la.wf, hn.fi.wf, fun f hf => ?_, hn.cl, ?_, ?_⟩
  · have hf' : f ∈ vec n.Classes.length (fun q p => fo n p q) := hf
    rw [hkk] at hf'
    obtain ⟨r, hr⟩ := vec_mem (by omega) hf'
    exact hr.wf
  · show n.Classes.length ≤ _; omega
  · show (vec n.Classes.length _).length ≤ _
    rw [vec_length]; omega
theorem rev_ok {n : api_Nfa} {K : Nat} (hn : OkN n K) : OkN (revN n) K := by
  have := ok_of (revN n) (rev_wfn hn) (rev_okN hn)
  rw [show (revN n).Classes.length = K from hn.k] at this; exact this
theorem rev_fo {n : api_Nfa} {K : Nat} (hn : OkN n K) (q p : Nat) : fo (revN n) q p = (decide (q < K) && (decide (p < K) && fo n p q)) := by
  have hkk := hn.k
  have hle := hn.le
  by_cases hq : q < K
  · have hlt : q < (revN n).Follow.length := by
      show q < (vec n.Classes.length _).length
      rw [vec_length]; omega
    rw [fo_get hlt]
    have e : (revN n).Follow[q] = mkS n.Classes.length (fun p => fo n p q) := vec_get _ _ _
    rw [e, mkS_pp (by omega), hkk]
    simp [hq]
  · have : (revN n).Follow[q]? = none := List.getElem?_eq_none (by
      show (vec n.Classes.length _).length ≤ q
      rw [vec_length]; omega)
    unfold fo
    rw [this]; simp [hq]
theorem fo_hi {n : api_Nfa} {K : Nat} (hn : OkN n K) {p q : Nat} (h : fo n p q = true) : p < K ∧ q < K := by
  have hfl := hn.fl
  unfold fo at h
  cases hp : n.Follow[p]? with
  | none => rw [hp] at h; cases h
  | some f =>
    rw [hp] at h
    have hlt := (List.getElem?_eq_some_iff.1 hp).1
    have hf := hn.fo f (List.mem_of_getElem? hp)
    refine ⟨by omega, ?_⟩
    rcases Nat.lt_or_ge q K with h1 | h1
    · exact h1
    · have h2 : pp f q = true := h
      rw [hf.hi q h1] at h2; cases h2
theorem rev_rev {n : api_Nfa} {K : Nat} (hn : OkN n K) : revN (revN n) = n := by
  have hkk := hn.k
  have hle := hn.le
  have hfl := hn.fl
  obtain ⟨C, F, L, W, N⟩ := n
  have hv : vec C.length (fun q p => fo (revN ⟨C, F, L, W, N⟩) p q) = W := by
    apply List.ext_getElem
    · rw [vec_length]; show C.length = W.length; simp only at hkk hfl; omega
    · intro i h1 h2
      have hi : i < K := by rw [vec_length] at h1; simp only at hkk; omega
      rw [vec_get]
      have hf := hn.fo W[i] (List.getElem_mem h2)
      rw [hf.eqm]
      simp only at hkk
      rw [hkk]
      refine mkS_congr (by omega) fun q hq => ?_
      rw [rev_fo hn]
      have : fo ⟨C, F, L, W, N⟩ i q = pp W[i] q := congrFun (fo_get (n := ⟨C, F, L, W, N⟩) h2) q
      rw [this]; simp [hq, hi]
  show (api_Nfa.mk C F L (vec C.length fun q p => fo (revN ⟨C, F, L, W, N⟩) p q) N) = _
  rw [hv]

/-! ### numbered from behind -/
theorem mirB_is {K : Nat} (hK : K ≤ 512) (b : api_Bits) : Is (mirB K b) K (fun x => decide (x < K) && mir K (pp b) x) := mkS_is K (by omega) _
theorem mirB_pp {K : Nat} (hK : K ≤ 512) (b : api_Bits) (x : Nat) : pp (mirB K b) x = (decide (x < K) && pp b (K - 1 - x)) := (mirB_is hK b).pp x
theorem mirB_mirB {K : Nat} (hK : K ≤ 512) {b : api_Bits} (h : Is b K (pp b)) : mirB K (mirB K b) = b := by
  have e := h.eqm
  conv => rhs; rw [e]
  unfold mirB
  refine mkS_congr (by omega) fun x hx => ?_
  unfold mir
  have := mirB_pp hK b (K - 1 - x)
  unfold mirB mir at this
  rw [this]
  have h1 : K - 1 - x < K := by omega
  have h2 : K - 1 - (K - 1 - x) = x := by omega
  simp [h1, h2]
theorem turn_okN {n : api_Nfa} {K : Nat} (hn : OkN n K) : okN (turnN n) = true := by
  have hkk := hn.k
  have hle := hn.le
  have hfl := hn.fl
  have e1 : (turnN n).First = mirB K n.First := by unfold turnN; rw [hkk]
  have e2 : (turnN n).Last = mirB K n.Last := by unfold turnN; rw [hkk]
  refine okN_of (K := K) (p := fun x => decide (x < K) && mir K (pp n.First) x) (q := fun x => decide (x < K) && mir K (pp n.Last) x) ?_ hle ?_ (by rw [e1]; exact mirB_is hle _) (by rw [e2]; exact mirB_is hle _) ?_
  · show n.Classes.reverse.length = K
    rw [List.length_reverse, hkk]
  · show ((n.Follow.map _).reverse).length = K
    rw [List.length_reverse, List.length_map, hfl]
  · intro f hf
    have hf' : f ∈ (n.Follow.map (mirB n.Classes.length)).reverse := hf
    rw [List.mem_reverse, hkk] at hf'
    obtain ⟨b, _, rfl⟩ := List.mem_map.1 hf'
    exact ⟨_, mirB_is hle b⟩
theorem turn_wfn {n : api_Nfa} {K : Nat} (hn : OkN n K) : WFN (turnN n) := by
  have hkk := hn.k
  have hle := hn.le
  have hfl := hn.fl
  refine ⟨?_, ?_, fun f hf => ?_, fun c hc => hn.cl c (List.mem_reverse.1 hc), ?_, ?_⟩
  · show WF (mirB n.Classes.length n.First)
    rw [hkk]; exact (mirB_is hle _).wf
  · show WF (mirB n.Classes.length n.Last)
    rw [hkk]; exact (mirB_is hle _).wf
  · have hf' : f ∈ (n.Follow.map (mirB n.Classes.length)).reverse := hf
    rw [List.mem_reverse, hkk] at hf'
    obtain ⟨b, _, rfl⟩ := List.mem_map.1 hf'
    exact (mirB_is hle b).wf
  · show n.Classes.reverse.length ≤ _
    rw [List.length_reverse]; omega
  · show ((n.Follow.map _).reverse).length ≤ _
    rw [List.length_reverse, List.length_map]; omega
theorem turn_ok {n : api_Nfa} {K : Nat} (hn : OkN n K) : OkN (turnN n) K := by
  have := ok_of (turnN n) (turn_wfn hn) (turn_okN hn)
  rw [show (turnN n).Classes.length = K by show n.Classes.reverse.length = K; rw [List.length_reverse, hn.k]] at this; exact this
theorem turn_turn {n : api_Nfa} {K : Nat} (hn : OkN n K) : turnN (turnN n) = n := by
  have hkk := hn.k
  have hle := hn.le
  obtain ⟨C, F, L, W, N⟩ := n
  simp only at hkk
  unfold turnN
  simp only [List.length_reverse, List.reverse_reverse, hkk, List.map_reverse, List.map_map]
  rw [mirB_mirB hle hn.fi, mirB_mirB hle hn.la]
  congr 1
  have : ∀ l : List api_Bits, (∀ f ∈ l, Is f K (pp f)) → l.map (mirB K ∘ mirB K) = l := by
    intro l
    induction l with
    | nil => intro _; rfl
    | cons f l ih =>
      intro h
      rw [List.map_cons, ih (fun g hg => h g (List.mem_cons_of_mem _ hg))]
      congr 1
      exact mirB_mirB hle (h f List.mem_cons_self)
  exact this W hn.fo

/-! ### held against itself -/
theorem rsame_l0 (b : api_Bits) (J : Unit → Option Bool) (hl : b.Words.length ≤ 200) : ∀ (d i m : Nat), i + d = b.Words.length → d < m → riddleref01_Same_l0 b b J m (i : Int) = J () := by
  intro d
  induction d with
  | zero =>
    intro i m hi hm
    obtain ⟨m, rfl⟩ : ∃ j, m = j + 1 := ⟨m - 1, by omega⟩
    rw [riddleref01_Same_l0, if_neg (by simp; omega)]
  | succ d ih =>
    intro i m hi hm
    obtain ⟨m, rfl⟩ : ∃ j, m = j + 1 := ⟨m - 1, by omega⟩
    rw [riddleref01_Same_l0, if_pos (by simp; omega), at_lt (by omega), Option.bind_some, Option.bind_some, if_neg (by simp), wrapN i (by omega)]
    exact ih (i + 1) m (by omega) (by omega)
theorem rsame_ev (b : api_Bits) (hb : WF b) (k : Nat) (hk : 9000 < k) : riddleref01_Same k b b = some true := by
  have := may_len b
  unfold riddleref01_Same
  rw [rmay_ev b hb.1 hb.2 k hk, Option.bind_some, Option.bind_some, if_neg (by simp)]
  simp only [jn]
  exact rsame_l0 (mayB b) _ this (mayB b).Words.length 0 k (by omega) (by omega)
theorem nsame_l0 (n : api_Nfa) (K : Nat) (hn : OkN n K) (J : Unit → Option Bool) : ∀ (d i m : Nat), i + d = K → d + 9001 < m → riddleref10_Same_l0 n n J m (i : Int) = J () := by
  intro d
  have hfl := hn.fl
  have hle := hn.le
  induction d with
  | zero =>
    intro i m hi hm
    obtain ⟨m, rfl⟩ : ∃ j, m = j + 1 := ⟨m - 1, by omega⟩
    rw [riddleref10_Same_l0, if_neg (by simp; omega)]
  | succ d ih =>
    intro i m hi hm
    obtain ⟨m, rfl⟩ : ∃ j, m = j + 1 := ⟨m - 1, by omega⟩
    have hlt : i < n.Follow.length := by omega
    rw [riddleref10_Same_l0, if_pos (by simp; omega), at_lt hlt, Option.bind_some, Option.bind_some, rsame_ev _ (hn.fo _ (List.getElem_mem hlt)).wf m (by omega), Option.bind_some, if_neg (by simp), wrapN i (by omega)]
    exact ih (i + 1) m (by omega) (by omega)
theorem nsame_l1 (n : api_Nfa) (K : Nat) (hn : OkN n K) (J : Unit → Option Bool) : ∀ (d i m : Nat), i + d = K → d < m → riddleref10_Same_l1 n n J m (i : Int) = J () := by
  intro d
  have hkk := hn.k
  have hle := hn.le
  induction d with
  | zero =>
    intro i m hi hm
    obtain ⟨m, rfl⟩ : ∃ j, m = j + 1 := ⟨m - 1, by omega⟩
    rw [riddleref10_Same_l1, if_neg (by simp; omega)]
  | succ d ih =>
    intro i m hi hm
    obtain ⟨m, rfl⟩ : ∃ j, m = j + 1 := ⟨m - 1, by omega⟩
    rw [riddleref10_Same_l1, if_pos (by simp; omega), at_lt (by omega), Option.bind_some, Option.bind_some, if_neg (by simp), wrapN i (by omega)]
    exact ih (i + 1) m (by omega) (by omega)
theorem nsame_ev (n : api_Nfa) (K : Nat) (hn : OkN n K) (k : Nat) (hk : 10000 < k) : riddleref10_Same k n n = some true := by
  have hle := hn.le
  unfold riddleref10_Same
  rw [if_neg (by simp), if_neg (by simp), if_neg (by simp), rsame_ev _ hn.fi.wf k (by omega), Option.bind_some, if_neg (by simp), rsame_ev _ hn.la.wf k (by omega), Option.bind_some, Option.bind_some, if_neg (by simp)]
  simp only [jn]
  have h1 := nsame_l1 n K hn (fun _ => riddleref10_Same_l0 n n (fun _ => some true) k 0) K 0 k (by omega) (by omega)
  rw [show ((0 : Nat) : Int) = 0 from rfl] at h1
  rw [h1]
  exact nsame_l0 n K hn _ K 0 k (by omega) (by omega)

theorem begun_ev (m : Nat) : riddlelaw12_begun (m + 200) = some true := by kernel_rfl
theorem begun_k (k : Nat) (h : 200 ≤ k) : riddlelaw12_begun k = some true := by
  obtain ⟨m, rfl⟩ : ∃ m, k = m + 200 := ⟨k - 200, by omega⟩
  exact begun_ev m

theorem next_any (n : api_Nfa) (h : WFN n) (s : api_Bits) (hs : WF s) (begin : Bool) (b : Int) (h0 : 0 ≤ b) (h1 : b < 256) (k : Nat) (hk : 11000 < k) :
    ∃ c N p, nfa_Next k n s begin b = some c ∧ riddleref11_Next k n s begin b = some c ∧ Is c N p := by
  have hle := (ok_may n h).le
  have hi := stN_is hle s hs
  have hst := stN_of hi
  have st1 : nfa_state k (mayN n) s = nfa_state k (mayN n) (stN (KN n) s) := by rw [state_n n h s hs k (by omega), state_n n h _ hi.wf k (by omega), hst]
  have st2 : riddleref11_state k (mayN n) s = riddleref11_state k (mayN n) (stN (KN n) s) := by rw [rstate_n n h s hs k (by omega), rstate_n n h _ hi.wf k (by omega), hst]
  have e3 : nfa_Next k n s begin b = nfa_Next k n (stN (KN n) s) begin b := by unfold nfa_Next; rw [nmay_ev n h k (by omega), Option.bind_some, Option.bind_some, st1]
  have e4 : riddleref11_Next k n s begin b = riddleref11_Next k n (stN (KN n) s) begin b := by unfold riddleref11_Next; rw [rnmay_ev n h k (by omega), Option.bind_some, Option.bind_some, st2]
  obtain ⟨c, c1, c2⟩ := next_n n h _ _ hi begin b h0 h1 k (by omega)
  obtain ⟨d, d1, d2⟩ := rnext_n n h _ _ hi begin b h0 h1 k hk
  have := c2.uniq d2
  subst this
  exact ⟨c, _, _, e3.trans c1, e4.trans d1, c2⟩

theorem reverseMakes_ev (n : api_Nfa) (hn : WFN n) (s : api_Bits) (hs : WF s) (begin : Bool) (b : Int) (h0 : 0 ≤ b) (h1 : b < 256) (k : Nat) (hk : 20000 < k) : riddlelaw12_ReverseMakes k n s begin b = some true := by
  unfold riddlelaw12_ReverseMakes riddlelaw12_few
  rw [Option.bind_some]
  split
  · rfl
  · have hok := ok_may n hn
    have e1 := reverse_ev n hn k (by omega)
    obtain ⟨c, N, p, c1, c2, c3⟩ := next_any (revN (mayN n)) (rev_wfn hok) s hs begin b h0 h1 k (by omega)
    have e2 : reverse_Back k n s begin b = some c := by unfold reverse_Back; rw [e1, Option.bind_some, c1]; rfl
    rw [rreverse_ev n hn k (by omega), Option.bind_some, begun_k k (by omega), Option.bind_some, if_pos rfl, e1, Option.bind_some, nsame_ev _ _ (rev_ok hok) k (by omega), Option.bind_some, if_pos rfl,
      turn_ev n hn k (by omega), Option.bind_some, rturn_ev n hn k (by omega), Option.bind_some, nsame_ev _ _ (turn_ok hok) k (by omega), Option.bind_some, if_pos rfl, e2, Option.bind_some, c2, Option.bind_some, rsame_ev c c3.wf k (by omega)]
    rfl
theorem reverseTwice_ev (n : api_Nfa) (hn : WFN n) (k : Nat) (hk : 20000 < k) : riddlelaw12_ReverseTwice k n = some true := by
  unfold riddlelaw12_ReverseTwice riddlelaw12_few
  rw [Option.bind_some, rcheckn_ev n hn k (by omega)]
  by_cases ho : okN n = true
  · have hok := ok_of n hn ho
    have hm := mayN_of ho
    have r1 : reverse_Reverse k n = some (revN n) := by rw [reverse_ev n hn k (by omega), hm]
    have r2 : reverse_Reverse k (revN n) = some n := by rw [reverse_ev _ (rev_wfn hok) k (by omega), mayN_of (rev_okN hok), rev_rev hok]
    have t1 : reverse_Turn k n = some (turnN n) := by rw [turn_ev n hn k (by omega), hm]
    have t2 : reverse_Turn k (turnN n) = some n := by rw [turn_ev _ (turn_wfn hok) k (by omega), mayN_of (turn_okN hok), turn_turn hok]
    have h3 : ((0 : Int) != 0) = false := by decide
    rw [if_pos ho, Option.bind_some, h3]
    split
    · rw [Option.bind_some, if_pos rfl]
    · rw [Option.bind_some, if_neg (by simp), begun_k k (by omega), Option.bind_some, if_pos rfl, r1, Option.bind_some, r2, Option.bind_some, nsame_ev n _ hok k (by omega), Option.bind_some, if_pos rfl, t1, Option.bind_some, t2, Option.bind_some, nsame_ev n _ hok k (by omega)]
      rfl
  · have h3 : ((100 : Int) != 0) = true := by decide
    rw [if_neg ho, Option.bind_some, h3]
    split <;> rw [Option.bind_some, if_pos rfl]
end Go.Proofs.YtegjbjnmedgdoaaDoor
set_option linter.unusedVariables false
set_option linter.unusedSimpArgs false
set_option maxRecDepth 100000
/- Chapter 12: what an automaton takes; ReverseTurned. -/
namespace Go.Proofs.YtegjbjnmedgdoaaDoor
open Go.AE

theorem any_range (K : Nat) (g : Nat → Bool) : (List.range K).any g = true ↔ ∃ q, q < K ∧ g q = true := by
  rw [List.any_eq_true]
  constructor
  · rintro ⟨q, hq, h⟩; exact ⟨q, List.mem_range.1 hq, h⟩
  · rintro ⟨q, hq, h⟩; exact ⟨q, List.mem_range.2 hq, h⟩
theorem any_range_succ (i : Nat) (g : Nat → Bool) : (List.range (i + 1)).any g = ((List.range i).any g || g i) := by
  rw [List.range_succ, List.any_append]; simp
def nxP (n : api_Nfa) (K : Nat) (h : Nat → Bool) (q : Nat) : Bool := (List.range K).any fun x => h x && fo n x q
def heP (n : api_Nfa) (p : Nat → Bool) (b : Int) (q : Nat) : Bool := p q && cl n b q
theorem ror_mk (K : Nat) (hK : K ≤ 512) (p : Nat → Bool) (f : api_Bits) (hf : Is f K (pp f)) (k : Nat) (hk : 18000 < k) : riddleref01_Or k (mkS K p) f = some (mkS K fun q => p q || pp f q) := by
  have hi := mkS_is K (by omega) p
  obtain ⟨c, c1, c2⟩ := ror_ev (mkS K p) f hi.wf hf.wf k hk
  rw [hi.nN] at c2
  rw [c1, c2.eqm]
  congr 1
  refine mkS_congr (by omega) fun q hq => ?_
  rw [hi.pp]; simp [hq]
theorem takes_l1 (n : api_Nfa) (K : Nat) (hn : OkN n K) (w : List Int) (hw : Bytes w) (at_s : api_Bits) (p : Nat → Bool) (hs : Is at_s K p) (x : Nat) (hx : x < w.length) (J : Int × List Int × Int × List Int → Option Bool) : ∀ (d i m : Nat), i + d = K → d + 18001 < m →
    riddleref10_Takes_l1 n w (x : Int) at_s.N at_s.Words J m ((i : Int), (mkS K (nxP n i (heP n p w[x]))).N, (mkS K (nxP n i (heP n p w[x]))).Words, (mkS K fun q => decide (q < i) && heP n p w[x] q).N, (mkS K fun q => decide (q < i) && heP n p w[x] q).Words) =
      J ((mkS K (nxP n K (heP n p w[x]))).N, (mkS K (nxP n K (heP n p w[x]))).Words, (mkS K (heP n p w[x])).N, (mkS K (heP n p w[x])).Words) := by
  intro d
  have hkk := hn.k
  have hfl := hn.fl
  have hle := hn.le
  induction d with
  | zero =>
    intro i m hi hm
    obtain ⟨m, rfl⟩ : ∃ j, m = j + 1 := ⟨m - 1, by omega⟩
    have e : (mkS K fun q => decide (q < i) && heP n p w[x] q) = mkS K (heP n p w[x]) := mkS_congr (by omega) fun q hq => by
      have : q < i := by omega
      simp [this]
    rw [riddleref10_Takes_l1, if_neg (by simp; omega), e, show i = K by omega]
  | succ d ih =>
    intro i m hi hm
    obtain ⟨m, rfl⟩ : ∃ j, m = j + 1 := ⟨m - 1, by omega⟩
    have hlt : i < n.Classes.length := by omega
    have hlt2 : i < n.Follow.length := by omega
    have ih' := ih (i + 1) m (by omega) (by omega)
    have hb := hw _ (List.getElem_mem hx)
    have hcl : cl n w[x] i = hasC n.Classes[i] w[x] := by unfold cl; rw [List.getElem?_eq_getElem hlt]
    rw [riddleref10_Takes_l1, if_pos (by simp; omega)]
    rw [show api_Bits.mk at_s.N at_s.Words = at_s from rfl, rhas_ev at_s hs.u hs.wf.2 _ m (by omega), Option.bind_some, hasB_nat, hs.pp]
    have hv : ∀ X : Option Bool, X = some (heP n p w[x] i) → (X.bind fun v176 => if v176 = true then (riddleref01_With m (api_Bits.mk (mkS K fun q => decide (q < i) && heP n p w[x] q).N (mkS K fun q => decide (q < i) && heP n p w[x] q).Words) (i : Int)).bind fun t178_2 => (at_ n.Follow (i : Int)).bind fun t179_2 => (riddleref01_Or m (api_Bits.mk (mkS K (nxP n i (heP n p w[x]))).N (mkS K (nxP n i (heP n p w[x]))).Words) t179_2).bind fun t179_4 => riddleref10_Takes_l1 n w (x : Int) at_s.N at_s.Words J m (IntKind.i64.wrap ((i : Int) + 1), t179_4.N, t179_4.Words, t178_2.N, t178_2.Words) else riddleref10_Takes_l1 n w (x : Int) at_s.N at_s.Words J m (IntKind.i64.wrap ((i : Int) + 1), (mkS K (nxP n i (heP n p w[x]))).N, (mkS K (nxP n i (heP n p w[x]))).Words, (mkS K fun q => decide (q < i) && heP n p w[x] q).N, (mkS K fun q => decide (q < i) && heP n p w[x] q).Words)) =
        J ((mkS K (nxP n K (heP n p w[x]))).N, (mkS K (nxP n K (heP n p w[x]))).Words, (mkS K (heP n p w[x])).N, (mkS K (heP n p w[x])).Words) := by
      intro X hX
      rw [hX, Option.bind_some]
      by_cases hh : heP n p w[x] i = true
      · have hf := hn.fo _ (List.getElem_mem hlt2)
        rw [if_pos hh, mk_eta, rwith_mk K (by omega) _ i (by omega) m (by omega), Option.bind_some, at_lt hlt2, Option.bind_some, mk_eta, ror_mk K hle _ _ hf m (by omega), Option.bind_some, wrapN i (by omega)]
        have e1 : (mkS K fun y => (decide (y < i) && heP n p w[x] y) || decide (y = i)) = mkS K fun q => decide (q < i + 1) && heP n p w[x] q := mkS_congr (by omega) fun y hy => by
          by_cases h1 : y = i
          · subst h1; rw [hh]; simp
          · have : (y < i + 1) ↔ y < i := by omega
            simp [h1, this]
        have e2 : (mkS K fun q => nxP n i (heP n p w[x]) q || pp n.Follow[i] q) = mkS K (nxP n (i + 1) (heP n p w[x])) := mkS_congr (by omega) fun q hq => by
          show _ = (List.range (i + 1)).any _
          rw [any_range_succ, hh, fo_get hlt2]; rfl
        rw [e1, e2]; exact ih'
      · rw [if_neg hh, wrapN i (by omega)]
        have hh' : heP n p w[x] i = false := by simpa using hh
        have e1 : (mkS K fun q => decide (q < i) && heP n p w[x] q) = mkS K fun q => decide (q < i + 1) && heP n p w[x] q := mkS_congr (by omega) fun y hy => by
          by_cases h1 : y = i
          · subst h1; rw [hh']; simp
          · have : (y < i + 1) ↔ y < i := by omega
            simp [this]
        have e2 : mkS K (nxP n i (heP n p w[x])) = mkS K (nxP n (i + 1) (heP n p w[x])) := mkS_congr (by omega) fun q hq => by
          show _ = (List.range (i + 1)).any _
          rw [any_range_succ, hh']; simp [nxP]
        rw [e1, e2]; exact ih'
    apply hv
    by_cases hp : p i = true
    · rw [if_pos hp, at_lt hlt, Option.bind_some, at_lt hx, Option.bind_some, rcHas_ev _ (hn.cl _ (List.getElem_mem hlt)) _ hb.1 hb.2, Option.bind_some]
      unfold heP; rw [hp, hcl]; rfl
    · rw [if_neg hp]
      have hp' : p i = false := by simpa using hp
      unfold heP; rw [hp']; rfl
theorem meets_l0 (a b : api_Bits) (K : Nat) (hK : K ≤ 512) (p q : Nat → Bool) (ha : Is a K p) (hb : Is b K q) (J : Unit → Option Bool) : ∀ (d i m : Nat), i + d = K → d + 9001 < m →
    riddleref10_meets_l0 a b J m (i : Int) = if ((List.range K).drop i).any (fun x => p x && q x) = true then some true else J () := by
  intro d
  induction d with
  | zero =>
    intro i m hi hm
    obtain ⟨m, rfl⟩ : ∃ j, m = j + 1 := ⟨m - 1, by omega⟩
    rw [riddleref10_meets_l0, if_neg (by rw [ha.n]; simp; omega), List.drop_eq_nil_of_le (by simp; omega)]; rfl
  | succ d ih =>
    intro i m hi hm
    obtain ⟨m, rfl⟩ : ∃ j, m = j + 1 := ⟨m - 1, by omega⟩
    have hi' : i < K := by omega
    rw [riddleref10_meets_l0, if_pos (by rw [ha.n]; simp; omega), rhas_ev a ha.u ha.wf.2 _ m (by omega), Option.bind_some, hasB_nat, ha.pp]
    have hd : (List.range K).drop i = i :: (List.range K).drop (i + 1) := by
      rw [List.drop_eq_getElem_cons (by simpa using hi')]; simp
    rw [hd, List.any_cons]
    by_cases hp : p i = true
    · rw [if_pos hp, rhas_ev b hb.u hb.wf.2 _ m (by omega), Option.bind_some, hasB_nat, hb.pp, Option.bind_some]
      by_cases hq : q i = true
      · rw [if_pos hq, hp, hq]; rfl
      · have hq' : q i = false := by simpa using hq
        rw [if_neg hq, wrapN i (by omega), ih (i + 1) m (by omega) (by omega), hp, hq']; rfl
    · have hp' : p i = false := by simpa using hp
      rw [if_neg hp, Option.bind_some, if_neg (by simp), wrapN i (by omega), ih (i + 1) m (by omega) (by omega), hp']; rfl
theorem meets_ev (a b : api_Bits) (K : Nat) (hK : K ≤ 512) (p q : Nat → Bool) (ha : Is a K p) (hb : Is b K q) (k : Nat) (hk : 10000 < k) : riddleref10_meets k a b = some ((List.range K).any fun x => p x && q x) := by
  unfold riddleref10_meets
  simp only [jn]
  have := meets_l0 a b K hK p q ha hb (fun _ => some false) K 0 k (by omega) (by omega)
  rw [show ((0 : Nat) : Int) = 0 from rfl] at this
  rw [this, List.drop_zero]
  split
  · rename_i h; rw [h]
  · rename_i h; simp only [Bool.not_eq_true] at h; rw [h]
/-- What is taken from the places p on. -/
def tk (n : api_Nfa) (K : Nat) : (Nat → Bool) → List Int → Bool
  | _, [] => false
  | p, [b] => (List.range K).any fun q => heP n p b q && pp n.Last q
  | p, b :: c :: w => tk n K (nxP n K (heP n p b)) (c :: w)
theorem tk_congr (n : api_Nfa) (K : Nat) : ∀ (w : List Int) (p q : Nat → Bool), (∀ x < K, p x = q x) → tk n K p w = tk n K q w
  | [], _, _, _ => rfl
  | [b], p, q, h => by
    unfold tk
    apply Bool.eq_iff_iff.2
    rw [any_range, any_range]
    constructor
    · rintro ⟨x, hx, h1⟩; exact ⟨x, hx, by unfold heP at h1 ⊢; rw [← h x hx]; exact h1⟩
    · rintro ⟨x, hx, h1⟩; exact ⟨x, hx, by unfold heP at h1 ⊢; rw [h x hx]; exact h1⟩
  | b :: c :: w, p, q, h => by
    unfold tk
    refine tk_congr n K (c :: w) _ _ fun y hy => ?_
    unfold nxP
    apply Bool.eq_iff_iff.2
    rw [any_range, any_range]
    constructor
    · rintro ⟨x, hx, h1⟩; exact ⟨x, hx, by unfold heP at h1 ⊢; rw [← h x hx]; exact h1⟩
    · rintro ⟨x, hx, h1⟩; exact ⟨x, hx, by unfold heP at h1 ⊢; rw [h x hx]; exact h1⟩
theorem takes_l0 (n : api_Nfa) (K : Nat) (hn : OkN n K) (w : List Int) (hw : Bytes w) (hl : w.length ≤ 100000) (J : Unit → Option Bool) : ∀ (d i m : Nat) (s : api_Bits) (p : Nat → Bool), i + d + 1 = w.length → d + 19002 < m → Is s K p →
    riddleref10_Takes_l0 n w J m ((i : Int), s.N, s.Words) = some (tk n K p (w.drop i)) := by
  intro d
  have hkk := hn.k
  have hle := hn.le
  have hnone : ∀ m, 0 < m → riddleref10_none m (n.Classes.length : Int) = some (mkS K fun _ => false) := fun m hm => by
    unfold riddleref10_none
    rw [hkk, rnew_ev (K : Int) [] (by simp) m (by simpa using hm), Option.bind_some, newB_nil K (by omega), mkS_zero (by omega)]
  have body : ∀ (i m : Nat) (s : api_Bits) (p : Nat → Bool) (hi : i < w.length), 19001 < m → Is s K p → riddleref10_Takes_l0 n w J (m + 1) ((i : Int), s.N, s.Words) =
      if ((i : Int) == IntKind.i64.wrap ((w.length : Int) - 1)) = true then some ((List.range K).any fun q => heP n p w[i] q && pp n.Last q) else riddleref10_Takes_l0 n w J m (((i + 1 : Nat) : Int), (mkS K (nxP n K (heP n p w[i]))).N, (mkS K (nxP n K (heP n p w[i]))).Words) := by
    intro i m s p hi hm hs
    rw [riddleref10_Takes_l0, if_pos (by simpa using hi), hnone m (by omega), Option.bind_some, Option.bind_some]
    simp only [jn]
    have e1 : (mkS K fun _ => false) = mkS K (nxP n 0 (heP n p w[i])) := mkS_congr (by omega) fun q _ => by simp [nxP]
    have e2 : (mkS K fun _ => false) = mkS K fun q => decide (q < 0) && heP n p w[i] q := mkS_congr (by omega) fun q _ => by simp
    have h1 := takes_l1 n K hn w hw s p hs i hi (fun v132 => if ((i : Int) == IntKind.i64.wrap ((w.length : Int) - 1)) = true then (riddleref10_meets m (api_Bits.mk v132.2.2.1 v132.2.2.2) n.Last).bind fun t153_2 => some t153_2 else riddleref10_Takes_l0 n w J m (IntKind.i64.wrap ((i : Int) + 1), v132.1, v132.2.1)) K 0 m (by omega) (by omega)
    rw [show ((0 : Nat) : Int) = 0 from rfl, ← e1, ← e2] at h1
    rw [h1, wrapN i (by omega)]
    simp only [mk_eta]
    rw [meets_ev _ _ K hle _ _ (mkS_is K (by omega) _) hn.la m (by omega), Option.bind_some]
    have e3 : ((List.range K).any fun x => (decide (x < K) && heP n p w[i] x) && pp n.Last x) = (List.range K).any fun q => heP n p w[i] q && pp n.Last q := by
      apply Bool.eq_iff_iff.2
      rw [any_range, any_range]
      constructor
      · rintro ⟨x, hx, h⟩; exact ⟨x, hx, by simpa [hx] using h⟩
      · rintro ⟨x, hx, h⟩; exact ⟨x, hx, by simpa [hx] using h⟩
    rw [e3]
  induction d with
  | zero =>
    intro i m s p hi hm hs
    obtain ⟨m, rfl⟩ : ∃ j, m = j + 1 := ⟨m - 1, by omega⟩
    have hlt : i < w.length := by omega
    rw [body i m s p hlt (by omega) hs, if_pos (by rw [wrap_i64_of _ (by omega) (by omega)]; simp; omega), List.drop_eq_getElem_cons hlt, List.drop_eq_nil_of_le (by omega)]
    rfl
  | succ d ih =>
    intro i m s p hi hm hs
    obtain ⟨m, rfl⟩ : ∃ j, m = j + 1 := ⟨m - 1, by omega⟩
    have hlt : i < w.length := by omega
    have hlt2 : i + 1 < w.length := by omega
    rw [body i m s p hlt (by omega) hs, if_neg (by rw [wrap_i64_of _ (by omega) (by omega)]; simp; omega), ih (i + 1) m _ _ (by omega) (by omega) (mkS_is K (by omega) _)]
    rw [List.drop_eq_getElem_cons hlt, List.drop_eq_getElem_cons hlt2]
    congr 1
    show _ = tk n K (nxP n K (heP n p w[i])) (w[i + 1] :: w.drop (i + 1 + 1))
    exact tk_congr n K _ _ _ fun x hx => by simp [hx]
def takesB (n : api_Nfa) (K : Nat) (w : List Int) : Bool := if w = [] then n.Null else tk n K (pp n.First) w
theorem takes_ev (n : api_Nfa) (K : Nat) (hn : OkN n K) (w : List Int) (hw : Bytes w) (hl : w.length ≤ 100000) (k : Nat) (hk : w.length + 19001 < k) : riddleref10_Takes k n w = some (takesB n K w) := by
  unfold riddleref10_Takes takesB
  by_cases h : w = []
  · subst h; rfl
  · have hl0 : w.length ≠ 0 := fun e => h (List.eq_nil_of_length_eq_zero e)
    rw [if_neg (by simp; exact h), if_neg h]
    simp only [jn]
    have := takes_l0 n K hn w hw hl (fun _ => some false) (w.length - 1) 0 k n.First (pp n.First) (by omega) (by omega) hn.fi
    rw [List.drop_zero] at this
    exact this

/-! ### ways through an automaton -/
def Pth (n : api_Nfa) : List Int → Nat → Nat → Prop
  | [], _, _ => False
  | [b], q, q' => q = q' ∧ cl n b q = true
  | b :: c :: w, q, q' => cl n b q = true ∧ ∃ r, fo n q r = true ∧ Pth n (c :: w) r q'
theorem cl_lt {n : api_Nfa} {K : Nat} (hn : OkN n K) {b : Int} {q : Nat} (h : cl n b q = true) : q < K := by
  have hkk := hn.k
  rcases Nat.lt_or_ge q K with h1 | h1
  · exact h1
  · unfold cl at h
    rw [List.getElem?_eq_none (by omega)] at h; cases h
theorem tk_iff {n : api_Nfa} {K : Nat} (hn : OkN n K) : ∀ (w : List Int) (p : Nat → Bool), tk n K p w = true ↔ ∃ q q', p q = true ∧ Pth n w q q' ∧ pp n.Last q' = true
  | [], p => by simp [tk, Pth]
  | [b], p => by
    unfold tk
    rw [any_range]
    constructor
    · rintro ⟨q, hq, h⟩
      unfold heP at h
      simp only [Bool.and_eq_true] at h
      exact ⟨q, q, h.1.1, ⟨rfl, h.1.2⟩, h.2⟩
    · rintro ⟨q, q', h1, ⟨rfl, h2⟩, h3⟩
      exact ⟨q, cl_lt hn h2, by unfold heP; rw [h1, h2, h3]; rfl⟩
  | b :: c :: w, p => by
    unfold tk
    rw [tk_iff hn (c :: w)]
    constructor
    · rintro ⟨r, q', h1, h2, h3⟩
      unfold nxP at h1
      obtain ⟨q, hq, h4⟩ := (any_range _ _).1 h1
      unfold heP at h4
      simp only [Bool.and_eq_true] at h4
      exact ⟨q, q', h4.1.1, ⟨h4.1.2, r, h4.2, h2⟩, h3⟩
    · rintro ⟨q, q', h1, ⟨h2, r, h3, h4⟩, h5⟩
      refine ⟨r, q', ?_, h4, h5⟩
      unfold nxP
      exact (any_range _ _).2 ⟨q, cl_lt hn h2, by unfold heP; rw [h1, h2, h3]; rfl⟩
theorem Pth.snoc {n : api_Nfa} {b : Int} : ∀ {w : List Int} {q q' : Nat}, w ≠ [] → (Pth n (w ++ [b]) q q' ↔ ∃ r, Pth n w q r ∧ fo n r q' = true ∧ cl n b q' = true)
  | [], q, q', h => absurd rfl h
  | [c], q, q', _ => by
    simp only [List.cons_append, List.nil_append, Pth]
    constructor
    · rintro ⟨h1, r, h2, rfl, h3⟩; exact ⟨q, ⟨rfl, h1⟩, h2, h3⟩
    · rintro ⟨r, ⟨rfl, h1⟩, h2, h3⟩; exact ⟨h1, q', h2, rfl, h3⟩
  | c :: d :: w, q, q', _ => by
    simp only [List.cons_append, Pth]
    constructor
    · rintro ⟨h1, r, h2, h3⟩
      obtain ⟨s, h4, h5, h6⟩ := (Pth.snoc (w := d :: w) (by simp)).1 h3
      exact ⟨s, ⟨h1, r, h2, h4⟩, h5, h6⟩
    · rintro ⟨s, ⟨h1, r, h2, h4⟩, h5, h6⟩
      exact ⟨h1, r, h2, (Pth.snoc (w := d :: w) (by simp)).2 ⟨s, h4, h5, h6⟩⟩
theorem Pth.lt {n : api_Nfa} {K : Nat} (hn : OkN n K) : ∀ {w : List Int} {q q' : Nat}, Pth n w q q' → q < K ∧ q' < K
  | [], q, q', h => h.elim
  | [b], q, q', h => by obtain ⟨rfl, h⟩ := h; exact ⟨cl_lt hn h, cl_lt hn h⟩
  | b :: c :: w, q, q', h => by
    obtain ⟨h1, r, _, h3⟩ := h
    exact ⟨cl_lt hn h1, (Pth.lt hn h3).2⟩
theorem rev_cl (n : api_Nfa) (b : Int) (q : Nat) : cl (revN n) b q = cl n b q := rfl
theorem rev_fo_iff {n : api_Nfa} {K : Nat} (hn : OkN n K) {p q : Nat} : fo (revN n) q p = true ↔ fo n p q = true := by
  rw [rev_fo hn]
  constructor
  · intro h; simp only [Bool.and_eq_true] at h; exact h.2.2
  · intro h
    obtain ⟨h1, h2⟩ := fo_hi hn h
    simp [h1, h2, h]
theorem Pth.rev {n : api_Nfa} {K : Nat} (hn : OkN n K) : ∀ {w : List Int} {q q' : Nat}, Pth (revN n) w.reverse q' q ↔ Pth n w q q'
  | [], q, q' => Iff.rfl
  | [b], q, q' => by
    simp only [List.reverse_cons, List.reverse_nil, List.nil_append, Pth, rev_cl]
    constructor
    · rintro ⟨rfl, h⟩; exact ⟨rfl, h⟩
    · rintro ⟨rfl, h⟩; exact ⟨rfl, h⟩
  | b :: c :: w, q, q' => by
    rw [List.reverse_cons, Pth.snoc (by simp)]
    show _ ↔ cl n b q = true ∧ ∃ r, fo n q r = true ∧ Pth n (c :: w) r q'
    constructor
    · rintro ⟨r, h1, h2, h3⟩
      exact ⟨h3, r, (rev_fo_iff hn).1 h2, (Pth.rev hn).1 h1⟩
    · rintro ⟨h1, r, h2, h3⟩
      exact ⟨r, (Pth.rev hn).2 h3, (rev_fo_iff hn).2 h2, h1⟩
theorem takes_iff {n : api_Nfa} {K : Nat} (hn : OkN n K) {w : List Int} (h : w ≠ []) : takesB n K w = true ↔ ∃ q q', pp n.First q = true ∧ Pth n w q q' ∧ pp n.Last q' = true := by
  unfold takesB; rw [if_neg h]; exact tk_iff hn w _
theorem takes_rev {n : api_Nfa} {K : Nat} (hn : OkN n K) (w : List Int) : takesB (revN n) K w.reverse = takesB n K w := by
  by_cases h : w = []
  · subst h; rfl
  · apply Bool.eq_iff_iff.2
    rw [takes_iff (rev_ok hn) (by simpa using h), takes_iff hn h]
    constructor
    · rintro ⟨q', q, h1, h2, h3⟩; exact ⟨q, q', h3, (Pth.rev hn).1 h2, h1⟩
    · rintro ⟨q, q', h1, h2, h3⟩; exact ⟨q', q, h3, (Pth.rev hn).2 h2, h1⟩
/-! ### numbered from behind -/
theorem turn_cl {n : api_Nfa} {K : Nat} (hn : OkN n K) (b : Int) {q : Nat} (hq : q < K) : cl (turnN n) b (K - 1 - q) = cl n b q := by
  have hkk := hn.k
  unfold cl
  have e : (turnN n).Classes[K - 1 - q]? = n.Classes[q]? := by
    show n.Classes.reverse[K - 1 - q]? = _
    rw [List.getElem?_reverse (by omega)]
    congr 1; omega
  rw [e]
theorem turn_fo {n : api_Nfa} {K : Nat} (hn : OkN n K) {p q : Nat} (hp : p < K) (hq : q < K) : fo (turnN n) (K - 1 - p) (K - 1 - q) = fo n p q := by
  have hkk := hn.k
  have hfl := hn.fl
  have hle := hn.le
  unfold fo
  have e : (turnN n).Follow[K - 1 - p]? = (n.Follow[p]?).map (mirB K) := by
    show ((n.Follow.map (mirB n.Classes.length)).reverse)[K - 1 - p]? = _
    rw [List.getElem?_reverse (by rw [List.length_map]; omega), List.getElem?_map, List.length_map, hkk]
    congr 2; omega
  rw [e]
  cases n.Follow[p]? with
  | none => rfl
  | some f =>
    show pp (mirB K f) (K - 1 - q) = pp f q
    rw [mirB_pp hle]
    have h1 : K - 1 - q < K := by omega
    have h2 : K - 1 - (K - 1 - q) = q := by omega
    simp [h1, h2]
theorem Pth.turn {n : api_Nfa} {K : Nat} (hn : OkN n K) : ∀ {w : List Int} {q q' : Nat}, q < K → q' < K → (Pth (turnN n) w (K - 1 - q) (K - 1 - q') ↔ Pth n w q q')
  | [], q, q', _, _ => Iff.rfl
  | [b], q, q', h1, h2 => by
    simp only [Pth, turn_cl hn b h1]
    constructor
    · rintro ⟨h, h3⟩; exact ⟨by omega, h3⟩
    · rintro ⟨h, h3⟩; exact ⟨by omega, h3⟩
  | b :: c :: w, q, q', h1, h2 => by
    simp only [Pth, turn_cl hn b h1]
    constructor
    · rintro ⟨h3, r, h4, h5⟩
      have hr := (fo_hi (turn_ok hn) h4).2
      have e : K - 1 - (K - 1 - r) = r := by omega
      have h6 := turn_fo hn h1 (by omega : K - 1 - r < K)
      rw [e] at h6
      refine ⟨h3, K - 1 - r, by rw [← h6]; exact h4, ?_⟩
      have := Pth.turn hn (w := c :: w) (by omega : K - 1 - r < K) h2
      rw [e] at this
      exact this.1 h5
    · rintro ⟨h3, r, h4, h5⟩
      have hr := (fo_hi hn h4).2
      exact ⟨h3, K - 1 - r, by rw [turn_fo hn h1 hr]; exact h4, (Pth.turn hn hr h2).2 h5⟩
theorem takes_turn {n : api_Nfa} {K : Nat} (hn : OkN n K) (w : List Int) : takesB (turnN n) K w = takesB n K w := by
  have hkk := hn.k
  have hle := hn.le
  by_cases h : w = []
  · subst h; rfl
  · have e1 : ∀ x, pp (turnN n).First x = (decide (x < K) && pp n.First (K - 1 - x)) := fun x => by
      show pp (mirB n.Classes.length n.First) x = _
      rw [hkk, mirB_pp hle]
    have e2 : ∀ x, pp (turnN n).Last x = (decide (x < K) && pp n.Last (K - 1 - x)) := fun x => by
      show pp (mirB n.Classes.length n.Last) x = _
      rw [hkk, mirB_pp hle]
    apply Bool.eq_iff_iff.2
    rw [takes_iff (turn_ok hn) h, takes_iff hn h]
    constructor
    · rintro ⟨q, q', h1, h2, h3⟩
      obtain ⟨l1, l2⟩ := h2.lt (turn_ok hn)
      rw [e1] at h1
      rw [e2] at h3
      simp only [Bool.and_eq_true] at h1 h3
      have a1 : K - 1 - (K - 1 - q) = q := by omega
      have a2 : K - 1 - (K - 1 - q') = q' := by omega
      have := Pth.turn hn (w := w) (by omega : K - 1 - q < K) (by omega : K - 1 - q' < K)
      rw [a1, a2] at this
      exact ⟨_, _, h1.2, this.1 h2, h3.2⟩
    · rintro ⟨q, q', h1, h2, h3⟩
      obtain ⟨l1, l2⟩ := h2.lt hn
      refine ⟨K - 1 - q, K - 1 - q', ?_, (Pth.turn hn l1 l2).2 h2, ?_⟩
      · rw [e1]
        have a1 : K - 1 - (K - 1 - q) = q := by omega
        have a3 : K - 1 - q < K := by omega
        rw [a1, h1]; simp [a3]
      · rw [e2]
        have a1 : K - 1 - (K - 1 - q') = q' := by omega
        have a3 : K - 1 - q' < K := by omega
        rw [a1, h3]; simp [a3]

theorem reverseTurned_ev (n : api_Nfa) (hn : WFN n) (w : List Int) (hw : Bytes w) (k : Nat) (hk : 20000 < k) : riddlelaw12_ReverseTurned k n w = some true := by
  unfold riddlelaw12_ReverseTurned riddlelaw12_few
  rw [Option.bind_some, rcheckn_ev n hn k (by omega)]
  by_cases hf : ((decide ((n.Classes.length : Int) ≤ 40)) && ((decide ((n.Follow.length : Int) ≤ 60)) && (decide ((w.length : Int) ≤ 24)))) = true
  · rw [hf]
    have hlw : w.length ≤ 24 := by simp at hf; omega
    by_cases ho : okN n = true
    · have hok := ok_of n hn ho
      have hm := mayN_of ho
      have r1 : reverse_Reverse k n = some (revN n) := by rw [reverse_ev n hn k (by omega), hm]
      have t1 : reverse_Turn k n = some (turnN n) := by rw [turn_ev n hn k (by omega), hm]
      have hwr : Bytes w.reverse := fun x hx => hw x (List.mem_reverse.1 hx)
      have hc : slices_Clone_byte_byte w = some w := by unfold slices_Clone_byte_byte; rw [if_pos (by unfold okApp maxLen; simp; omega)]; rfl
      rw [if_pos ho, Option.bind_some, if_neg (by simp), Option.bind_some, if_neg (by simp), hc, Option.bind_some, srB_ev w (by omega) k (by omega), Option.bind_some, r1, Option.bind_some, begun_k k (by omega), Option.bind_some, if_pos rfl,
        rcheckn_ev _ (rev_wfn hok) k (by omega), if_pos (rev_okN hok), Option.bind_some, if_pos (by rfl), takes_ev _ _ (rev_ok hok) _ hwr (by simp; omega) k (by simp; omega), Option.bind_some, takes_ev n _ hok w hw (by omega) k (by omega), Option.bind_some, takes_rev hok w, if_pos (by simp),
        t1, Option.bind_some, takes_ev _ _ (turn_ok hok) w hw (by omega) k (by omega), Option.bind_some, Option.bind_some, takes_turn hok w]
      simp
    · rw [if_neg ho, Option.bind_some]; simp
  · have hf' : ((decide ((n.Classes.length : Int) ≤ 40)) && ((decide ((n.Follow.length : Int) ≤ 60)) && (decide ((w.length : Int) ≤ 24)))) = false := by simpa using hf
    rw [hf']
    rw [if_pos (by rfl), Option.bind_some, if_pos rfl]
end Go.Proofs.YtegjbjnmedgdoaaDoor
