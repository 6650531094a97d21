/- YtegjbjnmedgdoaaDoorPj: a part of the proof; see the last text for what is proved. -/
import Derived.Test.YtegjbjnmedgdoaaDoorPh
set_option linter.unusedVariables false
set_option linter.unusedSimpArgs false
set_option maxRecDepth 100000
/- Chapter 12: automata from behind: what the code makes. -/
namespace Go.Proofs.YtegjbjnmedgdoaaDoor
open Go.AE

/-! ### sets by what they have -/
def mkS (N : Nat) (p : Nat → Bool) : api_Bits := (newB (N : Int) (al p N)).1
theorem mkS_is (N : Nat) (hN : N ≤ 8192) (p : Nat → Bool) : Is (mkS N p) N (fun n => decide (n < N) && p n) := by
  refine (new_is N hN (al p N)).1.congr fun n => ?_
  by_cases h : n < N
  · have : ((n : Int) ∈ al p N) ↔ p n = true := by
      rw [al_mem]
      constructor
      · rintro ⟨m, h1, h2, h3⟩
        obtain rfl : n = m := by omega
        exact h3
      · intro hp; exact ⟨n, rfl, h, hp⟩
    simp only [h, true_and, decide_true, Bool.true_and]
    by_cases hp : p n = true
    · rw [hp]; simpa using this.2 hp
    · have hn : ¬ ((n : Int) ∈ al p N) := fun hh => hp (this.1 hh)
      simp only [hn, decide_false]
      simpa using hp
  · simp [h]
theorem Is.eqm {b : api_Bits} {N : Nat} {p : Nat → Bool} (h : Is b N p) : b = mkS N p := by
  refine h.uniq ((mkS_is N h.le p).congr fun n => ?_)
  by_cases hn : n < N
  · simp [hn]
  · simp [hn, h.hi n (by omega)]
theorem mkS_congr {N : Nat} (hN : N ≤ 8192) {p q : Nat → Bool} (h : ∀ n < N, p n = q n) : mkS N p = mkS N q := by
  refine (mkS_is N hN p).uniq ((mkS_is N hN q).congr fun n => ?_)
  by_cases hn : n < N
  · simp [hn, h n hn]
  · simp [hn]
theorem mkS_pp {N : Nat} (hN : N ≤ 8192) (p : Nat → Bool) (n : Nat) : pp (mkS N p) n = (decide (n < N) && p n) := (mkS_is N hN p).pp n
theorem mkS_zero {N : Nat} (hN : N ≤ 8192) : zeroB N = mkS N (fun _ => false) := (zero_is N hN).eqm
/-- A list of sets. -/
def vec (K : Nat) (g : Nat → Nat → Bool) : List api_Bits := (List.range K).map fun q => mkS K (g q)
theorem vec_length (K : Nat) (g : Nat → Nat → Bool) : (vec K g).length = K := by simp [vec]
theorem vec_get (K : Nat) (g : Nat → Nat → Bool) {q : Nat} (h : q < (vec K g).length) : (vec K g)[q] = mkS K (g q) := by simp [vec]
theorem vec_at (K : Nat) (g : Nat → Nat → Bool) {q : Nat} (h : q < K) : at_ (vec K g) (q : Int) = some (mkS K (g q)) := by
  rw [at_lt (by rw [vec_length]; exact h), vec_get]
theorem vec_congr {K : Nat} (hK : K ≤ 8192) {g h : Nat → Nat → Bool} (e : ∀ q < K, ∀ p < K, g q p = h q p) : vec K g = vec K h := by
  unfold vec
  refine List.map_congr_left fun q hq => mkS_congr hK fun p hp => e q (List.mem_range.1 hq) p hp
theorem vec_set (K : Nat) (hK : K ≤ 8192) (g : Nat → Nat → Bool) {q : Nat} (hq : q < K) (r : Nat → Bool) : (vec K g).set q (mkS K r) = vec K (fun q' => if q' = q then r else g q') := by
  apply List.ext_getElem
  · simp [vec_length]
  · intro i h1 h2
    rw [List.getElem_set, vec_get]
    split
    · rename_i h; subst h; rw [vec_get, if_pos rfl]
    · rename_i h; rw [vec_get, if_neg (fun e => h e.symm)]
theorem okApp32 {n : Nat} (h : n ≤ 100000) : okApp 32 n := by unfold okApp maxLen; omega

/-! ### copies -/
theorem copied_ev {b : api_Bits} {N : Nat} {p : Nat → Bool} (h : Is b N p) : glushkov_copied b = some b := by
  have := ok_len h.ok
  unfold glushkov_copied
  rw [clone_ev b.Words (by omega)]; rfl
theorem clone_l0 (n : api_Nfa) (K : Nat) (hn : OkN n K) (J : List api_Bits → Option api_Nfa) : ∀ (d i m : Nat), i + d = n.Follow.length → d < m → glushkov_Clone_l0 n J m ((i : Int), n.Follow.take i) = J n.Follow := by
  intro d
  have hfl := hn.fl
  have hle := hn.le
  induction d with
  | zero =>
    intro i m hi hm
    obtain ⟨m, rfl⟩ : ∃ j, m = j + 1 := ⟨m - 1, by omega⟩
    rw [glushkov_Clone_l0, if_neg (by simp; omega), List.take_of_length_le (by omega)]
  | succ d ih =>
    intro i m hi hm
    obtain ⟨m, rfl⟩ : ∃ j, m = j + 1 := ⟨m - 1, by omega⟩
    have hlt : i < n.Follow.length := by omega
    rw [glushkov_Clone_l0, if_pos (by simpa using hlt), at_lt hlt, Option.bind_some, copied_ev (hn.fo _ (List.getElem_mem hlt)), Option.bind_some, if_pos (okApp32 (by simp; omega)), wrapN i (by omega), List.take_append_getElem hlt]
    exact ih (i + 1) m (by omega) (by omega)
theorem gclone_ev (n : api_Nfa) (K : Nat) (hn : OkN n K) (k : Nat) (hk : 600 < k) : glushkov_Clone k n = some n := by
  have hfl := hn.fl
  have hle := hn.le
  have hk' := hn.k
  unfold glushkov_Clone slices_Clone_riddle_api_Class_riddle_api_Class
  rw [if_pos (okApp32 (by simp; omega)), Option.bind_some, copied_ev hn.fi, Option.bind_some, copied_ev hn.la, Option.bind_some]
  simp only [jn]
  have := clone_l0 n K hn (fun v4 => some (api_Nfa.mk (([] : List (Arr4 Int)) ++ n.Classes) n.First n.Last v4 n.Null)) n.Follow.length 0 k (by omega) (by omega)
  rw [List.take_zero] at this
  rw [show ((0 : Nat) : Int) = 0 from rfl] at this
  rw [this]
  simp
theorem rnone_ev (N : Nat) (h : N ≤ 8192) (k : Nat) (hk : 0 < k) : reverse_none k (N : Int) = some (zeroB N) := by
  unfold reverse_none
  rw [new_ev (N : Int) [] (by simp) k hk, Option.bind_some, newB_nil N h]
theorem rmayv_ev (n : api_Nfa) (h : WFN n) (k : Nat) (hk : 600 < k) : reverse_may k n = some (mayN n) := by
  unfold reverse_may mayN
  rw [gcheck_ev n h k hk, Option.bind_some]
  by_cases ho : okN n = true
  · rw [if_pos ho, if_pos ho, if_neg (by simp), gclone_ev n _ (ok_of n h ho) k hk]; rfl
  · rw [if_neg ho, if_neg ho, if_pos (by simp)]
    have e : reverse_none k 0 = some ⟨0, []⟩ := rnone_ev 0 (by omega) k (by omega)
    rw [e]; rfl

/-! ### edges -/
theorem fo_get {n : api_Nfa} {p : Nat} (h : p < n.Follow.length) : fo n p = pp n.Follow[p] := by
  funext q; unfold fo; rw [List.getElem?_eq_getElem h]
theorem edges_l1 (k : Nat) (x : Int) (J : Unit → Option (List (Int × Int))) : ∀ l : List Int, glushkov_Edges_1_v1_l1 k x J l () = (J ()).map ((l.map fun q => (x, q)) ++ ·)
  | [] => by rw [glushkov_Edges_1_v1_l1]; cases J () <;> rfl
  | y :: l => by
    rw [glushkov_Edges_1_v1_l1, edges_l1 k x J l]
    cases J () <;> rfl
def edg (n : api_Nfa) (K : Nat) : Nat → Nat → List (Int × Int)
  | 0, _ => []
  | d + 1, i => ((al (fo n i) K).map fun q => ((i : Int), q)) ++ edg n K d (i + 1)
theorem edg_mem (n : api_Nfa) (K : Nat) : ∀ d i x, x ∈ edg n K d i ↔ ∃ p q : Nat, x = ((p : Int), (q : Int)) ∧ i ≤ p ∧ p < i + d ∧ q < K ∧ fo n p q = true := by
  intro d
  induction d with
  | zero => intro i x; simp [edg]; intro p q _ h1 h2; omega
  | succ d ih =>
    intro i x
    rw [edg, List.mem_append, ih (i + 1) x]
    constructor
    · rintro (h | ⟨p, q, h1, h2, h3, h4⟩)
      · obtain ⟨y, hy, rfl⟩ := List.mem_map.1 h
        obtain ⟨q, rfl, hq, hf⟩ := (al_mem _ _ _).1 hy
        exact ⟨i, q, rfl, by omega, by omega, hq, hf⟩
      · exact ⟨p, q, h1, by omega, by omega, h4⟩
    · rintro ⟨p, q, rfl, h2, h3, h4, h5⟩
      by_cases hp : p = i
      · subst hp
        exact .inl (List.mem_map.2 ⟨(q : Int), (al_mem _ _ _).2 ⟨q, rfl, h4, h5⟩, rfl⟩)
      · exact .inr ⟨p, q, rfl, by omega, by omega, h4, h5⟩
theorem edges_l0 (n : api_Nfa) (K : Nat) (hn : OkN n K) : ∀ (d i m : Nat), i + d = K → d + 9001 < m → glushkov_Edges_1_v1_l0 n m (i : Int) = some (edg n K d i) := by
  intro d
  have hfl := hn.fl
  have hle := hn.le
  induction d with
  | zero =>
    intro i m hi hm
    obtain ⟨m, rfl⟩ : ∃ j, m = j + 1 := ⟨m - 1, by omega⟩
    rw [glushkov_Edges_1_v1_l0, if_neg (by simp; omega)]; rfl
  | succ d ih =>
    intro i m hi hm
    obtain ⟨m, rfl⟩ : ∃ j, m = j + 1 := ⟨m - 1, by omega⟩
    have hlt : i < n.Follow.length := by omega
    have hf := hn.fo _ (List.getElem_mem hlt)
    obtain ⟨e1, e2⟩ := all_is hf m (by omega)
    rw [glushkov_Edges_1_v1_l0, if_pos (by simp; omega)]
    simp only [jn]
    rw [at_lt hlt, Option.bind_some, e1, Option.bind_some, e2, Option.bind_some, edges_l1, wrapN i (by omega), ih (i + 1) m (by omega) (by omega), edg, fo_get hlt]
    rfl
theorem edges_ev (n : api_Nfa) (h : WFN n) (K : Nat) (hn : OkN n K) (k : Nat) (hk : 10000 < k) : glushkov_Edges_1_v1 k n = some (edg n K K 0) := by
  have hle := hn.le
  unfold glushkov_Edges_1_v1
  rw [gcheck_ev n h k (by omega), if_pos hn.ok, Option.bind_some, if_neg (by simp)]
  exact edges_l0 n K hn K 0 k (by omega) (by omega)

/-! ### turned round -/
def revN (n : api_Nfa) : api_Nfa := ⟨n.Classes, n.Last, n.First, vec n.Classes.length (fun q p => fo n p q), n.Null⟩
theorem with_mk (K : Nat) (hK : K ≤ 8192) (p : Nat → Bool) (x : Nat) (hx : x < K) : bits_With (mkS K p) (x : Int) = some (mkS K (fun y => p y || decide (y = x))) := by
  have hi := mkS_is K hK p
  rw [with_ev _ hi.u hi.wf.2]
  have h2 := with_is (mkS K p) hi.u (x : Int)
  rw [hi.nN] at h2
  rw [h2.eqm]
  congr 1
  refine mkS_congr hK fun y hy => ?_
  rw [hi.pp]
  have e : ((y : Int) = (x : Int)) ↔ y = x := by omega
  simp [hy, e]
theorem rwith_mk (K : Nat) (hK : K ≤ 8192) (p : Nat → Bool) (x : Nat) (hx : x < K) (k : Nat) (hk : 9000 < k) : riddleref01_With k (mkS K p) (x : Int) = some (mkS K (fun y => p y || decide (y = x))) := by
  have hi := mkS_is K hK p
  rw [rwith_ev _ hi.u hi.wf.2 _ k hk, ← with_ev _ hi.u hi.wf.2, with_mk K hK p x hx]
theorem rev_l0 (t : api_Nfa) (K : Nat) (hK : K ≤ 512) (k : Nat) : ∀ (l : List (Int × Int)) (g : Nat → Nat → Bool), (∀ x ∈ l, ∃ p q : Nat, x = ((p : Int), (q : Int)) ∧ p < K ∧ q < K) →
    reverse_Reverse_l0 k t l (vec K g) = some ⟨t.Classes, t.Last, t.First, vec K (fun q p => g q p || decide (((p : Int), (q : Int)) ∈ l)), t.Null⟩ := by
  intro l
  induction l with
  | nil =>
    intro g _
    rw [reverse_Reverse_l0]
    congr 2
    exact vec_congr (by omega) fun q _ p _ => by simp
  | cons x l ih =>
    intro g hl
    obtain ⟨p, q, rfl, hp, hq⟩ := hl x List.mem_cons_self
    rw [reverse_Reverse_l0]
    simp only
    rw [vec_at K g hq, Option.bind_some, with_mk K (by omega) _ p hp, Option.bind_some, Int.toNat_natCast, vec_set K (by omega) g hq, ih _ (fun y hy => hl y (List.mem_cons_of_mem _ hy))]
    congr 2
    refine vec_congr (by omega) fun q' hq' p' hp' => ?_
    by_cases e : q' = q
    · subst e
      rw [if_pos rfl]
      by_cases e2 : p' = p
      · subst e2; simp
      · have : ¬ ((p' : Int), (q' : Int)) = ((p : Int), (q' : Int)) := by simp; omega
        simp [e2, this]
    · rw [if_neg e]
      have : ¬ ((p' : Int), (q' : Int)) = ((p : Int), (q : Int)) := by simp; omega
      simp [this]
theorem rev_l1 (t : api_Nfa) (hK : t.Classes.length ≤ 512) (J : List api_Bits → Option api_Nfa) : ∀ (d i m : Nat), i + d = t.Classes.length → d < m →
    reverse_Reverse_l1 t J m ((i : Int), List.replicate i (zeroB t.Classes.length)) = J (List.replicate t.Classes.length (zeroB t.Classes.length)) := by
  intro d
  induction d with
  | zero =>
    intro i m hi hm
    obtain ⟨m, rfl⟩ : ∃ j, m = j + 1 := ⟨m - 1, by omega⟩
    rw [reverse_Reverse_l1, if_neg (by simp; omega), show i = t.Classes.length by omega]
  | succ d ih =>
    intro i m hi hm
    obtain ⟨m, rfl⟩ : ∃ j, m = j + 1 := ⟨m - 1, by omega⟩
    rw [reverse_Reverse_l1, if_pos (by simp; omega), rnone_ev _ (by omega) m (by omega), Option.bind_some, if_pos (okApp32 (by simp; omega)), wrapN i (by omega)]
    have e : List.replicate i (zeroB t.Classes.length) ++ [zeroB t.Classes.length] = List.replicate (i + 1) (zeroB t.Classes.length) := by rw [List.replicate_succ']
    rw [e]
    exact ih (i + 1) m (by omega) (by omega)
theorem zeros_vec (K : Nat) (hK : K ≤ 8192) : List.replicate K (zeroB K) = vec K (fun _ _ => false) := by
  unfold vec
  rw [List.map_const', List.length_range, mkS_zero hK]
theorem reverse_ev (n : api_Nfa) (h : WFN n) (k : Nat) (hk : 10000 < k) : reverse_Reverse k n = some (revN (mayN n)) := by
  have hn := ok_may n h
  have hle := hn.le
  have hkk := hn.k
  unfold reverse_Reverse
  rw [rmayv_ev n h k (by omega), Option.bind_some]
  simp only [jn]
  have := rev_l1 (mayN n) (by omega) (fun v5 => (glushkov_Edges (mayN n)).bind fun t17_2 => (glushkov_Edges_1_v1 k t17_2).bind fun l18 => reverse_Reverse_l0 k (mayN n) l18 v5) (mayN n).Classes.length 0 k (by omega) (by omega)
  rw [List.replicate_zero, show ((0 : Nat) : Int) = 0 from rfl] at this
  rw [this]
  unfold glushkov_Edges
  rw [Option.bind_some, edges_ev (mayN n) (wfn_may n h) _ hn k hk, Option.bind_some, zeros_vec _ (by omega), hkk]
  rw [rev_l0 (mayN n) (KN n) (by omega) k _ _ (fun x hx => by
    obtain ⟨p, q, h1, h2, h3, h4, _⟩ := (edg_mem _ _ _ _ _).1 hx
    exact ⟨p, q, h1, by omega, h4⟩)]
  unfold revN
  rw [hkk]
  congr 2
  refine vec_congr (by omega) fun q hq p hp => ?_
  have e : (((p : Int), (q : Int)) ∈ edg (mayN n) (KN n) (KN n) 0) ↔ fo (mayN n) p q = true := by
    rw [edg_mem]
    constructor
    · rintro ⟨p', q', h1, _, _, _, h5⟩
      simp only [Prod.mk.injEq] at h1
      obtain rfl : p = p' := by omega
      obtain rfl : q = q' := by omega
      exact h5
    · intro hf; exact ⟨p, q, rfl, by omega, by omega, hq, hf⟩
  by_cases hf : fo (mayN n) p q = true
  · simp [hf, e.2 hf]
  · have : ¬ (((p : Int), (q : Int)) ∈ edg (mayN n) (KN n) (KN n) 0) := fun hh => hf (e.1 hh)
    simp [this]; simpa using hf

/-! ### the reference's -/
theorem r12may_ev (n : api_Nfa) (h : WFN n) (k : Nat) (hk : 10000 < k) : riddleref12_may k n = some (mayN n) := by
  unfold riddleref12_may mayN
  rw [rcheckn_ev n h k hk, Option.bind_some]
  by_cases ho : okN n = true
  · rw [if_pos ho, if_pos ho, if_neg (by simp)]
  · rw [if_neg ho, if_neg ho, if_pos (by simp)]
    have e : riddleref10_none k 0 = some ⟨0, []⟩ := by
      unfold riddleref10_none
      have := rnew_ev (0 : Int) [] (by simp) k (by simp; omega)
      rw [this, Option.bind_some]
      have := newB_nil 0 (by omega)
      rw [show ((0 : Nat) : Int) = 0 from rfl] at this
      rw [this]; rfl
    unfold riddleref10_Empty
    rw [e]; rfl
theorem r12none_ev (N : Nat) (h : N ≤ 8192) (k : Nat) (hk : 0 < k) : riddleref12_none k (N : Int) = some (mkS N fun _ => false) := by
  unfold riddleref12_none
  rw [rnew_ev (N : Int) [] (by simp) k (by simpa using hk), Option.bind_some, newB_nil N h, mkS_zero h]
theorem mk_eta (K : Nat) (p : Nat → Bool) : api_Bits.mk (mkS K p).N (mkS K p).Words = mkS K p := rfl
theorem rrev_l1 (t : api_Nfa) (K : Nat) (hn : OkN t K) (q : Nat) (hq : q < K) (J : Int × List Int → Option api_Nfa) : ∀ (d i m : Nat), i + d = K → d + 9001 < m →
    riddleref12_Reverse_l1 t (q : Int) J m ((i : Int), (mkS K fun p => decide (p < i) && fo t p q).N, (mkS K fun p => decide (p < i) && fo t p q).Words) = J ((mkS K fun p => fo t p q).N, (mkS K fun p => fo t p q).Words) := by
  intro d
  have hfl := hn.fl
  have hle := hn.le
  have hkk := hn.k
  induction d with
  | zero =>
    intro i m hi hm
    obtain ⟨m, rfl⟩ : ∃ j, m = j + 1 := ⟨m - 1, by omega⟩
    have e : (mkS K fun p => decide (p < i) && fo t p q) = mkS K fun p => fo t p q := mkS_congr (by omega) fun p hp => by
      have : p < i := by omega
      simp [this]
    rw [riddleref12_Reverse_l1, if_neg (by simp; omega), e]
  | succ d ih =>
    intro i m hi hm
    obtain ⟨m, rfl⟩ : ∃ j, m = j + 1 := ⟨m - 1, by omega⟩
    have hlt : i < t.Follow.length := by omega
    have hf := hn.fo _ (List.getElem_mem hlt)
    have ih' := ih (i + 1) m (by omega) (by omega)
    rw [riddleref12_Reverse_l1, if_pos (by simp; omega), at_lt hlt, Option.bind_some, rhas_ev _ hf.u hf.wf.2 _ m (by omega), Option.bind_some, hasB_nat]
    have hfo : fo t i q = pp t.Follow[i] q := by rw [fo_get hlt]
    by_cases hp : pp t.Follow[i] q = true
    · rw [if_pos hp, mk_eta, rwith_mk K (by omega) _ i (by omega) m (by omega), Option.bind_some, wrapN i (by omega)]
      have e : (mkS K fun y => (decide (y < i) && fo t y q) || decide (y = i)) = mkS K fun p => decide (p < i + 1) && fo t p q := mkS_congr (by omega) fun y hy => by
        by_cases h1 : y = i
        · subst h1; rw [hfo, hp]; simp
        · have : (y < i + 1) ↔ y < i := by omega
          simp [h1, this]
      rw [e]; exact ih'
    · rw [if_neg hp, wrapN i (by omega)]
      have e : (mkS K fun y => decide (y < i) && fo t y q) = mkS K fun p => decide (p < i + 1) && fo t p q := mkS_congr (by omega) fun y hy => by
        by_cases h1 : y = i
        · subst h1
          have : fo t y q = false := by rw [hfo]; simpa using hp
          simp [this]
        · have : (y < i + 1) ↔ y < i := by omega
          simp [this]
      rw [e]; exact ih'
theorem vec_take_succ (K : Nat) (g : Nat → Nat → Bool) {i : Nat} (h : i < K) : (vec K g).take i ++ [mkS K (g i)] = (vec K g).take (i + 1) := by
  have hl : i < (vec K g).length := by rw [vec_length]; exact h
  rw [← List.take_append_getElem hl, vec_get]
theorem rrev_l0 (t : api_Nfa) (K : Nat) (hn : OkN t K) (J : List api_Bits → Option api_Nfa) : ∀ (d i m : Nat), i + d = K → d + 9601 < m →
    riddleref12_Reverse_l0 t J m ((i : Int), (vec K fun q p => fo t p q).take i) = J (vec K fun q p => fo t p q) := by
  intro d
  have hfl := hn.fl
  have hle := hn.le
  have hkk := hn.k
  induction d with
  | zero =>
    intro i m hi hm
    obtain ⟨m, rfl⟩ : ∃ j, m = j + 1 := ⟨m - 1, by omega⟩
    rw [riddleref12_Reverse_l0, if_neg (by simp; omega), List.take_of_length_le (by rw [vec_length]; omega)]
  | succ d ih =>
    intro i m hi hm
    obtain ⟨m, rfl⟩ : ∃ j, m = j + 1 := ⟨m - 1, by omega⟩
    rw [riddleref12_Reverse_l0, if_pos (by simp; omega), hkk, r12none_ev K (by omega) m (by omega), Option.bind_some]
    simp only [jn]
    have e0 : (mkS K fun _ => false) = mkS K fun p => decide (p < 0) && fo t p i := mkS_congr (by omega) fun p _ => by simp
    have h1 := rrev_l1 t K hn i (by omega) (fun v106 => if okApp 32 (((vec K fun q p => fo t p q).take i).length + [api_Bits.mk v106.1 v106.2].length) then riddleref12_Reverse_l0 t J m (IntKind.i64.wrap ((i : Int) + 1), (vec K fun q p => fo t p q).take i ++ [api_Bits.mk v106.1 v106.2]) else none) K 0 m (by omega) (by omega)
    rw [e0]
    rw [show ((0 : Nat) : Int) = 0 from rfl] at h1
    rw [h1, mk_eta, if_pos (okApp32 (by rw [List.length_take, vec_length]; simp; omega)), wrapN i (by omega), vec_take_succ K (fun q p => fo t p q) (by omega : i < K)]
    exact ih (i + 1) m (by omega) (by omega)
theorem rreverse_ev (n : api_Nfa) (h : WFN n) (k : Nat) (hk : 11000 < k) : riddleref12_Reverse k n = some (revN (mayN n)) := by
  have hn := ok_may n h
  have hle := hn.le
  have hkk := hn.k
  unfold riddleref12_Reverse
  rw [r12may_ev n h k (by omega), Option.bind_some, if_pos (okApp32 (by simp; omega))]
  simp only [jn]
  have := rrev_l0 (mayN n) (KN n) hn (fun v6 => some (api_Nfa.mk (([] : List (Arr4 Int)) ++ (mayN n).Classes) (mayN n).Last (mayN n).First v6 (mayN n).Null)) (KN n) 0 k (by omega) (by omega)
  rw [List.take_zero, show ((0 : Nat) : Int) = 0 from rfl] at this
  rw [this]
  unfold revN
  rw [hkk]; rfl
end Go.Proofs.YtegjbjnmedgdoaaDoor
set_option linter.unusedVariables false
set_option linter.unusedSimpArgs false
set_option maxRecDepth 100000
/- Chapter 12: automata numbered from behind. -/
namespace Go.Proofs.YtegjbjnmedgdoaaDoor
open Go.AE

theorem srC_l0 (L : List (Arr4 Int)) (hL : L.length ≤ 100000) (J : List (Arr4 Int) → Option (List (Arr4 Int))) : ∀ (d i m : Nat) (l : List (Arr4 Int)), L.length ≤ i + i + d + d → i + i ≤ L.length → d < m → l.length = L.length → (∀ x < L.length, l[x]? = if x < i ∨ L.length - i ≤ x then L[L.length - 1 - x]? else L[x]?) →
    slices_Reverse_riddle_api_Class_riddle_api_Class_l0 J m (l, (i : Int), (L.length : Int) - 1 - i) = J L.reverse := by
  intro d
  have fin : ∀ (i : Nat) (l : List (Arr4 Int)), L.length ≤ i + i + 1 → l.length = L.length → (∀ x < L.length, l[x]? = if x < i ∨ L.length - i ≤ x then L[L.length - 1 - x]? else L[x]?) → l = L.reverse := by
    intro i l h1 h2 h3
    apply List.ext_getElem?
    intro x
    by_cases hx : x < L.length
    · rw [h3 x hx, List.getElem?_reverse hx]
      split
      · rfl
      · have : L.length - 1 - x = x := by omega
        rw [this]
    · rw [List.getElem?_eq_none (by omega), List.getElem?_eq_none (by simp; omega)]
  induction d with
  | zero =>
    intro i m l h1 h2 hm hl hinv
    obtain ⟨m, rfl⟩ : ∃ j, m = j + 1 := ⟨m - 1, by omega⟩
    rw [slices_Reverse_riddle_api_Class_riddle_api_Class_l0, if_neg (by simp; omega), fin i l (by omega) hl hinv]
  | succ d ih =>
    intro i m l h1 h2 hm hl hinv
    obtain ⟨m, rfl⟩ : ∃ j, m = j + 1 := ⟨m - 1, by omega⟩
    by_cases hlt : i + i + 1 < L.length
    · have hi : i < l.length := by omega
      have hj : L.length - 1 - i < l.length := by omega
      have ej : (L.length : Int) - 1 - i = ((L.length - 1 - i : Nat) : Int) := by omega
      rw [slices_Reverse_riddle_api_Class_riddle_api_Class_l0, if_pos (by simp; omega), ej, at_lt hj, Option.bind_some, at_lt hi, Option.bind_some, at_lt (by rw [List.length_set]; exact hj), Option.bind_some, wrapN i (by omega), Int.toNat_natCast, Int.toNat_natCast]
      have e2 : IntKind.i64.wrap (((L.length - 1 - i : Nat) : Int) - 1) = (L.length : Int) - 1 - ((i + 1 : Nat) : Int) := by rw [wrap_i64_of _ (by omega) (by omega)]; omega
      rw [e2]
      refine ih (i + 1) m _ (by omega) (by omega) (by omega) (by simp [hl]) ?_
      intro x hx
      have hxi := hinv x hx
      by_cases e1 : x = L.length - 1 - i
      · subst e1
        rw [List.getElem?_set_self (by rw [List.length_set]; omega), if_pos (by omega)]
        have h4 := hinv i (by omega)
        rw [if_neg (by omega), List.getElem?_eq_getElem hi] at h4
        rw [h4]; congr 1; omega
      · rw [List.getElem?_set_ne (fun h => e1 h.symm)]
        by_cases e3 : x = i
        · subst e3
          rw [List.getElem?_set_self hi, if_pos (by omega)]
          have h4 := hinv (L.length - 1 - x) (by omega)
          rw [if_neg (by omega), List.getElem?_eq_getElem hj] at h4
          exact h4
        · rw [List.getElem?_set_ne (fun h => e3 h.symm), hxi]
          by_cases c : x < i ∨ L.length - i ≤ x
          · rw [if_pos c, if_pos (by omega)]
          · rw [if_neg c, if_neg (by omega)]
    · rw [slices_Reverse_riddle_api_Class_riddle_api_Class_l0, if_neg (by simp; omega), fin i l (by omega) hl hinv]
theorem srC_ev (L : List (Arr4 Int)) (hL : L.length ≤ 100000) (k : Nat) (hk : L.length < k) : slices_Reverse_riddle_api_Class_riddle_api_Class k L = some L.reverse := by
  unfold slices_Reverse_riddle_api_Class_riddle_api_Class
  simp only [jn]
  have := srC_l0 L hL (fun v2 => some v2) L.length 0 k L (by omega) (by omega) hk rfl (fun x hx => by rw [if_neg (by omega)])
  rw [wrap_i64_of _ (by omega) (by omega)]
  simpa using this

theorem srB_l0 (L : List Int) (hL : L.length ≤ 100000) (J : List Int → Option (List Int)) : ∀ (d i m : Nat) (l : List Int), L.length ≤ i + i + d + d → i + i ≤ L.length → d < m → l.length = L.length → (∀ x < L.length, l[x]? = if x < i ∨ L.length - i ≤ x then L[L.length - 1 - x]? else L[x]?) →
    slices_Reverse_byte_byte_l0 J m (l, (i : Int), (L.length : Int) - 1 - i) = J L.reverse := by
  intro d
  have fin : ∀ (i : Nat) (l : List Int), L.length ≤ i + i + 1 → l.length = L.length → (∀ x < L.length, l[x]? = if x < i ∨ L.length - i ≤ x then L[L.length - 1 - x]? else L[x]?) → l = L.reverse := by
    intro i l h1 h2 h3
    apply List.ext_getElem?
    intro x
    by_cases hx : x < L.length
    · rw [h3 x hx, List.getElem?_reverse hx]
      split
      · rfl
      · have : L.length - 1 - x = x := by omega
        rw [this]
    · rw [List.getElem?_eq_none (by omega), List.getElem?_eq_none (by simp; omega)]
  induction d with
  | zero =>
    intro i m l h1 h2 hm hl hinv
    obtain ⟨m, rfl⟩ : ∃ j, m = j + 1 := ⟨m - 1, by omega⟩
    rw [slices_Reverse_byte_byte_l0, if_neg (by simp; omega), fin i l (by omega) hl hinv]
  | succ d ih =>
    intro i m l h1 h2 hm hl hinv
    obtain ⟨m, rfl⟩ : ∃ j, m = j + 1 := ⟨m - 1, by omega⟩
    by_cases hlt : i + i + 1 < L.length
    · have hi : i < l.length := by omega
      have hj : L.length - 1 - i < l.length := by omega
      have ej : (L.length : Int) - 1 - i = ((L.length - 1 - i : Nat) : Int) := by omega
      rw [slices_Reverse_byte_byte_l0, if_pos (by simp; omega), ej, at_lt hj, Option.bind_some, at_lt hi, Option.bind_some, at_lt (by rw [List.length_set]; exact hj), Option.bind_some, wrapN i (by omega), Int.toNat_natCast, Int.toNat_natCast]
      have e2 : IntKind.i64.wrap (((L.length - 1 - i : Nat) : Int) - 1) = (L.length : Int) - 1 - ((i + 1 : Nat) : Int) := by rw [wrap_i64_of _ (by omega) (by omega)]; omega
      rw [e2]
      refine ih (i + 1) m _ (by omega) (by omega) (by omega) (by simp [hl]) ?_
      intro x hx
      have hxi := hinv x hx
      by_cases e1 : x = L.length - 1 - i
      · subst e1
        rw [List.getElem?_set_self (by rw [List.length_set]; omega), if_pos (by omega)]
        have h4 := hinv i (by omega)
        rw [if_neg (by omega), List.getElem?_eq_getElem hi] at h4
        rw [h4]; congr 1; omega
      · rw [List.getElem?_set_ne (fun h => e1 h.symm)]
        by_cases e3 : x = i
        · subst e3
          rw [List.getElem?_set_self hi, if_pos (by omega)]
          have h4 := hinv (L.length - 1 - x) (by omega)
          rw [if_neg (by omega), List.getElem?_eq_getElem hj] at h4
          exact h4
        · rw [List.getElem?_set_ne (fun h => e3 h.symm), hxi]
          by_cases c : x < i ∨ L.length - i ≤ x
          · rw [if_pos c, if_pos (by omega)]
          · rw [if_neg c, if_neg (by omega)]
    · rw [slices_Reverse_byte_byte_l0, if_neg (by simp; omega), fin i l (by omega) hl hinv]
theorem srB_ev (L : List Int) (hL : L.length ≤ 100000) (k : Nat) (hk : L.length < k) : slices_Reverse_byte_byte k L = some L.reverse := by
  unfold slices_Reverse_byte_byte
  simp only [jn]
  have := srB_l0 L hL (fun v2 => some v2) L.length 0 k L (by omega) (by omega) hk rfl (fun x hx => by rw [if_neg (by omega)])
  rw [wrap_i64_of _ (by omega) (by omega)]
  simpa using this

/-! ### mirrored sets -/
def mir (K : Nat) (p : Nat → Bool) (x : Nat) : Bool := p (K - 1 - x)
theorem mirrored_l0 (k : Nat) (b : api_Bits) (K : Nat) (hb : b.N = (K : Int)) (hK : K ≤ 512) : ∀ (l acc : List Int), (∀ x ∈ l, ∃ n : Nat, x = n ∧ n < K) → acc.length + l.length ≤ 1000 → 1000 < k →
    reverse_mirrored_l0 k b l acc = some (newB (K : Int) (acc ++ l.map fun x => (K : Int) - 1 - x)).1
  | [], acc, _, hl, hk => by
    rw [reverse_mirrored_l0, hb, new_ev _ _ (by simp at hl; omega) k (by simp at hl; omega)]; simp
  | x :: l, acc, hx, hl, hk => by
    obtain ⟨n, rfl, hn⟩ := hx x List.mem_cons_self
    simp only [List.length_cons] at hl
    have e : IntKind.i64.wrap (IntKind.i64.wrap (b.N - 1) - (n : Int)) = (K : Int) - 1 - n := by
      rw [hb, wrap_i64_of ((K : Int) - 1) (by omega) (by omega), wrap_i64_of _ (by omega) (by omega)]
    rw [reverse_mirrored_l0, e, if_pos (okApp8 (by simp; omega)), mirrored_l0 k b K hb hK l _ (fun y hy => hx y (List.mem_cons_of_mem _ hy)) (by simp; omega) hk]
    simp
theorem mirrored_ev {b : api_Bits} {K : Nat} (hK : K ≤ 512) (h : Is b K (pp b)) (k : Nat) (hk : 9000 < k) : reverse_mirrored k b = some (mkS K (mir K (pp b))) := by
  obtain ⟨e1, e2⟩ := all_is h k hk
  have hal : ∀ x ∈ al (pp b) K, ∃ n : Nat, x = n ∧ n < K := fun x hx => by
    obtain ⟨n, h1, h2, _⟩ := (al_mem _ _ _).1 hx; exact ⟨n, h1, h2⟩
  have hlen := lst_len (pp b) K K 0
  have hlen2 : (al (pp b) K).length ≤ K := hlen
  unfold reverse_mirrored
  rw [e1, Option.bind_some, e2, Option.bind_some, mirrored_l0 k b K h.n hK _ _ hal (by simp; omega) (by omega)]
  congr 1
  have hi := (new_is K (by omega) (([] : List Int) ++ (al (pp b) K).map fun x => (K : Int) - 1 - x)).1
  refine hi.uniq ((mkS_is K (by omega) _).congr fun n => ?_)
  by_cases hn : n < K
  · have e : ((n : Int) ∈ ([] : List Int) ++ (al (pp b) K).map fun x => (K : Int) - 1 - x) ↔ mir K (pp b) n = true := by
      unfold mir
      simp only [List.nil_append, List.mem_map]
      constructor
      · rintro ⟨x, hx, h1⟩
        obtain ⟨m, rfl, h2, h3⟩ := (al_mem _ _ _).1 hx
        have : K - 1 - n = m := by omega
        rw [this]; exact h3
      · intro hp
        exact ⟨((K - 1 - n : Nat) : Int), (al_mem _ _ _).2 ⟨K - 1 - n, rfl, by omega, hp⟩, by omega⟩
    by_cases hp : mir K (pp b) n = true
    · simp [hn, hp, e.2 hp]
      have := e.2 hp
      simpa using this
    · have h2 : ¬ ((n : Int) ∈ ([] : List Int) ++ (al (pp b) K).map fun x => (K : Int) - 1 - x) := fun hh => hp (e.1 hh)
      have h3 : mir K (pp b) n = false := by simpa using hp
      rw [h3]
      simp only [hn, true_and, decide_true, Bool.true_and, h2, decide_false]
  · simp [hn]
theorem rturned_l0 (b : api_Bits) (K : Nat) (hK : K ≤ 512) (h : Is b K (pp b)) (J : Int × List Int → Option api_Bits) : ∀ (d i m : Nat), i + d = K → d + 9001 < m →
    riddleref12_turned_l0 b J m ((i : Int), (mkS K fun x => decide (K - i ≤ x) && mir K (pp b) x).N, (mkS K fun x => decide (K - i ≤ x) && mir K (pp b) x).Words) = J ((mkS K (mir K (pp b))).N, (mkS K (mir K (pp b))).Words) := by
  intro d
  have hb := h.n
  induction d with
  | zero =>
    intro i m hi hm
    obtain ⟨m, rfl⟩ : ∃ j, m = j + 1 := ⟨m - 1, by omega⟩
    have e : (mkS K fun x => decide (K - i ≤ x) && mir K (pp b) x) = mkS K (mir K (pp b)) := mkS_congr (by omega) fun x hx => by
      have : K - i ≤ x := by omega
      simp [this]
    rw [riddleref12_turned_l0, if_neg (by simp; omega), e]
  | succ d ih =>
    intro i m hi hm
    obtain ⟨m, rfl⟩ : ∃ j, m = j + 1 := ⟨m - 1, by omega⟩
    have ih' := ih (i + 1) m (by omega) (by omega)
    have ew : IntKind.i64.wrap (IntKind.i64.wrap (b.N - 1) - (i : Int)) = ((K - 1 - i : Nat) : Int) := by
      rw [hb, wrap_i64_of ((K : Int) - 1) (by omega) (by omega), wrap_i64_of _ (by omega) (by omega)]; omega
    rw [riddleref12_turned_l0, if_pos (by rw [hb]; simp; omega), rhas_ev _ h.u h.wf.2 _ m (by omega), Option.bind_some, hasB_nat]
    by_cases hp : pp b i = true
    · rw [if_pos hp, mk_eta, ew, rwith_mk K (by omega) _ (K - 1 - i) (by omega) m (by omega), Option.bind_some, wrapN i (by omega)]
      have e : (mkS K fun y => (decide (K - i ≤ y) && mir K (pp b) y) || decide (y = K - 1 - i)) = mkS K fun x => decide (K - (i + 1) ≤ x) && mir K (pp b) x := mkS_congr (by omega) fun y hy => by
        by_cases h1 : y = K - 1 - i
        · subst h1
          have h2 : K - 1 - (K - 1 - i) = i := by omega
          have h3 : K - (i + 1) ≤ K - 1 - i := by omega
          simp [mir, h2, hp, h3]
        · have : (K - (i + 1) ≤ y) ↔ K - i ≤ y := by omega
          simp [h1, this]
      rw [e]; exact ih'
    · rw [if_neg hp, wrapN i (by omega)]
      have e : (mkS K fun x => decide (K - i ≤ x) && mir K (pp b) x) = mkS K fun x => decide (K - (i + 1) ≤ x) && mir K (pp b) x := mkS_congr (by omega) fun y hy => by
        by_cases h1 : y = K - 1 - i
        · subst h1
          have h2 : K - 1 - (K - 1 - i) = i := by omega
          have h3 : pp b i = false := by simpa using hp
          simp [mir, h2, h3]
        · have : (K - (i + 1) ≤ y) ↔ K - i ≤ y := by omega
          simp [this]
      rw [e]; exact ih'
theorem rturned_ev {b : api_Bits} {K : Nat} (hK : K ≤ 512) (h : Is b K (pp b)) (k : Nat) (hk : 10000 < k) : riddleref12_turned k b = some (mkS K (mir K (pp b))) := by
  unfold riddleref12_turned
  rw [h.n, r12none_ev K (by omega) k (by omega), Option.bind_some]
  simp only [jn]
  have e0 : (mkS K fun _ => false) = mkS K fun x => decide (K - 0 ≤ x) && mir K (pp b) x := mkS_congr (by omega) fun x hx => by
    have : ¬ K ≤ x := by omega
    simp [this]
  have := rturned_l0 b K hK h (fun v4 => some (api_Bits.mk v4.1 v4.2)) K 0 k (by omega) (by omega)
  rw [e0]
  exact this

/-! ### numbered from behind -/
def mirB (K : Nat) (b : api_Bits) : api_Bits := mkS K (mir K (pp b))
def turnN (n : api_Nfa) : api_Nfa := ⟨n.Classes.reverse, mirB n.Classes.length n.First, mirB n.Classes.length n.Last, (n.Follow.map (mirB n.Classes.length)).reverse, n.Null⟩
def bk (a : List api_Bits) : Nat → List (Int × api_Bits)
  | 0 => []
  | i + 1 => ((i : Int), a.getD i ⟨0, []⟩) :: bk a i
theorem back_l0 (a : List api_Bits) (ha : a.length ≤ 100000) : ∀ (i m : Nat), i ≤ a.length → i < m → slices_Backward_riddle_api_Bits_riddle_api_Bits_1_v1_l0 a m ((i : Int) - 1) = some (bk a i)
  | 0, m, _, hm => by
    obtain ⟨m, rfl⟩ : ∃ j, m = j + 1 := ⟨m - 1, by omega⟩
    rw [slices_Backward_riddle_api_Bits_riddle_api_Bits_1_v1_l0, if_neg (by simp)]; rfl
  | i + 1, m, hi, hm => by
    obtain ⟨m, rfl⟩ : ∃ j, m = j + 1 := ⟨m - 1, by omega⟩
    have e : ((i + 1 : Nat) : Int) - 1 = (i : Int) := by omega
    have hlt : i < a.length := by omega
    rw [slices_Backward_riddle_api_Bits_riddle_api_Bits_1_v1_l0, e, if_pos (by simp), at_lt hlt, Option.bind_some, wrap_i64_of _ (by omega) (by omega), back_l0 a ha i m (by omega) (by omega), bk, List.getD_eq_getElem?_getD, List.getElem?_eq_getElem hlt]
    rfl
theorem back_ev (a : List api_Bits) (ha : a.length ≤ 100000) (k : Nat) (hk : a.length < k) : slices_Backward_riddle_api_Bits_riddle_api_Bits_1_v1 k a = some (bk a a.length) := by
  unfold slices_Backward_riddle_api_Bits_riddle_api_Bits_1_v1
  rw [wrap_i64_of _ (by omega) (by omega)]
  exact back_l0 a ha a.length k (Nat.le_refl _) hk
theorem turn_l0 (k : Nat) (hk : 9000 < k) (t : api_Nfa) (f l : api_Bits) (c : List (Arr4 Int)) (a : List api_Bits) (K : Nat) (hK : K ≤ 512) (ha : ∀ b ∈ a, Is b K (pp b)) : ∀ (i : Nat) (acc : List api_Bits), i ≤ a.length → acc.length + i ≤ 1000 →
    reverse_Turn_l0 k t f l c (bk a i) acc = some ⟨c, f, l, acc ++ ((a.take i).map (mirB K)).reverse, t.Null⟩
  | 0, acc, _, _ => by rw [bk, reverse_Turn_l0]; simp
  | i + 1, acc, hi, hl => by
    have hlt : i < a.length := by omega
    have hg : a.getD i ⟨0, []⟩ = a[i] := by rw [List.getD_eq_getElem?_getD, List.getElem?_eq_getElem hlt]; rfl
    rw [bk, reverse_Turn_l0]
    simp only
    rw [hg, mirrored_ev hK (ha _ (List.getElem_mem hlt)) k hk, Option.bind_some, if_pos (okApp32 (by simp; omega)), turn_l0 k hk t f l c a K hK ha i _ (by omega) (by simp; omega)]
    congr 2
    rw [← List.take_append_getElem hlt, List.map_append, List.reverse_append, List.append_assoc]
    rfl
theorem turn_ev (n : api_Nfa) (h : WFN n) (k : Nat) (hk : 10000 < k) : reverse_Turn k n = some (turnN (mayN n)) := by
  have hn := ok_may n h
  have hle := hn.le
  have hkk := hn.k
  have hfl := hn.fl
  unfold reverse_Turn
  rw [rmayv_ev n h k (by omega), Option.bind_some, mirrored_ev hle hn.fi k (by omega), Option.bind_some, mirrored_ev hle hn.la k (by omega), Option.bind_some, srC_ev _ (by omega) k (by omega), Option.bind_some]
  unfold slices_Backward_riddle_api_Bits_riddle_api_Bits
  rw [Option.bind_some, back_ev _ (by omega) k (by omega), Option.bind_some, turn_l0 k (by omega) _ _ _ _ _ (KN n) hle hn.fo _ _ (Nat.le_refl _) (by simp; omega)]
  unfold turnN mirB
  rw [hkk, List.take_of_length_le (Nat.le_refl _), List.nil_append]
theorem rturn_l0 (t : api_Nfa) (K : Nat) (hn : OkN t K) (J : List (Arr4 Int) × List api_Bits → Option api_Nfa) : ∀ (i m : Nat) (a : List (Arr4 Int)) (b : List api_Bits), i ≤ K → i + 10001 < m → a.length + i ≤ 1000 → b.length + i ≤ 1000 →
    riddleref12_Turn_l0 t J m ((i : Int) - 1, a, b) = J (a ++ (t.Classes.take i).reverse, b ++ ((t.Follow.take i).map (mirB K)).reverse)
  | 0, m, a, b, _, hm, _, _ => by
    obtain ⟨m, rfl⟩ : ∃ j, m = j + 1 := ⟨m - 1, by omega⟩
    rw [riddleref12_Turn_l0, if_neg (by simp)]; simp
  | i + 1, m, a, b, hi, hm, h1, h2 => by
    obtain ⟨m, rfl⟩ : ∃ j, m = j + 1 := ⟨m - 1, by omega⟩
    have hkk := hn.k
    have hfl := hn.fl
    have hle := hn.le
    have e : ((i + 1 : Nat) : Int) - 1 = (i : Int) := by omega
    have hlt : i < t.Classes.length := by omega
    have hlt2 : i < t.Follow.length := by omega
    rw [riddleref12_Turn_l0, e, if_pos (by simp), at_lt hlt, Option.bind_some, if_pos (okApp32 (by simp; omega)), at_lt hlt2, Option.bind_some, rturned_ev hle (hn.fo _ (List.getElem_mem hlt2)) m (by omega), Option.bind_some, if_pos (okApp32 (by simp; omega)), wrap_i64_of _ (by omega) (by omega),
      rturn_l0 t K hn J i m _ _ (by omega) (by omega) (by simp; omega) (by simp; omega)]
    rw [← List.take_append_getElem hlt, ← List.take_append_getElem hlt2, List.map_append, List.reverse_append, List.reverse_append, List.append_assoc, List.append_assoc]
    rfl
theorem rturn_ev (n : api_Nfa) (h : WFN n) (k : Nat) (hk : 11000 < k) : riddleref12_Turn k n = some (turnN (mayN n)) := by
  have hn := ok_may n h
  have hle := hn.le
  have hkk := hn.k
  have hfl := hn.fl
  unfold riddleref12_Turn
  rw [r12may_ev n h k (by omega), Option.bind_some, rturned_ev hle hn.fi k (by omega), Option.bind_some, rturned_ev hle hn.la k (by omega), Option.bind_some]
  simp only [jn]
  rw [wrap_i64_of _ (by omega) (by omega), hkk, rturn_l0 (mayN n) (KN n) hn _ (KN n) k [] [] (Nat.le_refl _) (by omega) (by simp; omega) (by simp; omega)]
  unfold turnN mirB
  rw [hkk, List.take_of_length_le (by omega), List.take_of_length_le (by omega)]; rfl
end Go.Proofs.YtegjbjnmedgdoaaDoor
