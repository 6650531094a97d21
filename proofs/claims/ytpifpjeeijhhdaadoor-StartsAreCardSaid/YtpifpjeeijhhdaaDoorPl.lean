/- YtpifpjeeijhhdaaDoorPl: a part of the proof; see the last text for what is proved. -/
import Derived.Test.YtpifpjeeijhhdaaDoorPj
set_option maxRecDepth 100000
set_option linter.unusedVariables false
set_option linter.unusedSimpArgs false
/- Chapter 23, part l: the laws. -/
namespace Go.Proofs.YtpifpjeeijhhdaaDoor
open Go.AE

theorem live_ev (m : Nat) : riddlelaw23_live (m + 200) = some true := by kernel_rfl
theorem live_k (k : Nat) (h : 200 ≤ k) : riddlelaw23_live k = some true := by
  obtain ⟨m, rfl⟩ : ∃ m, k = m + 200 := ⟨k - 200, by omega⟩
  exact live_ev m

/-! ### lists that are the same -/
theorem equal64_l0 (a : List Int) (hl : a.length < 9223372036854775807) : ∀ (d i m : Nat), i + d = a.length → d < m →
    slices_Equal_int64_int64_l0 a a (fun _ => some true) m (i : Int) = some true := by
  intro d
  induction d with
  | zero =>
    intro i m hi hm
    obtain ⟨m, rfl⟩ : ∃ n, m = n + 1 := ⟨m - 1, by omega⟩
    rw [slices_Equal_int64_int64_l0, if_neg (by simp; omega)]
  | succ d ih =>
    intro i m hi hm
    obtain ⟨m, rfl⟩ : ∃ n, m = n + 1 := ⟨m - 1, by omega⟩
    have hlt : i < a.length := by omega
    rw [slices_Equal_int64_int64_l0, if_pos (by simpa using hlt), at_lt hlt]
    simp only [Option.bind_some]
    rw [if_neg (by simp), wrapN i (by omega)]
    exact ih (i + 1) m (by omega) (by omega)
theorem equal64_ev (a : List Int) (hl : a.length < 9223372036854775807) (m : Nat) (hm : a.length < m) : slices_Equal_int64_int64 m a a = some true := by
  unfold slices_Equal_int64_int64
  rw [if_neg (by simp)]
  exact equal64_l0 a hl a.length 0 m (by omega) hm
theorem equalE_l0 (a : List riddleref23_Event) (hl : a.length < 9223372036854775807) : ∀ (d i m : Nat), i + d = a.length → d < m →
    slices_Equal_riddle_riddleref23_Event_riddle_riddleref23_Event_l0 a a (fun _ => some true) m (i : Int) = some true := by
  intro d
  induction d with
  | zero =>
    intro i m hi hm
    obtain ⟨m, rfl⟩ : ∃ n, m = n + 1 := ⟨m - 1, by omega⟩
    rw [slices_Equal_riddle_riddleref23_Event_riddle_riddleref23_Event_l0, if_neg (by simp; omega)]
  | succ d ih =>
    intro i m hi hm
    obtain ⟨m, rfl⟩ : ∃ n, m = n + 1 := ⟨m - 1, by omega⟩
    have hlt : i < a.length := by omega
    rw [slices_Equal_riddle_riddleref23_Event_riddle_riddleref23_Event_l0, if_pos (by simpa using hlt), at_lt hlt]
    simp only [Option.bind_some]
    rw [if_neg (by simp), wrapN i (by omega)]
    exact ih (i + 1) m (by omega) (by omega)
theorem equalE_ev (a : List riddleref23_Event) (hl : a.length < 9223372036854775807) (m : Nat) (hm : a.length < m) : slices_Equal_riddle_riddleref23_Event_riddle_riddleref23_Event m a a = some true := by
  unfold slices_Equal_riddle_riddleref23_Event_riddle_riddleref23_Event
  rw [if_neg (by simp)]
  exact equalE_l0 a hl a.length 0 m (by omega) hm

/-! ### what any state comes to -/
theorem ssteps_l0 (t : List Int) (K : Nat) (ht : t.length = K) (hK : K ≤ 512) (J : Unit → Option Bool) : ∀ (d i m : Nat) (l : List Int), i + d = K → d < m → l.length = K → riddlelaw23_StartsSteps_l0 t J m (l, (i : Int)) = J () := by
  intro d
  induction d with
  | zero =>
    intro i m l hi hm hl
    obtain ⟨m, rfl⟩ : ∃ n, m = n + 1 := ⟨m - 1, by omega⟩
    rw [riddlelaw23_StartsSteps_l0, if_neg (by simp; omega)]
  | succ d ih =>
    intro i m l hi hm hl
    obtain ⟨m, rfl⟩ : ∃ n, m = n + 1 := ⟨m - 1, by omega⟩
    rw [riddlelaw23_StartsSteps_l0, if_pos (by simp; omega), at_lt (show i < l.length by omega), Option.bind_some, wrapN i (by omega), ih (i + 1) m _ (by omega) (by omega) (by simp [hl])]
theorem startsSteps_ev (c : riddlelaw23_Case) (hn : WFN c.Nfa) (hs : c.State.length * 8 ≤ 140737488351232) (h0 : 0 ≤ c.B) (h1 : c.B < 256) (k : Nat) (hk : 18100 < k) (hk2 : c.State.length < k) : riddlelaw23_StartsSteps k c = some true := by
  obtain ⟨n, s, begin, b, w, hat, multi⟩ := c
  simp only at hn hs h0 h1 hk2
  have hle := (ok_may n hn).le
  have hcl : slices_Clone_int64_int64 s = some s := by
    unfold slices_Clone_int64_int64
    rw [if_pos (by unfold okApp maxLen; simp; omega)]; rfl
  have hlen : (mp (KN n) (nxS (mayN n) (KN n) (sf (KN n) s) begin b)).length = KN n := mp_length _ _
  have e1 := same_refl (mp (KN n) (nxS (mayN n) (KN n) (sf (KN n) s) begin b)) (by omega) k (by omega)
  have e2 := same_refl (mp (KN n) fun _ => -1) (by rw [mp_length]; omega) k (by rw [mp_length]; omega)
  have e3 := (bitsS_is (KN n) hle (sf (KN n) s)).exact (bitsS_is (KN n) hle (sf (KN n) s)) k (by omega)
  unfold riddlelaw23_StartsSteps
  rw [live_k k (by omega), Option.bind_some, if_neg (by simp), hcl, Option.bind_some]
  simp only [snext_n n hn s begin b h0 h1 k (by omega), rsnext_n n hn s begin b h0 h1 k (by omega), Option.bind_some, e1, scheck_ev n hn s k (by omega), rscheck_ev n hn s k (by omega), snone_ev n hn k (by omega), rsnone_ev n hn k (by omega), e2, sleast_n n hn s k (by omega), rsleast_n n hn s k (by omega), sbits_n n hn s k (by omega), rsbits_n n hn s k (by omega), e3, beq_self_eq_true, if_true, jn]
  rw [show (0 : Int) = ((0 : Nat) : Int) from rfl, ssteps_l0 _ (KN n) hlen hle _ (KN n) 0 k _ (by omega) (by omega) hlen, equal64_ev s (by omega) k hk2]
  rfl

/-! ### a state's places, and its positions -/
def hi (K : Nat) (f : Nat → Int) : Prop := ∀ i, K ≤ i → f i = -1
theorem sf_hi (K : Nat) (s : List Int) : hi K (sf K s) := by
  intro i h
  unfold sf; split
  · simp only; rw [if_neg (by omega)]
  · rfl
theorem sf_of {K : Nat} {f : Nat → Int} (h : gd f) (h2 : hi K f) : sf K (mp K f) = f := by
  funext i
  rcases Nat.lt_or_ge i K with h3 | h3
  · exact sf_mp h i h3
  · rw [sf_hi K _ i h3, h2 i h3]
theorem cl_hi (n : api_Nfa) (K : Nat) (hn : OkN n K) (b : Int) (q : Nat) (h : K ≤ q) : cl n b q = false := by
  unfold cl
  rw [List.getElem?_eq_none (by rw [hn.k]; exact h)]
theorem nxS_hi (n : api_Nfa) (K : Nat) (hn : OkN n K) (f : Nat → Int) (begin b : Int) : hi K (nxS n K f begin b) := by
  intro q h
  unfold nxS
  rw [cl_hi n K hn b q h]; rfl
def ps (K : Nat) (f : Nat → Int) (q : Nat) : Bool := decide (q < K) && po f q
theorem ps_of {K : Nat} {f : Nat → Int} (h : hi K f) (q : Nat) : ps K f q = decide (0 ≤ f q) := by
  unfold ps po
  rcases Nat.lt_or_ge q K with h3 | h3
  · rw [decide_eq_true h3, Bool.true_and]
  · rw [decide_eq_false (by omega), h q h3]; rfl
theorem fd_nn (n : api_Nfa) (f : Nat → Int) (q : Nat) : ∀ d i v, (0 ≤ fd n f q d i v) ↔ (0 ≤ v ∨ ∃ p, i ≤ p ∧ p < i + d ∧ 0 ≤ f p ∧ fo n p q = true) := by
  intro d
  induction d with
  | zero =>
    intro i v
    rw [fd]
    exact ⟨fun h => .inl h, fun h => h.elim id fun ⟨p, h1, h2, _⟩ => by omega⟩
  | succ d ih =>
    intro i v
    rw [fd, ih]
    by_cases hc : 0 ≤ f i ∧ fo n i q = true
    · rw [if_pos hc, ls_nn]
      constructor
      · intro _; exact .inr ⟨i, by omega, by omega, hc.1, hc.2⟩
      · intro _; exact .inl (.inr hc.1)
    · rw [if_neg hc]
      constructor
      · rintro (h | ⟨p, h1, h2, h3⟩)
        · exact .inl h
        · exact .inr ⟨p, by omega, by omega, h3⟩
      · rintro (h | ⟨p, h1, h2, h3⟩)
        · exact .inl h
        · rcases Nat.lt_or_ge i p with h4 | h4
          · exact .inr ⟨p, by omega, by omega, h3⟩
          · have : p = i := by omega
            subst this; exact absurd h3 hc
def bgO (begin : Int) : Bool := decide (0 ≤ begin ∧ begin ≤ 4611686018427387904)
theorem nxS_nn (n : api_Nfa) (K : Nat) (hn : OkN n K) (f : Nat → Int) (begin b : Int) (q : Nat) : ps K (nxS n K f begin b) q = nxN n K (ps K f) (bgO begin) b q := by
  rw [ps_of (nxS_hi n K hn f begin b)]
  unfold nxN nxS canN
  by_cases hc : cl n b q = true
  · rw [if_pos hc, hc, Bool.and_true, Bool.eq_iff_iff, decide_eq_true_eq, fd_nn, Bool.or_eq_true, Bool.and_eq_true, List.any_eq_true]
    have e1 : (0 ≤ ini n begin q) ↔ (bgO begin = true ∧ pp n.First q = true) := by
      unfold ini bgO
      rw [decide_eq_true_eq]
      split
      · rename_i h; exact ⟨fun _ => h, fun _ => h.1.1⟩
      · rename_i h; exact ⟨fun h' => absurd h' (by decide), fun h' => absurd h' h⟩
    rw [e1]
    refine or_congr Iff.rfl ⟨?_, ?_⟩
    · rintro ⟨p, _, h2, h3, h4⟩
      refine ⟨p, List.mem_range.2 (by omega), ?_⟩
      unfold ps po
      rw [decide_eq_true (show p < K by omega), decide_eq_true h3, h4]; rfl
    · rintro ⟨p, h1, h2⟩
      unfold ps po at h2
      rw [Bool.and_eq_true, Bool.and_eq_true, decide_eq_true_eq, decide_eq_true_eq] at h2
      exact ⟨p, by omega, by omega, h2.1.2, h2.2⟩
  · rw [if_neg hc]
    have : cl n b q = false := by simpa using hc
    rw [this, Bool.and_false]; rfl
theorem ls_nn' (n : api_Nfa) (f : Nat → Int) : ∀ d i v, (0 ≤ lsS n f d i v) ↔ (0 ≤ v ∨ ∃ q, i ≤ q ∧ q < i + d ∧ 0 ≤ f q ∧ pp n.Last q = true) := by
  intro d
  induction d with
  | zero =>
    intro i v
    rw [lsS]
    exact ⟨fun h => .inl h, fun h => h.elim id fun ⟨p, h1, h2, _⟩ => by omega⟩
  | succ d ih =>
    intro i v
    rw [lsS, ih]
    by_cases hl : pp n.Last i = true
    · rw [if_pos hl, ls_nn]
      constructor
      · rintro ((h | h) | ⟨p, h1, h2, h3⟩)
        · exact .inl h
        · exact .inr ⟨i, by omega, by omega, h, hl⟩
        · exact .inr ⟨p, by omega, by omega, h3⟩
      · rintro (h | ⟨p, h1, h2, h3⟩)
        · exact .inl (.inl h)
        · rcases Nat.lt_or_ge i p with h4 | h4
          · exact .inr ⟨p, by omega, by omega, h3⟩
          · have : p = i := by omega
            subst this; exact .inl (.inr h3.1)
    · rw [if_neg hl]
      constructor
      · rintro (h | ⟨p, h1, h2, h3⟩)
        · exact .inl h
        · exact .inr ⟨p, by omega, by omega, h3⟩
      · rintro (h | ⟨p, h1, h2, h3⟩)
        · exact .inl h
        · rcases Nat.lt_or_ge i p with h4 | h4
          · exact .inr ⟨p, by omega, by omega, h3⟩
          · have : p = i := by omega
            subst this; exact absurd h3.2 hl
theorem lsS_ac (n : api_Nfa) (K : Nat) (f : Nat → Int) : decide (0 ≤ lsS n f K 0 (-1)) = acN n K (ps K f) := by
  unfold acN
  rw [Bool.eq_iff_iff, decide_eq_true_eq, decide_eq_true_eq, ls_nn']
  constructor
  · rintro (h | ⟨q, _, h2, h3, h4⟩)
    · exact absurd h (by decide)
    · have hm : (q : Int) ∈ al (fun q => ps K f q && pp n.Last q) K := (al_mem _ _ _).2 ⟨q, rfl, by omega, by unfold ps po; rw [decide_eq_true (show q < K by omega), decide_eq_true h3, h4]; rfl⟩
      have := List.length_pos_of_mem hm
      omega
  · intro h
    obtain ⟨x, hx⟩ := List.exists_mem_of_length_pos (show 0 < (al (fun q => ps K f q && pp n.Last q) K).length by omega)
    obtain ⟨q, rfl, h1, h2⟩ := (al_mem _ _ _).1 hx
    rw [Bool.and_eq_true] at h2
    unfold ps po at h2
    rw [Bool.and_eq_true, decide_eq_true_eq, decide_eq_true_eq] at h2
    exact .inr ⟨q, by omega, by omega, h2.1.2, h2.2⟩

/-! ### where texts end, and begin -/
def bgS (w : List Int) (i : Nat) (hat multi : Bool) : Int := if bg w i hat multi = true then (i : Int) else -1
theorem bgS_O (w : List Int) (i : Nat) (hat multi : Bool) (h : i ≤ 100000) : bgO (bgS w i hat multi) = bg w i hat multi := by
  unfold bgO bgS
  by_cases hb : bg w i hat multi = true
  · rw [if_pos hb, hb, decide_eq_true (by omega)]
  · rw [if_neg hb]
    have : bg w i hat multi = false := by simpa using hb
    rw [this]; rfl
def evS (n : api_Nfa) (K : Nat) (w : List Int) (hat multi : Bool) : Nat → Nat → (Nat → Int) → List (Int × Int)
  | 0, _, _ => []
  | d + 1, i, f => if 0 ≤ lsS n (nxS n K f (bgS w i hat multi) (w.getD i 0)) K 0 (-1) then (((i + 1 : Nat) : Int), lsS n (nxS n K f (bgS w i hat multi) (w.getD i 0)) K 0 (-1)) :: evS n K w hat multi d (i + 1) (nxS n K f (bgS w i hat multi) (w.getD i 0)) else evS n K w hat multi d (i + 1) (nxS n K f (bgS w i hat multi) (w.getD i 0))
theorem evS_len (n : api_Nfa) (K : Nat) (w : List Int) (hat multi : Bool) : ∀ d i f, (evS n K w hat multi d i f).length ≤ d := by
  intro d
  induction d with
  | zero => intro i f; simp [evS]
  | succ d ih =>
    intro i f
    have := ih (i + 1) (nxS n K f (bgS w i hat multi) (w.getD i 0))
    rw [evS]; split
    · simp only [List.length_cons]; omega
    · omega
theorem evS_ends (n : api_Nfa) (K : Nat) (hn : OkN n K) (w : List Int) (hat multi : Bool) : ∀ d i f, i + d ≤ 100000 → (evS n K w hat multi d i f).map (·.1) = evN n K w hat multi d i (ps K f) := by
  intro d
  induction d with
  | zero => intro i f _; rfl
  | succ d ih =>
    intro i f hi
    have e1 : ps K (nxS n K f (bgS w i hat multi) (w.getD i 0)) = nxN n K (ps K f) (bg w i hat multi) (w.getD i 0) := by
      funext q; rw [nxS_nn n K hn, bgS_O w i hat multi (by omega)]
    have e2 := lsS_ac n K (nxS n K f (bgS w i hat multi) (w.getD i 0))
    have e3 := ih (i + 1) (nxS n K f (bgS w i hat multi) (w.getD i 0)) (by omega)
    rw [e1] at e2 e3
    rw [evS, evN]
    by_cases h : 0 ≤ lsS n (nxS n K f (bgS w i hat multi) (w.getD i 0)) K 0 (-1)
    · rw [if_pos h, if_pos (by rw [← e2]; exact decide_eq_true h), List.map_cons, e3]
    · rw [if_neg h, if_neg (by rw [← e2]; simpa using h), e3]
theorem sev_l0 (n : api_Nfa) (h : WFN n) (w : List Int) (hw : Bytes w) (hl : w.length ≤ 100000) (hat multi : Bool) : ∀ (d i m : Nat) (f : Nat → Int), i + d = w.length → d + 10001 < m → gd f → hi (KN n) f →
    starts_Events_1_v1_l0 (mayN n) w hat multi m (mp (KN n) f, (i : Int)) = some (evS (mayN n) (KN n) w hat multi d i f) := by
  intro d
  induction d with
  | zero =>
    intro i m f hi hm hg hh
    obtain ⟨m, rfl⟩ : ∃ n, m = n + 1 := ⟨m - 1, by omega⟩
    rw [starts_Events_1_v1_l0, if_neg (by simp; omega)]; rfl
  | succ d ih =>
    intro i m f hi hm hg hh
    obtain ⟨m, rfl⟩ : ∃ n, m = n + 1 := ⟨m - 1, by omega⟩
    have hlt : i < w.length := by omega
    have hb := hw w[i] (List.getElem_mem hlt)
    have hn := ok_may n h
    have h1 : ∀ z, starts_Next m (mayN n) (mp (KN n) f) z w[i] = some (mp (KN n) (nxS (mayN n) (KN n) f z w[i])) := by
      intro z
      have := snext_n (mayN n) (wfn_may n h) (mp (KN n) f) z w[i] hb.1 hb.2 m (by omega)
      rw [KN_may, mayN_may, sf_of hg hh] at this
      exact this
    have h2 : ∀ g, gd g → Go.Proofs.YtpifpjeeijhhdaaDoor.hi (KN n) g → starts_Least m (mayN n) (mp (KN n) g) = some (lsS (mayN n) g (KN n) 0 (-1)) := by
      intro g hg hh
      have := sleast_n (mayN n) (wfn_may n h) (mp (KN n) g) m (by omega)
      rw [KN_may, mayN_may, sf_of hg hh] at this
      exact this
    have key : ((if hat = true then (if (decide ((i : Int) > 0)) = true then (if multi = true then (at_ w ((IntKind.i64.wrap ((i : Int) - 1)))).bind fun t36_2 => some ((!((t36_2 == 10)))) else some true) else some false) else some false) : Option Bool) = some (!bg w i hat multi) := by
      unfold bg
      cases hat with
      | false => rfl
      | true =>
        rw [if_pos rfl]
        by_cases h0 : i = 0
        · subst h0; simp
        · rw [if_pos (by simp; omega)]
          cases multi with
          | false => simp [h0]
          | true =>
            rw [if_pos rfl, show (i : Int) - 1 = ((i - 1 : Nat) : Int) by omega, wrap_i64_of _ (by omega) (by omega), at_lt (show i - 1 < w.length by omega), Option.bind_some, getD_lt (show i - 1 < w.length by omega)]
            simp [h0]
    have fin : ∀ z, z = bgS w i hat multi → ((starts_Next m (mayN n) (mp (KN n) f) z w[i]).bind fun t39_2 => (starts_Least m (mayN n) t39_2).bind fun t40_2 => (if (decide (t40_2 ≥ 0)) = true then (starts_Events_1_v1_l0 (mayN n) w hat multi m (t39_2, (IntKind.i64.wrap ((i : Int) + 1)))).map (((IntKind.i64.wrap ((i : Int) + 1)), t40_2) :: ·) else starts_Events_1_v1_l0 (mayN n) w hat multi m (t39_2, (IntKind.i64.wrap ((i : Int) + 1))))) = some (evS (mayN n) (KN n) w hat multi (d + 1) i f) := by
      rintro z rfl
      have g1 := nxS_gd (mayN n) (KN n) f hg (bgS w i hat multi) w[i]
      have g2 := nxS_hi (mayN n) (KN n) hn f (bgS w i hat multi) w[i]
      rw [h1, Option.bind_some, h2 _ g1 g2, Option.bind_some, wrapN i (by omega), ih (i + 1) m _ (by omega) (by omega) g1 g2, evS, getD_lt hlt]
      by_cases ha : 0 ≤ lsS (mayN n) (nxS (mayN n) (KN n) f (bgS w i hat multi) w[i]) (KN n) 0 (-1)
      · rw [if_pos (by simpa using ha), if_pos ha]; rfl
      · rw [if_neg (by simpa using ha), if_neg ha]
    rw [starts_Events_1_v1_l0, if_pos (by simpa using hlt), at_lt hlt, Option.bind_some, key, Option.bind_some]
    by_cases hx : bg w i hat multi = true
    · rw [if_neg (by simp [hx])]
      exact fin _ (by unfold bgS; rw [if_pos hx])
    · rw [if_pos (by simpa using hx)]
      exact fin _ (by unfold bgS; rw [if_neg hx])
def evm (x : Int × Int) : riddleref23_Event := ⟨x.1, x.2⟩
theorem okApp16 {n : Nat} (h : n ≤ 100000) : okApp 16 n := by unfold okApp maxLen; omega
theorem rsev_l0 (n : api_Nfa) (h : WFN n) (w : List Int) (hw : Bytes w) (hl : w.length ≤ 90000) (hat multi : Bool) (J : List riddleref23_Event → Option (List riddleref23_Event)) : ∀ (d i m : Nat) (a : List riddleref23_Event) (f : Nat → Int), i + d = w.length → d + 11001 < m → a.length ≤ i → gd f → hi (KN n) f →
    riddleref23_Events_l0 w hat multi (mayN n) J m (a, mp (KN n) f, (i : Int)) = J (a ++ (evS (mayN n) (KN n) w hat multi d i f).map evm) := by
  intro d
  induction d with
  | zero =>
    intro i m a f hi hm ha hg hh
    obtain ⟨m, rfl⟩ : ∃ n, m = n + 1 := ⟨m - 1, by omega⟩
    rw [riddleref23_Events_l0, if_neg (by simp; omega)]; simp [evS]
  | succ d ih =>
    intro i m a f hi hm ha hg hh
    obtain ⟨m, rfl⟩ : ∃ n, m = n + 1 := ⟨m - 1, by omega⟩
    have hlt : i < w.length := by omega
    have hb := hw w[i] (List.getElem_mem hlt)
    have hn := ok_may n h
    have h1 : ∀ z, riddleref23_Next m (mayN n) (mp (KN n) f) z w[i] = some (mp (KN n) (nxS (mayN n) (KN n) f z w[i])) := by
      intro z
      have := rsnext_n (mayN n) (wfn_may n h) (mp (KN n) f) z w[i] hb.1 hb.2 m (by omega)
      rw [KN_may, mayN_may, sf_of hg hh] at this
      exact this
    have h2 : ∀ g, gd g → Go.Proofs.YtpifpjeeijhhdaaDoor.hi (KN n) g → riddleref23_Least m (mayN n) (mp (KN n) g) = some (lsS (mayN n) g (KN n) 0 (-1)) := by
      intro g hg hh
      have := rsleast_n (mayN n) (wfn_may n h) (mp (KN n) g) m (by omega)
      rw [KN_may, mayN_may, sf_of hg hh] at this
      exact this
    have key : ((if (!hat) = true then some true else (if ((i : Int) == 0) = true then some true else (if multi = true then (at_ w ((IntKind.i64.wrap ((i : Int) - 1)))).bind fun t67_2 => some ((t67_2 == 10)) else some false))) : Option Bool) = some (bg w i hat multi) := by
      unfold bg
      cases hat with
      | false => rfl
      | true =>
        rw [if_neg (by simp)]
        by_cases h0 : i = 0
        · subst h0; rfl
        · rw [if_neg (by simp; omega)]
          cases multi with
          | false => simp [h0]
          | true =>
            rw [if_pos rfl, show (i : Int) - 1 = ((i - 1 : Nat) : Int) by omega, wrap_i64_of _ (by omega) (by omega), at_lt (show i - 1 < w.length by omega), Option.bind_some, getD_lt (show i - 1 < w.length by omega)]
            simp [h0]
    have g1 := nxS_gd (mayN n) (KN n) f hg (bgS w i hat multi) w[i]
    have g2 := nxS_hi (mayN n) (KN n) hn f (bgS w i hat multi) w[i]
    rw [riddleref23_Events_l0, if_pos (by simpa using hlt), key, Option.bind_some]
    simp only [jn]
    rw [wrapN i (by omega), at_lt hlt]
    simp only [Option.bind_some]
    have fin : ∀ z, z = bgS w i hat multi → ((riddleref23_Next m (mayN n) (mp (KN n) f) z w[i]).bind fun t71_4 => (riddleref23_Least m (mayN n) t71_4).bind fun t72_2 => (if (decide (t72_2 ≥ 0)) = true then (if okApp 16 (a.length + ([(riddleref23_Event.mk ((i + 1 : Nat) : Int) t72_2)]).length) then riddleref23_Events_l0 w hat multi (mayN n) J m (a ++ ([(riddleref23_Event.mk ((i + 1 : Nat) : Int) t72_2)]), t71_4, ((i + 1 : Nat) : Int)) else none) else riddleref23_Events_l0 w hat multi (mayN n) J m (a, t71_4, ((i + 1 : Nat) : Int)))) = J (a ++ (evS (mayN n) (KN n) w hat multi (d + 1) i f).map evm) := by
      rintro z rfl
      rw [h1, Option.bind_some, h2 _ g1 g2, Option.bind_some, evS, getD_lt hlt]
      by_cases hx : 0 ≤ lsS (mayN n) (nxS (mayN n) (KN n) f (bgS w i hat multi) w[i]) (KN n) 0 (-1)
      · rw [if_pos (by simpa using hx), if_pos (okApp16 (by simp; omega)), ih (i + 1) m _ _ (by omega) (by omega) (by simp; omega) g1 g2, if_pos hx]; simp [evm]
      · rw [if_neg (by simpa using hx), ih (i + 1) m _ _ (by omega) (by omega) (by omega) g1 g2, if_neg hx]
    by_cases hx : bg w i hat multi = true
    · rw [if_pos hx]
      exact fin _ (by unfold bgS; rw [if_pos hx])
    · rw [if_neg hx]
      exact fin _ (by unfold bgS; rw [if_neg hx])
theorem levents_l0 (k : Nat) : ∀ (l : List (Int × Int)) (a : List riddleref23_Event), a.length + l.length ≤ 100000 → riddlelaw23_events_l0 k l a = some (a ++ l.map evm) := by
  intro l
  induction l with
  | nil => intro a _; rw [riddlelaw23_events_l0]; simp
  | cons x l ih => intro a h; rw [riddlelaw23_events_l0, if_pos (okApp16 (by simp at h ⊢; omega)), ih _ (by simp at h ⊢; omega)]; simp [evm]
theorem none_gd : gd (fun _ => -1) := fun i => ⟨by show (-1 : Int) ≤ -1; omega, by show (-1 : Int) ≤ _; omega⟩
theorem none_ps (K : Nat) : ps K (fun _ => -1) = fun _ => false := by funext q; unfold ps po; simp
theorem stell_l0 (t : List riddleref23_Event) (hl : t.length ≤ 90000) (J : List Int → Option Bool) : ∀ (d i m : Nat) (a : List Int), i + d = t.length → d < m → a.length ≤ i → riddlelaw23_StartsTell_l0 t J m (a, (i : Int)) = J (a ++ (t.drop i).map (·.End)) := by
  intro d
  induction d with
  | zero =>
    intro i m a hi hm ha
    obtain ⟨m, rfl⟩ : ∃ n, m = n + 1 := ⟨m - 1, by omega⟩
    rw [riddlelaw23_StartsTell_l0, if_neg (by simp; omega), List.drop_eq_nil_of_le (by omega)]; simp
  | succ d ih =>
    intro i m a hi hm ha
    obtain ⟨m, rfl⟩ : ∃ n, m = n + 1 := ⟨m - 1, by omega⟩
    have hlt : i < t.length := by omega
    rw [riddlelaw23_StartsTell_l0, if_pos (by simp; omega), at_lt hlt, Option.bind_some, if_pos (okApp8 (by simp; omega)), wrapN i (by omega), ih (i + 1) m _ (by omega) (by omega) (by simp; omega), List.drop_eq_getElem_cons hlt, List.map_cons, List.append_assoc]; rfl
theorem sub40 (w : List Int) : ((0 : Int) ≤ 0 ∧ 0 ≤ (minI ((w.length : Int)) 40) ∧ (minI ((w.length : Int)) 40) ≤ (w.length : Nat)) ∧ sub_ w 0 (minI ((w.length : Int)) 40) = w.take 40 := by
  unfold minI sub_
  split
  · refine ⟨by omega, ?_⟩; simp
  · rename_i h
    refine ⟨by omega, ?_⟩
    rw [List.take_of_length_le (show w.length ≤ 40 by omega)]; simp
theorem startsTell_ev (c : riddlelaw23_Case) (hn : WFN c.Nfa) (hw : Bytes c.W) (k : Nat) (hk : 18100 < k) : riddlelaw23_StartsTell k c = some true := by
  obtain ⟨n, s, begin, b, w, hat, multi⟩ := c
  simp only at hn hw
  have hle := (ok_may n hn).le
  have hl : (w.take 40).length ≤ 40 := by simp; omega
  have hb := take_bytes hw 40
  have hlen := evS_len (mayN n) (KN n) (w.take 40) hat multi (w.take 40).length 0 (fun _ => -1)
  have z := zero_is (KN n) (by omega)
  have hz : Is ⟨(zeroB (KN n)).N, (zeroB (KN n)).Words⟩ (KN n) (fun _ => false) := z
  have e0 := evS_ends (mayN n) (KN n) (ok_may n hn) (w.take 40) hat multi (w.take 40).length 0 (fun _ => -1) (by omega)
  rw [none_ps] at e0
  have e1 := sev_l0 n hn _ hb (by omega) hat multi (w.take 40).length 0 k (fun _ => -1) (by omega) (by omega) none_gd (fun _ _ => rfl)
  have e2 := rsev_l0 n hn _ hb (by omega) hat multi (fun v => some v) (w.take 40).length 0 k [] (fun _ => -1) (by omega) (by omega) (by simp) none_gd (fun _ _ => rfl)
  have e3 := rev_l0 n hn _ hb (by omega) hat multi (fun v => some v) (w.take 40).length 0 k [] _ _ _ (by omega) (by omega) (by simp) hz
  have n1 := snone_ev (mayN n) (wfn_may n hn) k (by omega)
  have n2 := rsnone_ev (mayN n) (wfn_may n hn) k (by omega)
  have n3 := rnnone_ev (mayN n) (wfn_may n hn) k (by omega)
  rw [KN_may] at n1 n2 n3
  rw [show ((0 : Nat) : Int) = 0 from rfl] at e1 e2 e3
  rw [List.nil_append] at e2 e3
  rw [← e0] at e3
  revert e1 e2 e3 hlen
  generalize evS (mayN n) (KN n) (w.take 40) hat multi (w.take 40).length 0 (fun _ => -1) = E
  intro hlen e1 e2 e3
  have a1 : riddlelaw23_events k n (w.take 40) hat multi = some (E.map evm) := by
    unfold riddlelaw23_events starts_Events starts_Events_1_v1
    rw [smay_ev n hn k (by omega), Option.bind_some, Option.bind_some]
    simp only [n1, Option.bind_some, e1]
    rw [levents_l0 k _ _ (by simp; omega)]; rfl
  have a2 : riddleref23_Events k n (w.take 40) hat multi = some (E.map evm) := by
    unfold riddleref23_Events
    rw [rsmay_ev n hn k (by omega), Option.bind_some, n2, Option.bind_some]
    simp only [jn]
    exact e2
  have a3 : riddleref11_Events k n (w.take 40) hat multi = some (E.map (·.1)) := by
    unfold riddleref11_Events
    rw [rnmay_ev n hn k (by omega), Option.bind_some, n3, Option.bind_some]
    simp only [jn]
    exact e3
  have a4 : (E.map evm).map (·.End) = E.map (·.1) := by rw [List.map_map]; rfl
  have hE : (E.map evm).length ≤ 40 := by simp; omega
  have hE2 : (E.map (·.1)).length ≤ 40 := by simp; omega
  have a5 := equalE_ev (E.map evm) (by omega) k (by omega)
  have a6 := equalI_ev (E.map (·.1)) (E.map (·.1)) (by omega) k (by omega)
  unfold riddlelaw23_StartsTell
  rw [live_k k (by omega), Option.bind_some, if_neg (by simp)]
  simp only [(sub40 w).2, jn]
  rw [if_pos (sub40 w).1, a1, Option.bind_some, show (0 : Int) = ((0 : Nat) : Int) from rfl, stell_l0 _ (by omega) _ (E.map evm).length 0 k [] (by omega) (by omega) (by simp), List.nil_append, List.drop_zero, a4, a2, Option.bind_some, a5, Option.bind_some, if_pos rfl, a3, Option.bind_some, a6, Option.bind_some]
  simp
end Go.Proofs.YtpifpjeeijhhdaaDoor
set_option maxRecDepth 100000
set_option linter.unusedVariables false
set_option linter.unusedSimpArgs false
/- Chapter 23, part m: it is the automaton. -/
namespace Go.Proofs.YtpifpjeeijhhdaaDoor
open Go.AE

/-! ### all places raised -/
def ra (by_ x : Int) : Int := if 0 ≤ x then x + by_ else x
theorem ra_nn {y : Int} (hy : 0 ≤ y) (x : Int) : (0 ≤ ra y x) ↔ 0 ≤ x := by unfold ra; split <;> omega
theorem ra_ls {y : Int} (hy : 0 ≤ y) (a b : Int) : ls (ra y a) (ra y b) = ra y (ls a b) := by
  unfold ls
  by_cases hb : b < 0
  · rw [if_pos hb, if_pos (by unfold ra; rw [if_neg (by omega)]; exact hb)]
  · have h1 : ra y b = b + y := by unfold ra; rw [if_pos (by omega)]
    rw [if_neg hb, h1, if_neg (by omega)]
    by_cases ha : a < 0
    · rw [if_pos ha, if_pos (by unfold ra; rw [if_neg (by omega)]; exact ha), h1]
    · have h2 : ra y a = a + y := by unfold ra; rw [if_pos (by omega)]
      rw [if_neg ha, h2, if_neg (by omega)]
      unfold minI ra
      split <;> split <;> split <;> omega
theorem ra_fd {y : Int} (hy : 0 ≤ y) (n : api_Nfa) (f : Nat → Int) (q : Nat) : ∀ d i v, fd n (fun j => ra y (f j)) q d i (ra y v) = ra y (fd n f q d i v) := by
  intro d
  induction d with
  | zero => intro i v; rfl
  | succ d ih =>
    intro i v
    rw [fd, fd]
    by_cases hc : 0 ≤ f i ∧ fo n i q = true
    · rw [if_pos hc, if_pos ⟨(ra_nn hy _).2 hc.1, hc.2⟩, ra_ls hy, ih]
    · rw [if_neg hc, if_neg (fun h => hc ⟨(ra_nn hy _).1 h.1, h.2⟩), ih]
theorem ra_ini {y : Int} (hy : 0 ≤ y) (hy2 : y < 4294967296) (n : api_Nfa) (begin : Int) (hb : begin ≤ 1099511627776) (q : Nat) : ini n (ra y begin) q = ra y (ini n begin q) := by
  unfold ini
  by_cases hp : pp n.First q = true
  · by_cases h0 : 0 ≤ begin
    · have h1 : ra y begin = begin + y := by unfold ra; rw [if_pos h0]
      rw [h1, if_pos ⟨by omega, hp⟩, if_pos ⟨by omega, hp⟩, h1]
    · have h1 : ra y begin = begin := by unfold ra; rw [if_neg h0]
      rw [h1, if_neg (fun h => h0 h.1.1)]; rfl
  · rw [if_neg (fun h => hp h.2), if_neg (fun h => hp h.2)]; rfl
theorem ra_nx {y : Int} (hy : 0 ≤ y) (hy2 : y < 4294967296) (n : api_Nfa) (K : Nat) (f : Nat → Int) (begin b : Int) (hb : begin ≤ 1099511627776) (q : Nat) : nxS n K (fun j => ra y (f j)) (ra y begin) b q = ra y (nxS n K f begin b q) := by
  unfold nxS
  split
  · rw [ra_ini hy hy2 n begin hb, ra_fd hy]
  · rfl

/-! ### the loops -/
theorem are_l1 (y : Int) (hy : 0 ≤ y) (hy2 : y < 4294967296) (t : List Int) (K : Nat) (ht : t.length = K) (hK : K ≤ 512) (f : Nat → Int) (hf : gd f) (J : List Int → Option Bool) : ∀ (d i m : Nat) (g : Nat → Int), i + d = K → d < m → (∀ j, i ≤ j → g j = f j) →
    riddlelaw23_StartsAre_l1 y t J m (mp K g, (i : Int)) = some true ∨ ((∀ j, i ≤ j → j < K → f j ≤ 1099511627776) ∧ riddlelaw23_StartsAre_l1 y t J m (mp K g, (i : Int)) = J (mp K fun j => if i ≤ j then ra y (f j) else g j)) := by
  intro d
  induction d with
  | zero =>
    intro i m g hi hm hg
    obtain ⟨m, rfl⟩ : ∃ n, m = n + 1 := ⟨m - 1, by omega⟩
    refine .inr ⟨fun j h1 h2 => by omega, ?_⟩
    rw [riddlelaw23_StartsAre_l1, if_neg (by simp; omega)]
    congr 1
    refine mp_congr fun j hj => ?_
    rw [if_neg (by omega)]
  | succ d ih =>
    intro i m g hi hm hg
    obtain ⟨m, rfl⟩ : ∃ n, m = n + 1 := ⟨m - 1, by omega⟩
    have hfi := hf i
    have hw : IntKind.i64.wrap y = y := wrap_i64_of _ (by omega) (by omega)
    rw [riddlelaw23_StartsAre_l1, if_pos (by simp; omega), mp_at K g (by omega), Option.bind_some, hg i (Nat.le_refl i), wrapN i (by omega)]
    by_cases h1 : f i > 1099511627776
    · rw [if_pos (by simpa using h1)]; exact .inl rfl
    · rw [if_neg (by simpa using h1)]
      have fin : ∀ g' : Nat → Int, (∀ j, j ≠ i → g' j = g j) → g' i = ra y (f i) → (riddlelaw23_StartsAre_l1 y t J m (mp K g', ((i + 1 : Nat) : Int)) = some true ∨ ((∀ j, i ≤ j → j < K → f j ≤ 1099511627776) ∧ riddlelaw23_StartsAre_l1 y t J m (mp K g', ((i + 1 : Nat) : Int)) = J (mp K fun j => if i ≤ j then ra y (f j) else g j))) := by
        intro g' k1 k2
        rcases ih (i + 1) m g' (by omega) (by omega) (fun j hj => by rw [k1 j (by omega)]; exact hg j (by omega)) with h | ⟨h, h'⟩
        · exact .inl h
        · refine .inr ⟨fun j h2 h3 => ?_, ?_⟩
          · rcases Nat.lt_or_ge i j with h4 | h4
            · exact h j h4 h3
            · have : j = i := by omega
              subst this; omega
          · rw [h']
            congr 1
            refine mp_congr fun j hj => ?_
            by_cases e : j = i
            · subst e; rw [if_neg (by omega), if_pos (by omega), k2]
            · by_cases e2 : i + 1 ≤ j
              · rw [if_pos e2, if_pos (by omega)]
              · rw [if_neg e2, if_neg (by omega), k1 j e]
      by_cases h2 : f i ≥ 0
      · rw [if_pos (by simpa using h2), Option.bind_some, hw, mp_set, wrap_i64_of _ (by omega) (by omega)]
        exact fin _ (fun j hj => by rw [if_neg hj]) (by rw [if_pos rfl]; unfold ra; rw [if_pos h2])
      · rw [if_neg (by simpa using h2)]
        exact fin g (fun j _ => rfl) (by rw [hg i (Nat.le_refl i)]; unfold ra; rw [if_neg h2])
theorem are_l0 (y : Int) (hy : 0 ≤ y) (hy2 : y < 4294967296) (K : Nat) (hK : K ≤ 512) (f : Nat → Int) (hf : gd f) (J : Unit → Option Bool) : ∀ (d i m : Nat), i + d = K → d < m →
    riddlelaw23_StartsAre_l0 y (mp K f) (mp K fun j => ra y (f j)) J m (i : Int) = J () := by
  intro d
  induction d with
  | zero =>
    intro i m hi hm
    obtain ⟨m, rfl⟩ : ∃ n, m = n + 1 := ⟨m - 1, by omega⟩
    rw [riddlelaw23_StartsAre_l0, mp_length, if_neg (by simp; omega)]
  | succ d ih =>
    intro i m hi hm
    obtain ⟨m, rfl⟩ : ∃ n, m = n + 1 := ⟨m - 1, by omega⟩
    have hfi := hf i
    have hw : IntKind.i64.wrap y = y := wrap_i64_of _ (by omega) (by omega)
    rw [riddlelaw23_StartsAre_l0, mp_length, mp_length, if_pos (by simp; omega), mp_at K f (by omega), Option.bind_some, if_neg (by simp; omega), mp_at K _ (by omega), wrapN i (by omega), hw, ih (i + 1) m (by omega) (by omega), Option.bind_some, Option.bind_some, wrap_i64_of (f i + y) (by omega) (by omega)]
    unfold ra
    by_cases h : 0 ≤ f i
    · simp [h, show ¬ f i < 0 by omega]
    · have : f i = -1 := by omega
      simp [this]

/-! ### the law -/
theorem startsAre_ev (c : riddlelaw23_Case) (y : Int) (hn : WFN c.Nfa) (h0 : 0 ≤ c.B) (h1 : c.B < 256) (hy : 0 ≤ y) (hy2 : y < 4294967296) (hbl : -9223372036854775808 ≤ c.Begin) (k : Nat) (hk : 18100 < k) : riddlelaw23_StartsAre k c y = some true := by
  obtain ⟨n, s, begin, b, w, hat, multi⟩ := c
  simp only at hn h0 h1 hbl
  have hN := ok_may n hn
  have hle := hN.le
  have g1 := nxS_gd (mayN n) (KN n) (sf (KN n) s) (sf_gd _ _) begin b
  have g2 := nxS_hi (mayN n) (KN n) hN (sf (KN n) s) begin b
  have e1 := sbits_n n hn (mp (KN n) (nxS (mayN n) (KN n) (sf (KN n) s) begin b)) k (by omega)
  rw [sf_of g1 g2] at e1
  have e2 := sbits_n n hn s k (by omega)
  have i1 := bitsS_is (KN n) hle (nxS (mayN n) (KN n) (sf (KN n) s) begin b)
  have i2 := bitsS_is (KN n) hle (sf (KN n) s)
  have key : ((if (decide (begin ≥ 0)) = true then (riddleref11_Next k n (bitsS (KN n) (sf (KN n) s)) ((decide (begin ≤ 4611686018427387904))) b).bind fun t7_6 => (riddleref01_Exact k (bitsS (KN n) (nxS (mayN n) (KN n) (sf (KN n) s) begin b)) t7_6).bind fun t7_8 => some ((!t7_8)) else (riddleref11_Next k n (bitsS (KN n) (sf (KN n) s)) false b).bind fun t7_6 => (riddleref01_Exact k (bitsS (KN n) (nxS (mayN n) (KN n) (sf (KN n) s) begin b)) t7_6).bind fun t7_8 => some ((!t7_8))) : Option Bool) = some false := by
    have fin : ∀ o, o = bgO begin → ((riddleref11_Next k n (bitsS (KN n) (sf (KN n) s)) o b).bind fun t7_6 => (riddleref01_Exact k (bitsS (KN n) (nxS (mayN n) (KN n) (sf (KN n) s) begin b)) t7_6).bind fun t7_8 => some ((!t7_8))) = some false := by
      rintro o rfl
      obtain ⟨d, e3, e4⟩ := rnext_n n hn _ _ i2 (bgO begin) b h0 h1 k (by omega)
      have e5 : Is d (KN n) (fun q => decide (q < KN n) && po (nxS (mayN n) (KN n) (sf (KN n) s) begin b) q) := e4.congr fun q => (nxS_nn (mayN n) (KN n) hN (sf (KN n) s) begin b q).symm
      rw [e3, Option.bind_some, i1.exact e5 k (by omega), Option.bind_some]; rfl
    by_cases hb : begin ≥ 0
    · rw [if_pos (by simpa using hb)]
      exact fin _ (by
        unfold bgO
        by_cases h2 : begin ≤ 4611686018427387904
        · rw [decide_eq_true h2, decide_eq_true ⟨hb, h2⟩]
        · rw [decide_eq_false h2, decide_eq_false (fun h => h2 h.2)])
    · rw [if_neg (by simpa using hb)]
      exact fin _ (by unfold bgO; rw [decide_eq_false (fun h => hb h.1)])
  unfold riddlelaw23_StartsAre
  rw [live_k k (by omega), Option.bind_some, if_neg (by simp)]
  simp only [snext_n n hn s begin b h0 h1 k (by omega), Option.bind_some, e1, e2, key, rscheck_ev n hn s k (by omega)]
  rw [if_neg (by simp)]
  by_cases hok : okSt (KN n) s = true
  · rw [if_pos hok]
    by_cases hb : begin > 1099511627776
    · rw [if_pos (by simp [hb])]
    · rw [if_neg (by simp; omega)]
      have hs := sf_ok hok
      have hsl : s.length = KN n := by rw [hs, mp_length]
      have hcl : slices_Clone_int64_int64 s = some s := by
        unfold slices_Clone_int64_int64
        rw [if_pos (by unfold okApp maxLen; simp; omega)]; rfl
      have hw : IntKind.i64.wrap y = y := wrap_i64_of _ (by omega) (by omega)
      rw [hcl, Option.bind_some]
      simp only [jn]
      have hl1 := are_l1 y hy hy2 s (KN n) hsl hle (sf (KN n) s) (sf_gd _ _) (fun v15 => if decide (begin ≥ 0) = true then (starts_Next k n v15 (IntKind.i64.wrap (begin + IntKind.i64.wrap y)) b).bind fun t44_2 => riddlelaw23_StartsAre_l0 y (mp (KN n) (nxS (mayN n) (KN n) (sf (KN n) s) begin b)) t44_2 (fun v46 => some true) k 0 else (starts_Next k n v15 begin b).bind fun t44_2 => riddlelaw23_StartsAre_l0 y (mp (KN n) (nxS (mayN n) (KN n) (sf (KN n) s) begin b)) t44_2 (fun v46 => some true) k 0) (KN n) 0 k (sf (KN n) s) (by omega) (by omega) (fun _ _ => rfl)
      rw [← hs, show ((0 : Nat) : Int) = 0 from rfl] at hl1
      rcases hl1 with h | ⟨hb40, h⟩
      · exact h
      · refine h.trans ?_
        have er : (mp (KN n) fun j => if 0 ≤ j then ra y (sf (KN n) s j) else sf (KN n) s j) = mp (KN n) fun j => ra y (sf (KN n) s j) := mp_congr fun j _ => by rw [if_pos (by omega)]
        rw [er]
        have gr : gd fun j => ra y (sf (KN n) s j) := by
          intro j
          have h2 := sf_gd (KN n) s j
          rcases Nat.lt_or_ge j (KN n) with h3 | h3
          · have h4 := hb40 j (by omega) h3
            show -1 ≤ ra y (sf (KN n) s j) ∧ ra y (sf (KN n) s j) ≤ _
            unfold ra
            split
            · omega
            · exact h2
          · have h4 := sf_hi (KN n) s j h3
            show -1 ≤ ra y (sf (KN n) s j) ∧ ra y (sf (KN n) s j) ≤ _
            rw [h4]; unfold ra; omega
        have hr : hi (KN n) fun j => ra y (sf (KN n) s j) := by
          intro j h3
          show ra y (sf (KN n) s j) = -1
          rw [sf_hi (KN n) s j h3]; rfl
        have fin : ∀ z, z = ra y begin → ((starts_Next k n (mp (KN n) fun j => ra y (sf (KN n) s j)) z b).bind fun t44_2 => riddlelaw23_StartsAre_l0 y (mp (KN n) (nxS (mayN n) (KN n) (sf (KN n) s) begin b)) t44_2 (fun v46 => some true) k 0) = some true := by
          rintro z rfl
          rw [snext_n n hn _ (ra y begin) b h0 h1 k (by omega), Option.bind_some, sf_of gr hr]
          have e6 : (mp (KN n) (nxS (mayN n) (KN n) (fun j => ra y (sf (KN n) s j)) (ra y begin) b)) = mp (KN n) fun j => ra y (nxS (mayN n) (KN n) (sf (KN n) s) begin b j) := mp_congr fun j _ => ra_nx hy hy2 _ _ _ _ _ (by omega) j
          rw [e6, show (0 : Int) = ((0 : Nat) : Int) from rfl, are_l0 y hy hy2 (KN n) hle _ g1 _ (KN n) 0 k (by omega) (by omega)]
        by_cases h2 : begin ≥ 0
        · rw [if_pos (by simpa using h2)]
          exact fin _ (by rw [hw, wrap_i64_of _ (by omega) (by omega)]; unfold ra; rw [if_pos h2])
        · rw [if_neg (by simpa using h2)]
          exact fin _ (by unfold ra; rw [if_neg h2])
  · rw [if_neg hok, if_pos (by simp)]
end Go.Proofs.YtpifpjeeijhhdaaDoor
