/- YtfejcecgnonabaaDoorPi: a part of the proof; see the last text for what is proved. -/
import Derived.Test.YtfejcecgnonabaaDoorPh
set_option maxRecDepth 100000
set_option linter.unusedVariables false
set_option linter.unusedSimpArgs false
/- Chapter 11, part i: what any state comes to; where texts end. -/
namespace Go.Proofs.YtfejcecgnonabaaDoor
open Go.AE

theorem live_ev (m : Nat) : riddlelaw11_live (m + 200) = some true := by kernel_rfl
theorem live_k (k : Nat) (h : 200 ≤ k) : riddlelaw11_live k = some true := by
  obtain ⟨m, rfl⟩ : ∃ m, k = m + 200 := ⟨k - 200, by omega⟩
  exact live_ev m
theorem short_ev (w : List Int) : riddlelaw11_short w = some (w.take 60) := by
  unfold riddlelaw11_short
  rw [if_pos (by unfold minI; split <;> omega)]
  unfold sub_ minI
  split
  · simp
  · rename_i h
    rw [List.take_of_length_le (show w.length ≤ 60 by omega)]; simp
theorem take_bytes {w : List Int} (h : Bytes w) (n : Nat) : Bytes (w.take n) := fun x hx => h x (List.mem_of_mem_take hx)
theorem exact_may (s : api_Bits) (hs : WF s) (k : Nat) (hk : 9000 < k) : riddleref01_Exact k (mayB s) (mayB s) = some true := by
  have := may_len s
  exact exact_refl _ (by omega) k (by omega)
theorem nfaSteps_ev (c : riddlelaw11_Case) (hn : WFN c.Nfa) (hs : WF c.State) (hw : Bytes c.W) (k : Nat) (hk : 18100 < k) : riddlelaw11_NfaSteps k c = some true := by
  obtain ⟨n, s, begin, w, from_, hat, multi⟩ := c
  simp only at hn hs hw
  have hle := (ok_may n hn).le
  have hi := stN_is hle s hs
  have hi' : Is (stN (KN n) s) (KN n) (pp (stN (KN n) s)) := hi
  have hst := stN_of hi'
  have st1 : nfa_state k (mayN n) s = nfa_state k (mayN n) (stN (KN n) s) := by rw [state_n n hn s hs k (by omega), state_n n hn _ hi'.wf k (by omega), hst]
  have st2 : riddleref11_state k (mayN n) s = riddleref11_state k (mayN n) (stN (KN n) s) := by rw [rstate_n n hn s hs k (by omega), rstate_n n hn _ hi'.wf k (by omega), hst]
  have m1 := nmay_ev n hn k (by omega)
  have m2 := rnmay_ev n hn k (by omega)
  have e3 : ∀ b, nfa_Next k n s begin b = nfa_Next k n (stN (KN n) s) begin b := fun b => by unfold nfa_Next; rw [m1, Option.bind_some, Option.bind_some, st1]
  have e4 : ∀ b, riddleref11_Next k n s begin b = riddleref11_Next k n (stN (KN n) s) begin b := fun b => by unfold riddleref11_Next; rw [m2, Option.bind_some, Option.bind_some, st2]
  have e5 : ∀ v, nfa_Run k n s v = nfa_Run k n (stN (KN n) s) v := fun v => by unfold nfa_Run; rw [m1, Option.bind_some, Option.bind_some, st1]
  have e6 : ∀ v, riddleref11_Run k n s v = riddleref11_Run k n (stN (KN n) s) v := fun v => by unfold riddleref11_Run; rw [m2, Option.bind_some, Option.bind_some, st2]
  have e7 : nfa_Accepts k n s = nfa_Accepts k n (stN (KN n) s) := by unfold nfa_Accepts; rw [m1, Option.bind_some, Option.bind_some, st1]
  have e8 : riddleref11_Accepts k n s = riddleref11_Accepts k n (stN (KN n) s) := by unfold riddleref11_Accepts; rw [m2, Option.bind_some, Option.bind_some, st2]
  have e9 : nfa_Dead k n s = nfa_Dead k n (stN (KN n) s) := by unfold nfa_Dead; rw [m1, Option.bind_some, Option.bind_some, st1]
  have e10 : riddleref11_Dead k n s = riddleref11_Dead k n (stN (KN n) s) := by unfold riddleref11_Dead; rw [m2, Option.bind_some, Option.bind_some, st2]
  revert hi' e3 e4 e5 e6 e7 e8 e9 e10
  clear hi hst st1 st2
  generalize stN (KN n) s = t
  generalize (pp t) = p
  intro hi e3 e4 e5 e6 e7 e8 e9 e10
  have hl : (w.take 60).length ≤ 60 := by simp; omega
  have hb60 := take_bytes hw 60
  obtain ⟨c1, h1, i1⟩ := nrun_n n hn t p hi _ hb60 (by omega) k (by omega)
  obtain ⟨c2, h2, i2⟩ := rnrun_n n hn t p hi _ hb60 (by omega) k (by omega)
  obtain ⟨v, h3, h4⟩ := dead_n n hn t p hi k (by omega)
  have z := zero_is (KN n) (by omega)
  have fin : ∀ b : Int, 0 ≤ b → b < 256 → ∃ d1 d2, nfa_Next k n s begin b = some d1 ∧ riddleref11_Next k n s begin b = some d2 ∧ riddleref01_Exact k d1 d2 = some true := by
    intro b h0 h1'
    obtain ⟨c5, h7, i5⟩ := next_n n hn t p hi begin b h0 h1' k (by omega)
    obtain ⟨c6, h8, i6⟩ := rnext_n n hn t p hi begin b h0 h1' k (by omega)
    exact ⟨c5, c6, by rw [e3, h7], by rw [e4, h8], i5.exact i6 k (by omega)⟩
  have x1 := i1.exact i2 k (by omega)
  have x2 := z.exact z k (by omega)
  have x3 := exact_may s hs k (by omega)
  unfold riddlelaw11_NfaSteps
  rw [live_k k (by omega), Option.bind_some, if_neg (by simp), short_ev, Option.bind_some]
  simp only [jn, rcopy_ev s hs.1 hs.2 k (by omega), nnone_ev n hn k (by omega), rnnone_ev n hn k (by omega), Option.bind_some, x2, e5, h1, e6, h2, x1, e7, acc_n n hn t p hi k (by omega), e8, racc_n n hn t p hi k (by omega), e9, h3, e10, h4, x3]
  by_cases hw0 : 0 < (w.take 60).length
  · have hb := hb60 (w.take 60)[0] (List.getElem_mem hw0)
    obtain ⟨d1, d2, y1, y2, y3⟩ := fin _ hb.1 hb.2
    rw [if_pos (by simp only [decide_eq_true_eq]; omega), show (0 : Int) = ((0 : Nat) : Int) from rfl, at_lt hw0, Option.bind_some]
    simp only [y1, y2, y3, Option.bind_some]
    simp
  · obtain ⟨d1, d2, y1, y2, y3⟩ := fin 0 (by decide) (by decide)
    rw [if_neg (by simp only [decide_eq_true_eq]; omega)]
    simp only [y1, y2, y3, Option.bind_some]
    simp

/-! ### where texts end -/
def endsN (n : api_Nfa) (K : Nat) (w : List Int) (f : Int) : Nat → Nat → (Nat → Bool) → List Int
  | 0, _, _ => []
  | d + 1, i, p => if acN n K (nxN n K p ((i : Int) == f) (w.getD i 0)) = true then ((i + 1 : Nat) : Int) :: endsN n K w f d (i + 1) (nxN n K p ((i : Int) == f) (w.getD i 0)) else endsN n K w f d (i + 1) (nxN n K p ((i : Int) == f) (w.getD i 0))
theorem endsN_len (n : api_Nfa) (K : Nat) (w : List Int) (f : Int) : ∀ d i p, (endsN n K w f d i p).length ≤ d := by
  intro d
  induction d with
  | zero => intro i p; simp [endsN]
  | succ d ih =>
    intro i p
    have := ih (i + 1) (nxN n K p ((i : Int) == f) (w.getD i 0))
    rw [endsN]; split
    · simp only [List.length_cons]; omega
    · omega
theorem getD_lt {w : List Int} {i : Nat} (h : i < w.length) : w.getD i 0 = w[i] := by rw [List.getD_eq_getElem?_getD, List.getElem?_eq_getElem h]; rfl
theorem ends_l0 (n : api_Nfa) (h : WFN n) (w : List Int) (hw : Bytes w) (hl : w.length ≤ 100000) (f : Int) : ∀ (d i m : Nat) (N : Int) (W : List Int) (p : Nat → Bool), i + d = w.length → d + 9001 < m → Is ⟨N, W⟩ (KN n) p →
    nfa_Ends_1_v1_l0 f w (mayN n) m ((i : Int), N, W) = some (endsN (mayN n) (KN n) w f d i p) := by
  intro d
  induction d with
  | zero =>
    intro i m N W p hi hm hs
    obtain ⟨m, rfl⟩ : ∃ n, m = n + 1 := ⟨m - 1, by omega⟩
    rw [nfa_Ends_1_v1_l0, if_pos (by simp; omega)]; rfl
  | succ d ih =>
    intro i m N W p hi hm hs
    obtain ⟨m, rfl⟩ : ∃ n, m = n + 1 := ⟨m - 1, by omega⟩
    have hlt : i < w.length := by omega
    have hb := hw w[i] (List.getElem_mem hlt)
    obtain ⟨c, h1, h2⟩ := step_n (mayN n) (wfn_may n h) (KN n) (ok_may n h) ⟨N, W⟩ p hs ((i : Int) == f) w[i] hb.1 hb.2 m (by omega)
    rw [nfa_Ends_1_v1_l0, if_neg (by simp; omega), at_lt hlt, Option.bind_some, h1, Option.bind_some, meet_n _ _ (ok_may n h) c _ h2 m (by omega), Option.bind_some, wrapN i (by omega), ih (i + 1) m c.N c.Words _ (by omega) (by omega) h2, endsN, getD_lt hlt]
    by_cases ha : acN (mayN n) (KN n) (nxN (mayN n) (KN n) p ((i : Int) == f) w[i]) = true
    · rw [if_pos ha, if_pos ha]; rfl
    · rw [if_neg ha, if_neg ha]
theorem rends_l0 (n : api_Nfa) (h : WFN n) (w : List Int) (hw : Bytes w) (hl : w.length ≤ 60) (f : Int) (J : List Int → Option (List Int)) : ∀ (d i m : Nat) (a : List Int) (N : Int) (W : List Int) (p : Nat → Bool), i + d = w.length → d + 18001 < m → a.length ≤ i + 1 → Is ⟨N, W⟩ (KN n) p →
    riddleref11_Ends_l0 w f (mayN n) J m (a, (i : Int), N, W) = J (a ++ endsN (mayN n) (KN n) w f d i p) := by
  intro d
  induction d with
  | zero =>
    intro i m a N W p hi hm ha hs
    obtain ⟨m, rfl⟩ : ∃ n, m = n + 1 := ⟨m - 1, by omega⟩
    rw [riddleref11_Ends_l0, if_neg (by simp; omega)]; simp [endsN]
  | succ d ih =>
    intro i m a N W p hi hm ha hs
    obtain ⟨m, rfl⟩ : ∃ n, m = n + 1 := ⟨m - 1, by omega⟩
    have hlt : i < w.length := by omega
    have hb := hw w[i] (List.getElem_mem hlt)
    obtain ⟨c, h1, h2⟩ := rnext_n (mayN n) (wfn_may n h) ⟨N, W⟩ p (by rw [KN_may]; exact hs) ((i : Int) == f) w[i] hb.1 hb.2 m (by omega)
    have hac := racc_n (mayN n) (wfn_may n h) c _ h2 m (by omega)
    rw [KN_may, mayN_may] at h2 hac
    rw [riddleref11_Ends_l0, if_pos (by simpa using hlt), at_lt hlt, Option.bind_some, h1, Option.bind_some, hac, Option.bind_some, wrapN i (by omega), endsN, getD_lt hlt]
    by_cases hx : acN (mayN n) (KN n) (nxN (mayN n) (KN n) p ((i : Int) == f) w[i]) = true
    · rw [if_pos hx, if_pos (okApp8 (by simp; omega)), ih (i + 1) m _ c.N c.Words _ (by omega) (by omega) (by simp; omega) h2, if_pos hx]; simp
    · rw [if_neg hx, ih (i + 1) m _ c.N c.Words _ (by omega) (by omega) (by omega) h2, if_neg hx]
theorem lends_l0 (k : Nat) : ∀ (l a : List Int), a.length + l.length ≤ 100000 → riddlelaw11_ends_l0 k l a = some (a ++ l) := by
  intro l
  induction l with
  | nil => intro a _; rw [riddlelaw11_ends_l0]; simp
  | cons x l ih => intro a h; rw [riddlelaw11_ends_l0, if_pos (okApp8 (by simp at h ⊢; omega)), ih _ (by simp at h ⊢; omega)]; simp
theorem levents_l0 (k : Nat) : ∀ (l a : List Int), a.length + l.length ≤ 100000 → riddlelaw11_events_l0 k l a = some (a ++ l) := by
  intro l
  induction l with
  | nil => intro a _; rw [riddlelaw11_events_l0]; simp
  | cons x l ih => intro a h; rw [riddlelaw11_events_l0, if_pos (okApp8 (by simp at h ⊢; omega)), ih _ (by simp at h ⊢; omega)]; simp
theorem ends_n (n : api_Nfa) (h : WFN n) (w : List Int) (hw : Bytes w) (hl : w.length ≤ 60) (f : Int) (k : Nat) (hk : 18100 < k) : ∃ l : List Int, l.length ≤ 100 ∧ riddlelaw11_ends k n w f = some l ∧ riddleref11_Ends k n w f = some l := by
  have hle := (ok_may n h).le
  have z := zero_is (KN n) (by omega)
  have hz : Is ⟨(zeroB (KN n)).N, (zeroB (KN n)).Words⟩ (KN n) (fun _ => false) := z
  unfold riddlelaw11_ends nfa_Ends nfa_Ends_1_v1 riddleref11_Ends
  rw [nmay_ev n h k (by omega), rnmay_ev n h k (by omega)]
  simp only [Option.bind_some, jn]
  by_cases h1 : f < 0
  · exact ⟨[], by simp, by rw [if_pos (by simpa using h1), Option.bind_some, lends_l0 k _ _ (by simp)]; rfl, by rw [if_pos (by simp [h1])]⟩
  · by_cases h2 : f > (w.length : Int)
    · exact ⟨[], by simp, by rw [if_neg (by simpa using h1), if_pos (by simpa using h2), Option.bind_some, lends_l0 k _ _ (by simp)]; rfl, by rw [if_pos (by simp [h2])]⟩
    · obtain ⟨i, rfl⟩ := Int.eq_ofNat_of_zero_le (show 0 ≤ f by omega)
      have hlen := endsN_len (mayN n) (KN n) w (i : Int) (w.length - i) i (fun _ => false)
      have e1 := ends_l0 n h w hw (by omega) (i : Int) (w.length - i) i k _ _ _ (by omega) (by omega) hz
      have e2 := fun a => rends_l0 n h w hw hl (i : Int) (fun v => some v) (w.length - i) i k a (zeroB (KN n)).N (zeroB (KN n)).Words (fun _ => false) (by omega) (by omega)
      have n1 := nnone_ev (mayN n) (wfn_may n h) k (by omega)
      have n2 := rnnone_ev (mayN n) (wfn_may n h) k (by omega)
      rw [KN_may] at n1 n2
      have q1 : ¬ (decide ((i : Int) < 0) = true) := by simp only [decide_eq_true_eq]; omega
      have q2 : ¬ (decide ((i : Int) > (w.length : Int)) = true) := by simp only [decide_eq_true_eq]; omega
      have q3 : ¬ ((decide ((i : Int) < 0) || decide ((i : Int) > (w.length : Int))) = true) := by simp only [Bool.or_eq_true, decide_eq_true_eq]; omega
      rw [if_neg q1, if_neg q2, if_neg q3]
      simp only [n1, n2, Option.bind_some, e1]
      by_cases hN : (mayN n).Null = true
      · refine ⟨(i : Int) :: endsN (mayN n) (KN n) w (i : Int) (w.length - i) i (fun _ => false), by simp; omega, ?_, ?_⟩
        · rw [if_pos hN, Option.map_some, Option.bind_some, lends_l0 k _ _ (by simp; omega)]; rfl
        · rw [if_pos hN, if_pos (okApp8 (by simp)), e2 _ (by simp) hz]; rfl
      · refine ⟨endsN (mayN n) (KN n) w (i : Int) (w.length - i) i (fun _ => false), by omega, ?_, ?_⟩
        · rw [if_neg hN, Option.bind_some, lends_l0 k _ _ (by simp; omega)]; rfl
        · rw [if_neg hN, e2 _ (by simp) hz]; rfl

/-! ### wherever they begin -/
def bg (w : List Int) (i : Nat) (hat multi : Bool) : Bool := !hat || (decide (i = 0) || (multi && w.getD (i - 1) 0 == 10))
def evN (n : api_Nfa) (K : Nat) (w : List Int) (hat multi : Bool) : Nat → Nat → (Nat → Bool) → List Int
  | 0, _, _ => []
  | d + 1, i, p => if acN n K (nxN n K p (bg w i hat multi) (w.getD i 0)) = true then ((i + 1 : Nat) : Int) :: evN n K w hat multi d (i + 1) (nxN n K p (bg w i hat multi) (w.getD i 0)) else evN n K w hat multi d (i + 1) (nxN n K p (bg w i hat multi) (w.getD i 0))
theorem evN_len (n : api_Nfa) (K : Nat) (w : List Int) (hat multi : Bool) : ∀ d i p, (evN n K w hat multi d i p).length ≤ d := by
  intro d
  induction d with
  | zero => intro i p; simp [evN]
  | succ d ih =>
    intro i p
    have := ih (i + 1) (nxN n K p (bg w i hat multi) (w.getD i 0))
    rw [evN]; split
    · simp only [List.length_cons]; omega
    · omega
theorem begins_ev (w : List Int) (hl : w.length ≤ 100000) (i : Nat) (hi : i < w.length) (hat multi : Bool) : riddleref11_begins w (i : Int) hat multi = some (bg w i hat multi) := by
  unfold riddleref11_begins bg
  cases hat with
  | false => rfl
  | true =>
    rw [if_neg (by simp)]
    by_cases h0 : i = 0
    · subst h0; rfl
    · rw [if_neg (by simp; omega)]
      cases multi with
      | false => simp [h0]
      | true =>
        rw [if_pos rfl, show (i : Int) - 1 = ((i - 1 : Nat) : Int) by omega, wrap_i64_of _ (by omega) (by omega), at_lt (show i - 1 < w.length by omega), Option.bind_some, Option.bind_some, getD_lt (show i - 1 < w.length by omega)]
        simp [h0]
theorem ev_l0 (n : api_Nfa) (h : WFN n) (w : List Int) (hw : Bytes w) (hl : w.length ≤ 100000) (hat multi : Bool) : ∀ (d i m : Nat) (N : Int) (W : List Int) (p : Nat → Bool), i + d = w.length → d + 9001 < m → Is ⟨N, W⟩ (KN n) p →
    nfa_Events_1_v1_l0 (mayN n) w hat multi m ((i : Int), N, W) = some (evN (mayN n) (KN n) w hat multi d i p) := by
  intro d
  induction d with
  | zero =>
    intro i m N W p hi hm hs
    obtain ⟨m, rfl⟩ : ∃ n, m = n + 1 := ⟨m - 1, by omega⟩
    rw [nfa_Events_1_v1_l0, if_neg (by simp; omega)]; rfl
  | succ d ih =>
    intro i m N W p hi hm hs
    obtain ⟨m, rfl⟩ : ∃ n, m = n + 1 := ⟨m - 1, by omega⟩
    have hlt : i < w.length := by omega
    have hb := hw w[i] (List.getElem_mem hlt)
    obtain ⟨c, h1, h2⟩ := step_n (mayN n) (wfn_may n h) (KN n) (ok_may n h) ⟨N, W⟩ p hs (bg w i hat multi) w[i] hb.1 hb.2 m (by omega)
    have key : ((if (!hat) = true then (nfa_step m (mayN n) ((api_Bits.mk N W)) true w[i]).bind fun t22_2 => some (t22_2.N, t22_2.Words) else (if ((i : Int) == 0) = true then (nfa_step m (mayN n) ((api_Bits.mk N W)) true w[i]).bind fun t22_2 => some (t22_2.N, t22_2.Words) else (if multi = true then (at_ w ((IntKind.i64.wrap ((i : Int) - 1)))).bind fun t22_2 => (nfa_step m (mayN n) ((api_Bits.mk N W)) ((t22_2 == 10)) w[i]).bind fun t22_4 => some (t22_4.N, t22_4.Words) else (nfa_step m (mayN n) ((api_Bits.mk N W)) false w[i]).bind fun t22_2 => some (t22_2.N, t22_2.Words)))) : Option (Int × List Int)) = some (c.N, c.Words) := by
      unfold bg at h1
      cases hat with
      | false => rw [if_pos (show (!false) = true from rfl)]; rw [show (!false || (decide (i = 0) || (multi && w.getD (i - 1) 0 == 10))) = true from rfl] at h1; rw [h1]; rfl
      | true =>
        rw [if_neg (by simp)]
        by_cases h0 : i = 0
        · subst h0
          rw [show (!true || (decide ((0 : Nat) = 0) || (multi && w.getD (0 - 1) 0 == 10))) = true from by simp] at h1
          rw [if_pos (show (((0 : Nat) : Int) == 0) = true from rfl), h1]; rfl
        · rw [if_neg (by simp; omega)]
          cases multi with
          | false =>
            rw [show (!true || (decide (i = 0) || (false && w.getD (i - 1) 0 == 10))) = false from by simp [h0]] at h1
            rw [if_neg (by simp), h1]; rfl
          | true =>
            rw [show (!true || (decide (i = 0) || (true && w.getD (i - 1) 0 == 10))) = (w.getD (i - 1) 0 == 10) from by simp [h0]] at h1
            rw [if_pos rfl, show (i : Int) - 1 = ((i - 1 : Nat) : Int) by omega, wrap_i64_of _ (by omega) (by omega), at_lt (show i - 1 < w.length by omega), Option.bind_some, ← getD_lt (show i - 1 < w.length by omega), h1]; rfl
    rw [nfa_Events_1_v1_l0, if_pos (by simpa using hlt), at_lt hlt, Option.bind_some, key, Option.bind_some]
    simp only
    rw [show (⟨c.N, c.Words⟩ : api_Bits) = c from rfl, meet_n _ _ (ok_may n h) c _ h2 m (by omega), Option.bind_some, wrapN i (by omega), ih (i + 1) m c.N c.Words _ (by omega) (by omega) h2, evN, getD_lt hlt]
    by_cases ha : acN (mayN n) (KN n) (nxN (mayN n) (KN n) p (bg w i hat multi) w[i]) = true
    · rw [if_pos ha, if_pos ha]; rfl
    · rw [if_neg ha, if_neg ha]
theorem rev_l0 (n : api_Nfa) (h : WFN n) (w : List Int) (hw : Bytes w) (hl : w.length ≤ 100000) (hat multi : Bool) (J : List Int → Option (List Int)) : ∀ (d i m : Nat) (a : List Int) (N : Int) (W : List Int) (p : Nat → Bool), i + d = w.length → d + 18001 < m → a.length ≤ i → Is ⟨N, W⟩ (KN n) p →
    riddleref11_Events_l0 w hat multi (mayN n) J m (a, (i : Int), N, W) = J (a ++ evN (mayN n) (KN n) w hat multi d i p) := by
  intro d
  induction d with
  | zero =>
    intro i m a N W p hi hm ha hs
    obtain ⟨m, rfl⟩ : ∃ n, m = n + 1 := ⟨m - 1, by omega⟩
    rw [riddleref11_Events_l0, if_neg (by simp; omega)]; simp [evN]
  | succ d ih =>
    intro i m a N W p hi hm ha hs
    obtain ⟨m, rfl⟩ : ∃ n, m = n + 1 := ⟨m - 1, by omega⟩
    have hlt : i < w.length := by omega
    have hb := hw w[i] (List.getElem_mem hlt)
    obtain ⟨c, h1, h2⟩ := rnext_n (mayN n) (wfn_may n h) ⟨N, W⟩ p (by rw [KN_may]; exact hs) (bg w i hat multi) w[i] hb.1 hb.2 m (by omega)
    have hac := racc_n (mayN n) (wfn_may n h) c _ h2 m (by omega)
    rw [KN_may, mayN_may] at h2 hac
    rw [riddleref11_Events_l0, if_pos (by simpa using hlt), begins_ev w hl i hlt, Option.bind_some, at_lt hlt, Option.bind_some, h1, Option.bind_some, hac, Option.bind_some, wrapN i (by omega), evN, getD_lt hlt]
    by_cases hx : acN (mayN n) (KN n) (nxN (mayN n) (KN n) p (bg w i hat multi) w[i]) = true
    · rw [if_pos hx, if_pos (okApp8 (by simp; omega)), ih (i + 1) m _ c.N c.Words _ (by omega) (by omega) (by simp; omega) h2, if_pos hx]; simp
    · rw [if_neg hx, ih (i + 1) m _ c.N c.Words _ (by omega) (by omega) (by omega) h2, if_neg hx]
theorem events_n (n : api_Nfa) (h : WFN n) (w : List Int) (hw : Bytes w) (hl : w.length ≤ 60) (hat multi : Bool) (k : Nat) (hk : 18100 < k) : ∃ l : List Int, l.length ≤ 100 ∧ riddlelaw11_events k n w hat multi = some l ∧ riddleref11_Events k n w hat multi = some l := by
  have hle := (ok_may n h).le
  have z := zero_is (KN n) (by omega)
  have hz : Is ⟨(zeroB (KN n)).N, (zeroB (KN n)).Words⟩ (KN n) (fun _ => false) := z
  have hlen := evN_len (mayN n) (KN n) w hat multi w.length 0 (fun _ => false)
  have e1 := ev_l0 n h w hw (by omega) hat multi w.length 0 k _ _ _ (by omega) (by omega) hz
  have e2 := rev_l0 n h w hw (by omega) hat multi (fun v => some v) w.length 0 k [] _ _ _ (by omega) (by omega) (by simp) hz
  have n1 := nnone_ev (mayN n) (wfn_may n h) k (by omega)
  have n2 := rnnone_ev (mayN n) (wfn_may n h) k (by omega)
  rw [KN_may] at n1 n2
  rw [show ((0 : Nat) : Int) = 0 from rfl] at e1 e2
  refine ⟨evN (mayN n) (KN n) w hat multi w.length 0 (fun _ => false), by omega, ?_, ?_⟩
  · unfold riddlelaw11_events nfa_Events nfa_Events_1_v1
    rw [nmay_ev n h k (by omega), Option.bind_some, Option.bind_some]
    simp only [n1, Option.bind_some, e1]
    rw [levents_l0 k _ _ (by simp; omega)]; rfl
  · unfold riddleref11_Events
    rw [rnmay_ev n h k (by omega), Option.bind_some, n2, Option.bind_some]
    simp only [jn]
    exact e2
theorem nfaTells_ev (c : riddlelaw11_Case) (hn : WFN c.Nfa) (hw : Bytes c.W) (k : Nat) (hk : 18100 < k) : riddlelaw11_NfaTells k c = some true := by
  have hl : (c.W.take 60).length ≤ 60 := by simp; omega
  obtain ⟨l, h1, h2, h3⟩ := ends_n c.Nfa hn _ (take_bytes hw 60) hl c.From k hk
  obtain ⟨l', h1', h2', h3'⟩ := events_n c.Nfa hn _ (take_bytes hw 60) hl c.Hat c.Multi k hk
  unfold riddlelaw11_NfaTells
  rw [live_k k (by omega), Option.bind_some, if_neg (by simp), short_ev, Option.bind_some, h2, Option.bind_some, h3, Option.bind_some, equalI_ev _ _ (by omega) k (by omega), Option.bind_some, if_pos (by simp), h2', Option.bind_some, h3', Option.bind_some, equalI_ev _ _ (by omega) k (by omega)]
  simp
end Go.Proofs.YtfejcecgnonabaaDoor
