/- YtegjbjnmedgdoaaDoorPo: a part of the proof; see the last text for what is proved. -/
import Derived.Test.YtegjbjnmedgdoaaDoorPl
set_option linter.unusedVariables false
set_option linter.unusedSimpArgs false
set_option maxRecDepth 100000
/- Chapter 12: ReverseStarts. -/
namespace Go.Proofs.YtegjbjnmedgdoaaDoor
open Go.AE

theorem dead_ev (n : api_Nfa) (h : WFN n) (s : api_Bits) (p : Nat → Bool) (hs : Is s (KN n) p) (k : Nat) (hk : 9000 < k) : nfa_Dead k n s = some (!decide ((((al p (KN n)).length : Nat) : Int) > 0)) := by
  obtain ⟨r, e1, e2⟩ := first_is hs 0 (by decide) k (by omega)
  unfold nfa_Dead
  rw [nmay_ev n h k (by omega), Option.bind_some, state_n n h s hs.wf k (by omega), stN_of hs, Option.bind_some, e1, Option.bind_some, meet_first hs.hi e2]
theorem al_empty (p : Nat → Bool) (K : Nat) : decide ((((al p K).length : Nat) : Int) > 0) = (List.range K).any p := by
  apply Bool.eq_iff_iff.2
  rw [any_range, decide_eq_true_eq]
  constructor
  · intro h
    obtain ⟨x, hx⟩ := List.exists_mem_of_length_pos (by omega : 0 < (al p K).length)
    obtain ⟨n, _, h1, h2⟩ := (al_mem _ _ _).1 hx
    exact ⟨n, h1, h2⟩
  · rintro ⟨q, h1, h2⟩
    have := List.length_pos_of_mem ((al_mem p K (q : Int)).2 ⟨q, rfl, h1, h2⟩)
    omega
theorem acN_iff (n : api_Nfa) (K : Nat) (p : Nat → Bool) : acN n K p = true ↔ ∃ q, q < K ∧ p q = true ∧ pp n.Last q = true := by
  unfold acN
  rw [al_empty, any_range]
  constructor
  · rintro ⟨q, h, h2⟩; simp only [Bool.and_eq_true] at h2; exact ⟨q, h, h2⟩
  · rintro ⟨q, h, h2⟩; exact ⟨q, h, by simpa using h2⟩

/-- What is told, from place i down. -/
def bwd (r : api_Nfa) (K : Nat) (w : List Int) (e : Nat) : Nat → (Nat → Bool) → List Int
  | 0, _ => []
  | i + 1, p => (if acN r K (nxN r K p (decide (i + 1 = e)) (w.getD i 0)) = true then [(i : Int)] else []) ++ bwd r K w e i (nxN r K p (decide (i + 1 = e)) (w.getD i 0))
theorem bwd_none (r : api_Nfa) (K : Nat) (w : List Int) (e : Nat) : ∀ (i : Nat) (p : Nat → Bool), i < e → (∀ q < K, p q = false) → bwd r K w e i p = []
  | 0, p, _, _ => rfl
  | i + 1, p, hi, hp => by
    have hb : decide (i + 1 = e) = false := by simp; omega
    have h1 : ∀ q < K, nxN r K p false (w.getD i 0) q = false := fun q hq => by
      unfold nxN canN
      have : ((List.range K).any fun x => p x && fo r x q) = false := by
        rw [List.any_eq_false]
        intro x hx
        rw [hp x (List.mem_range.1 hx)]; simp
      rw [this]; simp
    have h2 : acN r K (nxN r K p false (w.getD i 0)) = false := by
      rcases Bool.eq_false_or_eq_true (acN r K (nxN r K p false (w.getD i 0))) with h | h
      · obtain ⟨q, hq, h3, _⟩ := (acN_iff _ _ _).1 h
        rw [h1 q hq] at h3; cases h3
      · exact h
    rw [bwd, hb, h2, bwd_none r K w e i _ (by omega) h1]; rfl
theorem starts_l0 (r : api_Nfa) (hr : WFN r) (K : Nat) (hK : KN r = K) (hm : mayN r = r) (w : List Int) (hw : Bytes w) (hl : w.length ≤ 100000) (e : Nat) (he : e ≤ w.length) : ∀ (i m : Nat) (s : api_Bits) (p : Nat → Bool), i ≤ e → i + 9001 < m → Is s K p →
    reverse_Starts_1_v1_l0 (e : Int) w r m ((i : Int), s.N, s.Words) = some (bwd r K w e i p)
  | 0, m, s, p, _, hm', _ => by
    obtain ⟨m, rfl⟩ : ∃ j, m = j + 1 := ⟨m - 1, by omega⟩
    rw [reverse_Starts_1_v1_l0]
    simp; rfl
  | i + 1, m, s, p, hi, hm', hs => by
    obtain ⟨m, rfl⟩ : ∃ j, m = j + 1 := ⟨m - 1, by omega⟩
    have hlt : i < w.length := by omega
    have hb := hw _ (List.getElem_mem hlt)
    have hs' : Is s (KN r) p := by rw [hK]; exact hs
    have hg : w.getD i 0 = w[i] := by rw [List.getD_eq_getElem?_getD, List.getElem?_eq_getElem hlt]; rfl
    rw [reverse_Starts_1_v1_l0, if_neg (by simp; omega), show api_Bits.mk s.N s.Words = s from rfl, dead_ev r hr s p hs' m (by omega), hK, al_empty]
    have go : (at_ w (IntKind.i64.wrap (((i + 1 : Nat) : Int) - 1))).bind (fun t32_2 => (nfa_Next m r s (IntKind.i64.wrap (((i + 1 : Nat) : Int) - 1) == IntKind.i64.wrap ((e : Int) - 1)) t32_2).bind fun t32_4 => (nfa_Accepts m r t32_4).bind fun t33_2 => if t33_2 = true then (reverse_Starts_1_v1_l0 (e : Int) w r m (IntKind.i64.wrap (((i + 1 : Nat) : Int) - 1), t32_4.N, t32_4.Words)).map (IntKind.i64.wrap (((i + 1 : Nat) : Int) - 1) :: ·) else reverse_Starts_1_v1_l0 (e : Int) w r m (IntKind.i64.wrap (((i + 1 : Nat) : Int) - 1), t32_4.N, t32_4.Words)) = some (bwd r K w e (i + 1) p) := by
      have e1 : IntKind.i64.wrap (((i + 1 : Nat) : Int) - 1) = (i : Int) := by rw [wrap_i64_of _ (by omega) (by omega)]; omega
      have e2 : ((i : Int) == IntKind.i64.wrap ((e : Int) - 1)) = decide (i + 1 = e) := by
        rw [wrap_i64_of _ (by omega) (by omega)]
        by_cases h : i + 1 = e
        · simp [h]; omega
        · simp [h]; omega
      obtain ⟨c, c1, c2⟩ := next_n r hr s p hs' (decide (i + 1 = e)) w[i] hb.1 hb.2 m (by omega)
      rw [hm, hK] at c2
      have c2' : Is c (KN r) (nxN r K p (decide (i + 1 = e)) w[i]) := by rw [hK]; exact c2
      rw [e1, e2, at_lt hlt, Option.bind_some, c1, Option.bind_some, acc_n r hr c _ c2' m (by omega), Option.bind_some, hm, hK, bwd, hg, starts_l0 r hr K hK hm w hw hl e he i m c _ (by omega) (by omega) c2]
      split
      · rfl
      · rfl
    by_cases hlt2 : i + 1 < e
    · rw [if_pos (by simp; omega), Option.bind_some, Option.bind_some]
      by_cases hd : (List.range K).any p = true
      · rw [hd, if_neg (by simp)]; exact go
      · have hd' : (List.range K).any p = false := by simpa using hd
        rw [hd', if_pos (by simp), bwd_none r K w e (i + 1) p hlt2 (fun q hq => by
          rw [List.any_eq_false] at hd'
          simpa using hd' q (List.mem_range.2 hq))]
    · rw [if_neg (by simp; omega), Option.bind_some, if_neg (by simp)]; exact go

/-! ### what the automaton takes, place by place -/
def seg (w : List Int) (i e : Nat) : List Int := (w.drop i).take (e - i)
theorem seg_cons {w : List Int} {i e : Nat} (h1 : i < e) (h2 : e ≤ w.length) : seg w i e = w[i] :: seg w (i + 1) e := by
  unfold seg
  rw [List.drop_eq_getElem_cons (by omega), show e - i = (e - (i + 1)) + 1 by omega, List.take_succ_cons]
theorem seg_nil (w : List Int) (e : Nat) : seg w e e = [] := by unfold seg; simp
theorem seg_ne {w : List Int} {i e : Nat} (h1 : i < e) (h2 : e ≤ w.length) : seg w i e ≠ [] := by rw [seg_cons h1 h2]; simp
def rl (n : api_Nfa) (K : Nat) (w : List Int) (e : Nat) : Nat → List Int
  | 0 => []
  | i + 1 => (if takesB n K (seg w i e) = true then [(i : Int)] else []) ++ rl n K w e i
/-- The places that what stands between i and e, from behind, leads to. -/
def Rch (r : api_Nfa) (v : List Int) (q : Nat) : Prop := ∃ q0, pp r.First q0 = true ∧ Pth r v q0 q
theorem bwd_rl {n : api_Nfa} {K : Nat} (hn : OkN n K) (w : List Int) (e : Nat) (he : e ≤ w.length) : ∀ (i : Nat) (p : Nat → Bool), i ≤ e → (i = e → ∀ q < K, p q = false) → (i < e → ∀ q < K, (p q = true ↔ Rch (revN n) (seg w i e).reverse q)) → bwd (revN n) K w e i p = rl n K w e i
  | 0, p, _, _, _ => rfl
  | i + 1, p, hi, h0, h1 => by
    have hr := rev_ok hn
    have hlt : i < w.length := by omega
    have hg : w.getD i 0 = w[i] := by rw [List.getD_eq_getElem?_getD, List.getElem?_eq_getElem hlt]; rfl
    have hsc := seg_cons (w := w) (by omega : i < e) he
    have key : ∀ q < K, (nxN (revN n) K p (decide (i + 1 = e)) w[i] q = true ↔ Rch (revN n) (seg w i e).reverse q) := by
      intro q hq
      rw [hsc, List.reverse_cons]
      unfold nxN canN
      simp only [Bool.and_eq_true, Bool.or_eq_true]
      rw [any_range]
      by_cases he2 : i + 1 = e
      · have hs0 : seg w (i + 1) e = [] := by rw [he2]; exact seg_nil w e
        rw [hs0]
        simp only [he2, decide_true, true_and, List.reverse_nil, List.nil_append]
        constructor
        · rintro ⟨h | ⟨x, hx, h⟩, h2⟩
          · exact ⟨q, h, rfl, h2⟩
          · rw [h0 he2 x hx] at h; simp at h
        · rintro ⟨q0, h, h2⟩
          obtain ⟨h3, h4⟩ : q0 = q ∧ cl (revN n) w[i] q = true := by
            obtain ⟨h5, h6⟩ := h2
            subst h5; exact ⟨rfl, h6⟩
          subst h3
          exact ⟨.inl h, h4⟩
      · have hne := seg_ne (w := w) (by omega : i + 1 < e) he
        simp only [he2, decide_false, Bool.false_eq_true, false_and, false_or]
        constructor
        · rintro ⟨⟨x, hx, h⟩, h2⟩
          simp only [Bool.and_eq_true] at h
          obtain ⟨q0, h3, h4⟩ := (h1 (by omega) x hx).1 h.1
          exact ⟨q0, h3, (Pth.snoc (by simpa using hne)).2 ⟨x, h4, h.2, h2⟩⟩
        · rintro ⟨q0, h3, h4⟩
          obtain ⟨x, h5, h6, h7⟩ := (Pth.snoc (by simpa using hne)).1 h4
          have hx := (h5.lt hr).2
          have h8 := (h1 (by omega) x hx).2 ⟨q0, h3, h5⟩
          exact ⟨⟨x, hx, by rw [h8, h6]; rfl⟩, h7⟩
    have hac : acN (revN n) K (nxN (revN n) K p (decide (i + 1 = e)) w[i]) = takesB n K (seg w i e) := by
      rw [← takes_rev hn]
      apply Bool.eq_iff_iff.2
      rw [acN_iff, takes_iff hr (by simpa using seg_ne (w := w) (by omega : i < e) he)]
      constructor
      · rintro ⟨q, hq, h2, h3⟩
        obtain ⟨q0, h4, h5⟩ := (key q hq).1 h2
        exact ⟨q0, q, h4, h5, h3⟩
      · rintro ⟨q0, q, h4, h5, h3⟩
        have hq := (h5.lt hr).2
        exact ⟨q, hq, (key q hq).2 ⟨q0, h4, h5⟩, h3⟩
    rw [bwd, hg, hac, rl, bwd_rl hn w e he i _ (by omega) (fun h => by omega) (fun _ => key)]

/-- Where it begins. -/
def stL (n : api_Nfa) (K : Nat) (w : List Int) (e : Int) : List Int := if 0 ≤ e ∧ e ≤ w.length then (if n.Null = true then [e] else []) ++ rl n K w e.toNat e.toNat else []
theorem rl_len (n : api_Nfa) (K : Nat) (w : List Int) (e : Nat) : ∀ i, (rl n K w e i).length ≤ i
  | 0 => Nat.le_refl _
  | i + 1 => by
    rw [rl, List.length_append]
    have := rl_len n K w e i
    split <;> simp <;> omega
theorem rl_mem (n : api_Nfa) (K : Nat) (w : List Int) (e : Nat) : ∀ i x, x ∈ rl n K w e i → ∃ j : Nat, x = j ∧ j < i
  | 0, x, h => by simp [rl] at h
  | i + 1, x, h => by
    rw [rl, List.mem_append] at h
    rcases h with h | h
    · split at h
      · simp at h; exact ⟨i, h, by omega⟩
      · cases h
    · obtain ⟨j, h1, h2⟩ := rl_mem n K w e i x h
      exact ⟨j, h1, by omega⟩
theorem stL_mem {n : api_Nfa} {K : Nat} {w : List Int} {e x : Int} (h : x ∈ stL n K w e) : 0 ≤ e ∧ e ≤ w.length ∧ ∃ j : Nat, x = j ∧ (j : Int) ≤ e := by
  unfold stL at h
  split at h
  · rename_i he
    refine ⟨he.1, he.2, ?_⟩
    rcases List.mem_append.1 h with h | h
    · split at h
      · simp at h; exact ⟨e.toNat, by omega, by omega⟩
      · cases h
    · obtain ⟨j, h1, h2⟩ := rl_mem _ _ _ _ _ _ h
      exact ⟨j, h1, by omega⟩
  · cases h
theorem stL_len (n : api_Nfa) (K : Nat) (w : List Int) (e : Int) : (stL n K w e).length ≤ w.length + 1 := by
  unfold stL
  split
  · rw [List.length_append]
    have := rl_len n K w e.toNat e.toNat
    split <;> simp <;> omega
  · simp
theorem starts_ev (n : api_Nfa) (h : WFN n) (w : List Int) (hw : Bytes w) (hl : w.length ≤ 24) (e : Int) (k : Nat) (hk : 10000 < k) : ∃ x, reverse_Starts k n w e = some x ∧ x = (e, w, revN (mayN n)) ∧ reverse_Starts_1_v1 k e w (revN (mayN n)) = some (stL (mayN n) (KN n) w e) := by
  have hn := ok_may n h
  have hr := rev_ok hn
  have hle := hn.le
  refine ⟨_, ?_, rfl, ?_⟩
  · unfold reverse_Starts
    rw [reverse_ev n h k hk, Option.bind_some]
    have hc : slices_Clone_byte_byte w = some w := by unfold slices_Clone_byte_byte; rw [if_pos (by unfold okApp maxLen; simp; omega)]; rfl
    rw [hc]; rfl
  · have hwf := rev_wfn hn
    have hm : mayN (revN (mayN n)) = revN (mayN n) := mayN_of (rev_okN hn)
    have hK : KN (revN (mayN n)) = KN n := by unfold KN; rw [hm]; rfl
    unfold reverse_Starts_1_v1 stL
    by_cases h1 : e < 0
    · rw [if_pos (by simpa using h1), if_neg (by omega)]
    · rw [if_neg (by simpa using h1)]
      by_cases h2 : e > (w.length : Int)
      · rw [if_pos (by simpa using h2), if_neg (by omega)]
      · have hc : 0 ≤ e ∧ e ≤ (w.length : Int) := by omega
        rw [if_neg (by simpa using h2), if_pos hc]
        clear hc
        obtain ⟨j, rfl⟩ : ∃ j : Nat, e = j := ⟨e.toNat, by omega⟩
        have z := mkS_is (KN n) (by omega) (fun _ => false)
        have hz : nfa_None k (revN (mayN n)) = some (mkS (KN n) fun _ => false) := by rw [nnone_ev _ hwf k (by omega), hK, mkS_zero (by omega)]
        have := starts_l0 _ hwf (KN n) hK hm w hw (by omega) j (by omega) j k _ _ (Nat.le_refl _) (by omega) z
        rw [bwd_rl hn w j (by omega) j _ (Nat.le_refl _) (fun _ q _ => by simp) (fun hh => by omega)] at this
        rw [hz, Option.bind_some, this, Int.toNat_natCast]
        rw [show (revN (mayN n)).Null = (mayN n).Null from rfl]
        split
        · rfl
        · rfl
theorem rstarts_l0 (n : api_Nfa) (K : Nat) (hn : OkN n K) (w : List Int) (hw : Bytes w) (hl : w.length ≤ 24) (e : Nat) (he : e ≤ w.length) (J : List Int → Option (List Int)) : ∀ (i m : Nat) (acc : List Int), i ≤ e + 1 → i + 19101 < m → acc.length + i ≤ 1000 →
    riddleref12_Starts_l0 w (e : Int) n J m (acc, (i : Int) - 1) = J (acc ++ rl n K w e i)
  | 0, m, acc, _, hm, _ => by
    obtain ⟨m, rfl⟩ : ∃ j, m = j + 1 := ⟨m - 1, by omega⟩
    rw [riddleref12_Starts_l0, if_neg (by simp)]; simp [rl]
  | i + 1, m, acc, hi, hm, ha => by
    obtain ⟨m, rfl⟩ : ∃ j, m = j + 1 := ⟨m - 1, by omega⟩
    have e1 : ((i + 1 : Nat) : Int) - 1 = (i : Int) := by omega
    have hs : sub_ w (i : Int) (e : Int) = seg w i e := by
      unfold sub_ seg
      rw [Int.toNat_natCast]; congr 1; omega
    have hsw : Bytes (seg w i e) := fun x hx => hw x (List.mem_of_mem_drop (List.mem_of_mem_take hx))
    have hsl : (seg w i e).length ≤ 24 := by unfold seg; rw [List.length_take, List.length_drop]; omega
    rw [riddleref12_Starts_l0, e1, if_pos (by simp), if_pos (by omega), hs, takes_ev n K hn _ hsw (by omega) m (by omega), Option.bind_some, rl]
    by_cases ht : takesB n K (seg w i e) = true
    · rw [if_pos ht, if_pos ht, if_pos (okApp8 (by simp; omega)), wrap_i64_of _ (by omega) (by omega), rstarts_l0 n K hn w hw hl e he J i m _ (by omega) (by omega) (by simp; omega), List.append_assoc]
    · rw [if_neg ht, if_neg ht, wrap_i64_of _ (by omega) (by omega), rstarts_l0 n K hn w hw hl e he J i m _ (by omega) (by omega) (by omega)]; rfl
theorem rstarts_ev (n : api_Nfa) (h : WFN n) (w : List Int) (hw : Bytes w) (hl : w.length ≤ 24) (e : Int) (k : Nat) (hk : 20000 < k) : riddleref12_Starts k n w e = some (stL (mayN n) (KN n) w e) := by
  have hn := ok_may n h
  unfold riddleref12_Starts stL
  rw [r12may_ev n h k (by omega), Option.bind_some]
  by_cases h1 : 0 ≤ e ∧ e ≤ w.length
  · rw [if_neg (by simp; omega), if_pos h1]
    obtain ⟨j, rfl⟩ : ∃ j : Nat, e = j := ⟨e.toNat, by omega⟩
    simp only [jn]
    have := rstarts_l0 (mayN n) (KN n) hn w hw hl j (by omega) (fun v8 => some v8) (j + 1) k [] (by omega) (by omega) (by simp; omega)
    rw [show ((j + 1 : Nat) : Int) - 1 = (j : Int) by omega] at this
    rw [this, Int.toNat_natCast, rl, seg_nil]
    have e2 : takesB (mayN n) (KN n) [] = (mayN n).Null := rfl
    rw [e2]; rfl
  · rw [if_pos (by simp; omega), if_neg h1]

/-! ### told, held together, the least -/
theorem told_l0 (k : Nat) (m : Int) : ∀ (r acc : List Int), acc.length + r.length ≤ 1000 → (acc.length : Int) ≤ m ∨ r = [] → 0 ≤ m → riddlelaw12_told_v1_l0 k m (fun v => some v) r acc = some (acc ++ r.take (m - acc.length).toNat)
  | [], acc, _, _, _ => by rw [riddlelaw12_told_v1_l0]; simp
  | x :: r, acc, hl, hm, h0 => by
    simp only [List.length_cons] at hl
    have hm' : (acc.length : Int) ≤ m := hm.resolve_right (by simp)
    rw [riddlelaw12_told_v1_l0]
    by_cases h : (acc.length : Int) ≥ m
    · rw [if_pos (by simpa using h), show (m - (acc.length : Int)).toNat = 0 by omega]; simp
    · rw [if_neg (by simpa using h), if_pos (okApp8 (by simp; omega)), told_l0 k m r _ (by simp; omega) (.inl (by simp; omega)) h0]
      obtain ⟨q, hq⟩ : ∃ q, (m - (acc.length : Int)).toNat = q + 1 := ⟨(m - (acc.length : Int)).toNat - 1, by omega⟩
      rw [hq, List.take_succ_cons, List.append_assoc]
      have : (m - ((acc ++ [x]).length : Int)).toNat = q := by simp only [List.length_append, List.length_cons, List.length_nil]; omega
      rw [this]; rfl
def cnd (w : List Int) (e : Int) (hat multi : Bool) (x : Int) : Bool := decide (x < e) && (!hat || (x == 0 || (multi && w.getD (x - 1).toNat 0 == 10)))
def lst2 (w : List Int) (e : Int) (hat multi : Bool) (l : List Int) (a : Int × Bool) : Int × Bool := l.foldl (fun a x => if cnd w e hat multi x = true then (x, true) else a) a
theorem cnd_ev (w : List Int) (e : Int) (hat multi : Bool) (he : e ≤ w.length) (hl : w.length ≤ 24) {x : Int} (hx : ∃ j : Nat, x = j ∧ (j : Int) ≤ e) :
    ((if decide (x < e) = true then (if (!hat) = true then some true else (if (x == 0) = true then some true else (if multi = true then (at_ w (IntKind.i64.wrap (x - 1))).bind fun t17_2 => some (t17_2 == 10) else some false))) else some false) : Option Bool) = some (cnd w e hat multi x) := by
  obtain ⟨j, rfl, hj⟩ := hx
  unfold cnd
  by_cases h1 : (j : Int) < e
  · rw [if_pos (by simpa using h1)]
    simp only [h1, decide_true, Bool.true_and]
    cases hat with
    | false => rfl
    | true =>
      rw [if_neg (by simp)]
      by_cases h2 : j = 0
      · subst h2; rfl
      · rw [if_neg (by simpa using h2)]
        have h3 : ((j : Int) == 0) = false := by simpa using h2
        rw [h3]
        cases multi with
        | false => rfl
        | true =>
          have e1 : (j : Int) - 1 = ((j - 1 : Nat) : Int) := by omega
          rw [if_pos rfl, wrap_i64_of _ (by omega) (by omega), e1, at_lt (by omega), Option.bind_some, Int.toNat_natCast, List.getD_eq_getElem?_getD, List.getElem?_eq_getElem (by omega)]
          rfl
  · rw [if_neg (by simpa using h1)]; simp [h1]
theorem least_l0 (k : Nat) (w : List Int) (e : Int) (hat multi : Bool) (he : e ≤ w.length) (hl : w.length ≤ 24) : ∀ (l : List Int) (a : Int × Bool), (∀ x ∈ l, ∃ j : Nat, x = j ∧ (j : Int) ≤ e) → reverse_Least_l0 k w e hat multi l a = some (lst2 w e hat multi l a)
  | [], (a, b), _ => by rw [reverse_Least_l0]; rfl
  | x :: l, (a, b), h => by
    have hv := cnd_ev w e hat multi he hl (h x List.mem_cons_self)
    have h' : ∀ y ∈ l, ∃ j : Nat, y = j ∧ (j : Int) ≤ e := fun y hy => h y (List.mem_cons_of_mem _ hy)
    rw [reverse_Least_l0, hv, Option.bind_some]
    unfold lst2
    rw [List.foldl_cons]
    split
    · exact least_l0 k w e hat multi he hl l _ h'
    · exact least_l0 k w e hat multi he hl l _ h'
theorem rleast_l0 (w : List Int) (e : Int) (hat multi : Bool) (he : e ≤ w.length) (hl : w.length ≤ 24) (l : List Int) (hll : l.length ≤ 1000) (h : ∀ x ∈ l, ∃ j : Nat, x = j ∧ (j : Int) ≤ e) : ∀ (i m : Nat), i ≤ l.length → i < m →
    riddleref12_Least_l0 w e hat multi l (fun _ => some (0, false)) m ((i : Int) - 1) = some (lst2 w e hat multi (l.take i) (0, false))
  | 0, m, _, hm => by
    obtain ⟨m, rfl⟩ : ∃ j, m = j + 1 := ⟨m - 1, by omega⟩
    rw [riddleref12_Least_l0, if_neg (by simp)]; rfl
  | i + 1, m, hi, hm => by
    obtain ⟨m, rfl⟩ : ∃ j, m = j + 1 := ⟨m - 1, by omega⟩
    have e1 : ((i + 1 : Nat) : Int) - 1 = (i : Int) := by omega
    have hlt : i < l.length := by omega
    have hv := cnd_ev w e hat multi he hl (h _ (List.getElem_mem hlt))
    rw [riddleref12_Least_l0, e1, if_pos (by simp), at_lt hlt, Option.bind_some, hv, Option.bind_some, ← List.take_append_getElem hlt]
    unfold lst2
    rw [List.foldl_append, List.foldl_cons, List.foldl_nil]
    split
    · rfl
    · rw [wrap_i64_of _ (by omega) (by omega), rleast_l0 w e hat multi he hl l hll h i m (by omega) (by omega)]; rfl
theorem least_ev (n : api_Nfa) (h : WFN n) (w : List Int) (hw : Bytes w) (hl : w.length ≤ 24) (e : Int) (hat multi : Bool) (k : Nat) (hk : 20000 < k) : ∃ r, reverse_Least k n w e hat multi = some r ∧ riddleref12_Least k n w e hat multi = some r := by
  obtain ⟨x, h1, rfl, h2⟩ := starts_ev n h w hw hl e k (by omega)
  have hlen := stL_len (mayN n) (KN n) w e
  have hmem : ∀ x ∈ stL (mayN n) (KN n) w e, ∃ j : Nat, x = j ∧ (j : Int) ≤ e := fun x hx => (stL_mem hx).2.2
  have he : e ≤ w.length ∨ stL (mayN n) (KN n) w e = [] := by
    by_cases h : 0 ≤ e ∧ e ≤ w.length
    · exact .inl h.2
    · right; unfold stL; rw [if_neg h]
  refine ⟨lst2 w e hat multi (stL (mayN n) (KN n) w e) (0, false), ?_, ?_⟩
  · unfold reverse_Least
    rw [h1, Option.bind_some, h2, Option.bind_some]
    rcases he with he | he
    · exact least_l0 k w e hat multi he hl _ _ hmem
    · rw [he]; rfl
  · unfold riddleref12_Least
    rw [rstarts_ev n h w hw hl e k hk, Option.bind_some]
    simp only [jn]
    rw [wrap_i64_of _ (by omega) (by omega)]
    rcases he with he | he
    · have := rleast_l0 w e hat multi he hl (stL (mayN n) (KN n) w e) (by omega) hmem (stL (mayN n) (KN n) w e).length k (Nat.le_refl _) (by omega)
      rw [List.take_length] at this
      exact this
    · rw [he]
      obtain ⟨m, rfl⟩ : ∃ j, k = j + 1 := ⟨k - 1, by omega⟩
      rw [riddleref12_Least_l0, if_neg (by simp)]; rfl
theorem reverseStarts_ev (n : api_Nfa) (hn : WFN n) (w : List Int) (hw : Bytes w) (e most : Int) (hm : 0 ≤ most ∧ most < 256) (hat multi : Bool) (k : Nat) (hk : 20000 < k) : riddlelaw12_ReverseStarts k n w e most hat multi = some true := by
  unfold riddlelaw12_ReverseStarts riddlelaw12_few
  rw [Option.bind_some]
  by_cases hf : ((decide ((n.Classes.length : Int) ≤ 40)) && ((decide ((n.Follow.length : Int) ≤ 60)) && (decide ((w.length : Int) ≤ 24)))) = true
  · rw [hf, if_neg (by simp)]
    have hl : w.length ≤ 24 := by simp at hf; omega
    obtain ⟨r, r1, r2⟩ := least_ev n hn w hw hl e hat multi k hk
    obtain ⟨x, s1, rfl, s2⟩ := starts_ev n hn w hw hl e k (by omega)
    have hlen := stL_len (mayN n) (KN n) w e
    have ht : ∀ m : Int, 0 ≤ m → riddlelaw12_told_v1 k (e, w, revN (mayN n)) m = some ((stL (mayN n) (KN n) w e).take m.toNat) := fun m h0 => by
      unfold riddlelaw12_told_v1
      simp only [jn]
      rw [s2, Option.bind_some, told_l0 k m _ [] (by simp; omega) (.inl (by simpa using h0)) h0]
      simp
    have h99 : (stL (mayN n) (KN n) w e).take (99 : Int).toNat = stL (mayN n) (KN n) w e := List.take_of_length_le (by simp; omega)
    have hmin : minI ((stL (mayN n) (KN n) w e).length : Int) most = ((min (stL (mayN n) (KN n) w e).length most.toNat : Nat) : Int) := by unfold minI; split <;> omega
    have hsub : sub_ (stL (mayN n) (KN n) w e) 0 ((min (stL (mayN n) (KN n) w e).length most.toNat : Nat) : Int) = (stL (mayN n) (KN n) w e).take most.toNat := by
      unfold sub_
      simp only [Int.toNat_zero, List.drop_zero, Int.sub_zero, Int.toNat_natCast]
      by_cases hc : (stL (mayN n) (KN n) w e).length ≤ most.toNat
      · rw [Nat.min_eq_left hc, List.take_of_length_le (Nat.le_refl _), List.take_of_length_le hc]
      · rw [Nat.min_eq_right (by omega)]
    rw [rstarts_ev n hn w hw hl e k hk, Option.bind_some, r1, Option.bind_some, r2, Option.bind_some, begun_k k (by omega), Option.bind_some, if_pos rfl, s1, Option.bind_some, ht 99 (by omega), h99, Option.bind_some, equalI_ev _ _ (by omega) k (by omega), Option.bind_some, if_pos (by simp), Option.bind_some,
      wrap_i64_of most (by omega) (by omega), ht most hm.1, Option.bind_some, hmin, if_pos (by omega), hsub, equalI_ev _ _ (by rw [List.length_take]; omega) k (by rw [List.length_take]; omega), Option.bind_some, if_pos (by simp)]
    simp
  · have hf' : ((decide ((n.Classes.length : Int) ≤ 40)) && ((decide ((n.Follow.length : Int) ≤ 60)) && (decide ((w.length : Int) ≤ 24)))) = false := by simpa using hf
    rw [hf', if_pos (by rfl)]
end Go.Proofs.YtegjbjnmedgdoaaDoor
