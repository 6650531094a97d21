/- YtpifpjeeijhhdaaDoorPj: a part of the proof; see the last text for what is proved. -/
import Derived.Test.YtpifpjeeijhhdaaDoorPh
set_option maxRecDepth 100000
set_option linter.unusedVariables false
set_option linter.unusedSimpArgs false
/- Chapter 23, part j: states of places, and which may be. -/
namespace Go.Proofs.YtpifpjeeijhhdaaDoor
open Go.AE

/-! ### lists of places -/
def mp (K : Nat) (f : Nat → Int) : List Int := (List.range K).map f
theorem mp_length (K : Nat) (f : Nat → Int) : (mp K f).length = K := by simp [mp]
theorem mp_get (K : Nat) (f : Nat → Int) {i : Nat} (h : i < (mp K f).length) : (mp K f)[i] = f i := by simp [mp]
theorem mp_at (K : Nat) (f : Nat → Int) {i : Nat} (h : i < K) : at_ (mp K f) (i : Int) = some (f i) := by
  rw [at_lt (show i < (mp K f).length by rw [mp_length]; exact h), mp_get]
theorem mp_congr {K : Nat} {f g : Nat → Int} (h : ∀ i < K, f i = g i) : mp K f = mp K g := by
  unfold mp; exact List.map_congr_left fun i hi => h i (List.mem_range.1 hi)
theorem mp_set (K : Nat) (f : Nat → Int) (i : Nat) (v : Int) : (mp K f).set ((i : Nat) : Int).toNat v = mp K (fun j => if j = i then v else f j) := by
  refine List.ext_getElem (by simp [mp]) fun j h1 h2 => ?_
  rw [List.getElem_set]
  simp only [mp, List.getElem_map, List.getElem_range, Int.toNat_natCast]
  by_cases h : i = j
  · subst h; simp
  · rw [if_neg h, if_neg (fun e => h e.symm)]
theorem mp_of (s : List Int) : s = mp s.length (fun i => s.getD i 0) := by
  refine List.ext_getElem (by simp [mp]) fun j h1 h2 => ?_
  simp [mp, List.getD_eq_getElem?_getD, List.getElem?_eq_getElem h1]
theorem mp_rep (K : Nat) (v : Int) : List.replicate K v = mp K (fun _ => v) := by
  refine List.ext_getElem (by simp [mp]) fun j h1 h2 => ?_
  simp [mp]
theorem mp_inj {K : Nat} {f g : Nat → Int} (h : mp K f = mp K g) : ∀ i < K, f i = g i := by
  intro i hi
  have h1 : i < (mp K f).length := by rw [mp_length]; exact hi
  have h2 : i < (mp K g).length := by rw [mp_length]; exact hi
  rw [← mp_get K f h1, ← mp_get K g h2]
  simp only [h]

/-! ### has, which automata may be -/
theorem bhas_ev (b : api_Bits) (hU : UL b.Words) (hl : b.Words.length ≤ 9223372036854775807) (x : Int) : bits_Has b x = some (hasB b x) := by
  unfold bits_Has hasB pp mayB
  rw [check_ev b hU hl, Option.bind_some]
  by_cases h : okB b = true
  · have hi := is_of_ok hU h
    rw [if_pos h, if_pos (by simp), if_pos h]
    by_cases c0 : 0 ≤ x
    · obtain ⟨n, rfl⟩ := Int.eq_ofNat_of_zero_le c0
      rw [if_pos (by simp)]
      by_cases c1 : (n : Int) < b.N
      · have h1 := hi.n; have h2 := hi.le; have h3 := hi.len
        rw [if_pos (by simpa using c1), tdiv_nat _ (by omega), at_wd hU (by omega), Option.bind_some, tmod_nat, if_pos (by omega), min64 _ (by omega), bitcode (wd_lt hU _)]
        simp [tb]
      · rw [if_neg (by simpa using c1)]
        have := hi.hi n (by omega)
        simp [this]
    · rw [if_neg (by simpa using c0)]
      simp [c0]
  · rw [if_neg h, if_neg (by simp), if_neg h]
    simp [tb_out]
theorem smay_ev (n : api_Nfa) (h : WFN n) (k : Nat) (hk : 600 < k) : starts_may k n = some (mayN n) := by
  unfold starts_may mayN
  rw [gcheck_ev n h k hk, Option.bind_some]
  by_cases ho : okN n = true
  · rw [if_pos ho, if_pos ho, if_neg (by simp)]
  · have e : glushkov_none k 0 = some ⟨0, []⟩ := by
      unfold glushkov_none
      have := newB_nil 0 (by decide)
      rw [show ((0 : Nat) : Int) = 0 from rfl] at this
      rw [new_ev _ _ (by simp) k (by simp; omega), Option.bind_some, this]; rfl
    unfold glushkov_Empty
    rw [if_neg ho, if_neg ho, if_pos (by simp), e]; rfl
theorem rsmay_ev (n : api_Nfa) (h : WFN n) (k : Nat) (hk : 10000 < k) : riddleref23_may k n = some (mayN n) := by
  unfold riddleref23_may mayN
  rw [rcheckn_ev n h k hk, Option.bind_some]
  by_cases ho : okN n = true
  · rw [if_pos ho, if_pos ho, if_neg (by simp)]
  · rw [if_neg ho, if_neg ho, if_pos (by simp)]; rfl

/-! ### no places -/
theorem mul_t : ((List.range 513).all fun K => decide (bits_Mul 1 (K : Int) = some (0, (K : Int)))) = true := by kernel_rfl
theorem mul_ev (K : Nat) (h : K ≤ 512) : bits_Mul 1 (K : Int) = some (0, (K : Int)) := by
  have := List.all_eq_true.1 mul_t K (List.mem_range.2 (by omega))
  exact of_decide_eq_true this
theorem rep_l0 (J : List Int → Option (List Int)) (K : Nat) (hK : K ≤ 512) : ∀ (d j m : Nat) (l : List Int), j + d = K → d < m → (0 < j ∨ d = 0) → l.length = K → l.take j = List.replicate j (-1) →
    slices_Repeat_int64_int64_l0 J m (l, (j : Int)) = J (List.replicate K (-1)) := by
  intro d
  induction d using Nat.strongRecOn with
  | ind d ih =>
    intro j m l hj hm h0 hl ht
    obtain ⟨m, rfl⟩ : ∃ n, m = n + 1 := ⟨m - 1, by omega⟩
    by_cases hd : d = 0
    · rw [slices_Repeat_int64_int64_l0, if_neg (by simp; omega)]
      rw [List.take_of_length_le (by omega)] at ht
      rw [ht, show j = K by omega]
    · rw [slices_Repeat_int64_int64_l0, if_pos (by simp; omega), if_pos ⟨by omega, by omega, by omega⟩, if_pos ⟨by omega, by omega, by omega⟩, if_pos (by omega)]
      have e1 : (min ((j : Int) - 0).toNat ((l.length : Int) - (j : Int)).toNat : Nat) = min j (K - j) := by omega
      rw [e1, show (j : Int) + ((min j (K - j) : Nat) : Int) = ((j + min j (K - j) : Nat) : Int) by omega, wrap_i64_of _ (by omega) (by omega)]
      refine ih (K - (j + min j (K - j))) (by omega) (j + min j (K - j)) m _ (by omega) (by omega) (by omega) (by rw [cpyAt_length _ _ _ _ ⟨by omega, by omega, by omega⟩]; exact hl) ?_
      unfold cpyAt cpy sub_
      have hl2 : (l.take ((j : Nat) : Int).toNat).length = j := by simp; omega
      have e2 : (List.drop (0 : Int).toNat l).take ((j : Int) - 0).toNat = List.replicate j (-1) := by
        rw [show (0 : Int).toNat = 0 from rfl, List.drop_zero, show ((j : Int) - 0).toNat = j by omega]; exact ht
      have hlen : ((List.drop ((j : Nat) : Int).toNat l).take ((l.length : Int) - (j : Int)).toNat).length = K - j := by simp; omega
      rw [e2, hlen, List.take_append, hl2, List.take_of_length_le (by rw [hl2]; omega), show ((j : Nat) : Int).toNat = j by omega, ht, show j + min j (K - j) - j = min j (K - j) by omega, List.append_assoc, List.take_append, List.take_replicate, List.take_replicate, List.length_replicate]
      rw [show min j (K - j) - min (K - j) j = 0 by omega, List.take_zero, List.append_nil, List.replicate_append_replicate]
      congr 1; omega
theorem repeat_ev (K : Nat) (h : K ≤ 512) (k : Nat) (hk : 600 < k) : slices_Repeat_int64_int64 k [-1] (K : Int) = some (List.replicate K (-1)) := by
  unfold slices_Repeat_int64_int64
  simp only [jn]
  rw [if_neg (by simp), show ((([-1] : List Int).length : Nat) : Int) = 1 from rfl, show IntKind.u64.wrap 1 = 1 from by decide, wrap_u64_nat K (by omega), mul_ev K h, Option.bind_some]
  simp only
  rw [if_neg (by simp; omega), wrap_i64_of (K : Int) (by omega) (by omega), if_pos (by unfold okMake; omega)]
  rcases Nat.eq_zero_or_pos K with h0 | h0
  · subst h0
    rw [show ((min ([-1] : List Int).length (List.replicate ((0 : Nat) : Int).toNat (0 : Int)).length : Nat) : Int) = ((0 : Nat) : Int) by simp, rep_l0 _ 0 (by omega) 0 0 k _ (by omega) (by omega) (by omega) (by simp [cpy_length]) (by simp)]
  · rw [show ((min ([-1] : List Int).length (List.replicate ((K : Nat) : Int).toNat (0 : Int)).length : Nat) : Int) = ((1 : Nat) : Int) by simp; omega, rep_l0 _ K h (K - 1) 1 k _ (by omega) (by omega) (by omega) (by simp [cpy_length]) ?_]
    obtain ⟨K, rfl⟩ : ∃ n, K = n + 1 := ⟨K - 1, by omega⟩
    rw [Int.toNat_natCast, List.replicate_succ]
    simp [cpy]
theorem snone_ev (n : api_Nfa) (h : WFN n) (k : Nat) (hk : 600 < k) : starts_None k n = some (mp (KN n) fun _ => -1) := by
  have := (ok_may n h).le
  unfold starts_None
  rw [smay_ev n h k hk, Option.bind_some]
  have e := repeat_ev (KN n) (by omega) k hk
  unfold KN at e ⊢
  rw [e, Option.bind_some, mp_rep]
theorem rsnone_l0 (n : api_Nfa) (K : Nat) (hn : n.Classes.length = K) (hK : K ≤ 512) (J : List Int → Option (List Int)) : ∀ (d i m : Nat), i + d = K → d < m → riddleref23_None_l0 n J m (List.replicate i (-1), (i : Int)) = J (List.replicate K (-1)) := by
  intro d
  induction d with
  | zero =>
    intro i m hi hm
    obtain ⟨m, rfl⟩ : ∃ n, m = n + 1 := ⟨m - 1, by omega⟩
    rw [riddleref23_None_l0, if_neg (by simp; omega)]
    congr 2
  | succ d ih =>
    intro i m hi hm
    obtain ⟨m, rfl⟩ : ∃ n, m = n + 1 := ⟨m - 1, by omega⟩
    rw [riddleref23_None_l0, if_pos (by simp; omega), if_pos (okApp8 (by simp; omega)), wrapN i (by omega), show List.replicate i (-1 : Int) ++ [-1] = List.replicate (i + 1) (-1) from List.replicate_succ'.symm, ih (i + 1) m (by omega) (by omega)]
theorem rsnone_ev (n : api_Nfa) (h : WFN n) (k : Nat) (hk : 10000 < k) : riddleref23_None k n = some (mp (KN n) fun _ => -1) := by
  have := (ok_may n h).le
  unfold riddleref23_None
  rw [rsmay_ev n h k hk, Option.bind_some]
  simp only [jn]
  have e := rsnone_l0 (mayN n) (KN n) rfl (by omega) (fun v => some v) (KN n) 0 k (by omega) (by omega)
  rw [show List.replicate 0 (-1 : Int) = [] from rfl] at e
  rw [show (0 : Int) = ((0 : Nat) : Int) from rfl, e, mp_rep]

/-! ### which states may be -/
def pl (x : Int) : Bool := decide (-1 ≤ x ∧ x ≤ 4611686018427387904)
def okSt (K : Nat) (s : List Int) : Bool := decide (s.length = K) && s.all pl
theorem chk1_ev (x : Int) : starts_Check_1 x = some (!pl x) := by
  unfold starts_Check_1 pl
  congr 1
  rw [Bool.eq_iff_iff]; simp only [Bool.or_eq_true, Bool.not_eq_true', decide_eq_true_eq, decide_eq_false_iff_not]; omega
theorem sidx_l0 (l : List Int) (hl : l.length ≤ 9223372036854775807) : ∀ (d i m : Nat), i + d = l.length → d < m →
    ∃ r : Int, slices_IndexFunc_int64_int64_v1_l0 l (fun _ => some (-1)) m (i : Int) = some r ∧ decide (r ≥ 0) = !((l.drop i).all pl) := by
  intro d
  induction d with
  | zero =>
    intro i m hi hm
    obtain ⟨m, rfl⟩ : ∃ n, m = n + 1 := ⟨m - 1, by omega⟩
    exact ⟨-1, by rw [slices_IndexFunc_int64_int64_v1_l0, if_neg (by simp; omega)], by rw [List.drop_eq_nil_of_le (by omega)]; rfl⟩
  | succ d ih =>
    intro i m hi hm
    obtain ⟨m, rfl⟩ : ∃ n, m = n + 1 := ⟨m - 1, by omega⟩
    have hlt : i < l.length := by omega
    rw [slices_IndexFunc_int64_int64_v1_l0, if_pos (by simpa using hlt), at_lt hlt, Option.bind_some, chk1_ev, Option.bind_some, List.drop_eq_getElem_cons hlt, List.all_cons]
    by_cases h : pl l[i] = true
    · obtain ⟨r, h1, h2⟩ := ih (i + 1) m (by omega) (by omega)
      rw [if_neg (by simp [h]), wrapN i (by omega), h, Bool.true_and]
      exact ⟨r, h1, h2⟩
    · have h' : pl l[i] = false := by simpa using h
      rw [if_pos (by simp [h']), h']
      exact ⟨_, rfl, by simp⟩
theorem scheck_ev (n : api_Nfa) (h : WFN n) (s : List Int) (k : Nat) (hk : 600 < k) : starts_Check k n s = some (if okSt (KN n) s = true then 0 else 1) := by
  have hle := (ok_may n h).le
  unfold starts_Check okSt
  rw [smay_ev n h k hk, Option.bind_some]
  by_cases h1 : s.length = KN n
  · obtain ⟨r, e1, e2⟩ := sidx_l0 s (by omega) s.length 0 k (by omega) (by omega)
    rw [List.drop_zero] at e2
    have e3 : slices_ContainsFunc_int64_int64_v1 k s () = some (!(s.all pl)) := by
      unfold slices_ContainsFunc_int64_int64_v1 slices_IndexFunc_int64_int64_v1
      simp only [jn]
      rw [show (0 : Int) = ((0 : Nat) : Int) from rfl, e1, Option.bind_some]
      exact congrArg some e2
    rw [if_neg (by unfold KN at h1; simp [h1]), e3, decide_eq_true h1, Bool.true_and, Option.bind_some, Option.bind_some]
    cases s.all pl <;> rfl
  · rw [if_pos (by unfold KN at h1; simp; omega), decide_eq_false h1]; rfl
theorem rscheck_l0 (l : List Int) (hl : l.length ≤ 9223372036854775807) : ∀ (d i m : Nat), i + d = l.length → d < m →
    riddleref23_Check_l0 l (fun _ => some 0) m (i : Int) = some (if ((l.drop i).all pl) = true then 0 else 1) := by
  intro d
  induction d with
  | zero =>
    intro i m hi hm
    obtain ⟨m, rfl⟩ : ∃ n, m = n + 1 := ⟨m - 1, by omega⟩
    rw [riddleref23_Check_l0, if_neg (by simp; omega), List.drop_eq_nil_of_le (by omega)]; rfl
  | succ d ih =>
    intro i m hi hm
    obtain ⟨m, rfl⟩ : ∃ n, m = n + 1 := ⟨m - 1, by omega⟩
    have hlt : i < l.length := by omega
    rw [riddleref23_Check_l0, if_pos (by simpa using hlt), at_lt hlt, Option.bind_some, List.drop_eq_getElem_cons hlt, List.all_cons]
    by_cases h : pl l[i] = true
    · have h2 := of_decide_eq_true h
      rw [if_neg (by simp; omega), wrapN i (by omega), h, Bool.true_and]
      exact ih (i + 1) m (by omega) (by omega)
    · have h' : pl l[i] = false := by simpa using h
      have h2 := of_decide_eq_false h'
      rw [if_pos (by simp; omega), h']; rfl
theorem rscheck_ev (n : api_Nfa) (h : WFN n) (s : List Int) (k : Nat) (hk : 10000 < k) : riddleref23_Check k n s = some (if okSt (KN n) s = true then 0 else 1) := by
  have hle := (ok_may n h).le
  unfold riddleref23_Check okSt
  rw [rsmay_ev n h k hk, Option.bind_some]
  by_cases h1 : s.length = KN n
  · have e := rscheck_l0 s (by omega) s.length 0 k (by omega) (by omega)
    rw [if_neg (by unfold KN at h1; simp [h1]), decide_eq_true h1, Bool.true_and]
    simp only [jn]
    rw [show ((0 : Nat) : Int) = 0 from rfl, List.drop_zero] at e
    exact e
  · rw [if_pos (by unfold KN at h1; simp; omega), decide_eq_false h1]; rfl
def gd (f : Nat → Int) : Prop := ∀ i, -1 ≤ f i ∧ f i ≤ 4611686018427387904
def sf (K : Nat) (s : List Int) : Nat → Int := if okSt K s = true then fun i => if i < K then s.getD i 0 else -1 else fun _ => -1
theorem sf_gd (K : Nat) (s : List Int) : gd (sf K s) := by
  intro i
  unfold sf
  split
  · rename_i h
    unfold okSt at h
    rw [Bool.and_eq_true, decide_eq_true_eq, List.all_eq_true] at h
    simp only
    split
    · rename_i hi
      have hlt : i < s.length := by omega
      rw [getD_lt hlt]
      exact of_decide_eq_true (h.2 _ (List.getElem_mem hlt))
    · omega
  · exact ⟨by show (-1 : Int) ≤ -1; omega, by show (-1 : Int) ≤ _; omega⟩
theorem sf_ok {K : Nat} {s : List Int} (h : okSt K s = true) : s = mp K (sf K s) := by
  have h' := h
  unfold okSt at h
  rw [Bool.and_eq_true, decide_eq_true_eq] at h
  have h0 := mp_of s
  rw [h.1] at h0
  rw [h0]
  refine mp_congr fun i hi => ?_
  unfold sf
  rw [← h0, if_pos h', if_pos hi]
theorem okSt_mp {K : Nat} {f : Nat → Int} (h : gd f) : okSt K (mp K f) = true := by
  unfold okSt
  rw [Bool.and_eq_true, decide_eq_true_eq, List.all_eq_true]
  refine ⟨mp_length K f, fun x hx => ?_⟩
  unfold mp at hx
  obtain ⟨i, _, rfl⟩ := List.mem_map.1 hx
  exact decide_eq_true (h i)
theorem sstate_ev (n : api_Nfa) (h : WFN n) (s : List Int) (k : Nat) (hk : 600 < k) : starts_state k (mayN n) s = some (mp (KN n) (sf (KN n) s)) := by
  unfold starts_state
  rw [scheck_ev _ (wfn_may n h) s k hk, KN_may, Option.bind_some]
  by_cases h1 : okSt (KN n) s = true
  · rw [if_pos h1, if_neg (by simp)]; exact congrArg some (sf_ok h1)
  · rw [if_neg h1, if_pos (by simp), snone_ev _ (wfn_may n h) k hk, KN_may, Option.bind_some]
    unfold sf; rw [if_neg h1]
theorem rsstate_ev (n : api_Nfa) (h : WFN n) (s : List Int) (k : Nat) (hk : 10000 < k) : riddleref23_state k (mayN n) s = some (mp (KN n) (sf (KN n) s)) := by
  unfold riddleref23_state
  rw [rscheck_ev _ (wfn_may n h) s k hk, KN_may, Option.bind_some]
  by_cases h1 : okSt (KN n) s = true
  · rw [if_pos h1, if_neg (by simp)]; exact congrArg some (sf_ok h1)
  · rw [if_neg h1, if_pos (by simp), rsnone_ev _ (wfn_may n h) k hk, KN_may, Option.bind_some]
    unfold sf; rw [if_neg h1]
theorem sf_mp {K : Nat} {f : Nat → Int} (h : gd f) : ∀ i < K, sf K (mp K f) i = f i := by
  intro i hi
  have h2 := sf_ok (okSt_mp (K := K) h)
  exact (mp_inj h2 i hi).symm
theorem same_l0 (a b : List Int) (hab : a.length = b.length) (hl : a.length < 9223372036854775807) : ∀ (d i m : Nat), i + d = a.length → d < m → (∀ j < i, a[j]? = b[j]?) →
    riddleref23_Same_l0 a b (fun _ => some true) m (i : Int) = some (decide (a = b)) := by
  intro d
  induction d with
  | zero =>
    intro i m hi hm hn
    obtain ⟨m, rfl⟩ : ∃ n, m = n + 1 := ⟨m - 1, by omega⟩
    rw [riddleref23_Same_l0, if_neg (by simp; omega)]
    have : a = b := List.ext_getElem? fun j => by
      rcases Nat.lt_or_ge j i with h | h
      · exact hn j h
      · rw [List.getElem?_eq_none (by omega), List.getElem?_eq_none (by omega)]
    simp [this]
  | succ d ih =>
    intro i m hi hm hn
    obtain ⟨m, rfl⟩ : ∃ n, m = n + 1 := ⟨m - 1, by omega⟩
    have hlt : i < a.length := by omega
    have hlt2 : i < b.length := by omega
    rw [riddleref23_Same_l0, if_pos (by simpa using hlt), at_lt hlt]
    simp only [Option.bind_some]
    rw [at_lt hlt2]
    simp only [Option.bind_some]
    by_cases he : a[i] = b[i]
    · rw [if_neg (by simpa using he), wrapN i (by omega)]
      exact ih (i + 1) m (by omega) (by omega) (fun j hj => by
        rcases Nat.lt_or_ge j i with h | h
        · exact hn j h
        · have : j = i := by omega
          subst this
          rw [List.getElem?_eq_getElem hlt, List.getElem?_eq_getElem hlt2, he])
    · rw [if_pos (by simpa using he)]
      have : a ≠ b := fun h => he (by subst h; rfl)
      simp [this]
theorem same_refl (a : List Int) (hl : a.length < 9223372036854775807) (m : Nat) (hm : a.length < m) : riddleref23_Same m a a = some true := by
  unfold riddleref23_Same
  rw [if_neg (by simp)]
  have := same_l0 a a rfl hl a.length 0 m (by omega) hm (fun j hj => by omega)
  simpa [jn] using this
end Go.Proofs.YtpifpjeeijhhdaaDoor
set_option maxRecDepth 100000
set_option linter.unusedVariables false
set_option linter.unusedSimpArgs false
/- Chapter 23, part k: a step, the least place, the positions. -/
namespace Go.Proofs.YtpifpjeeijhhdaaDoor
open Go.AE

def ls (a b : Int) : Int := if b < 0 then a else if a < 0 then b else minI a b
theorem lesser_ev (a b : Int) : starts_lesser a b = some (ls a b) := by
  unfold starts_lesser ls
  by_cases h : b < 0
  · simp [h]
  · by_cases h2 : a < 0 <;> simp [h, h2]
theorem less_ev (a b : Int) (ha : -1 ≤ a) (hb : -1 ≤ b) : riddleref23_less a b = some (ls a b) := by
  unfold riddleref23_less ls minI
  by_cases h : b < 0
  · have : b = -1 := by omega
    subst this
    by_cases h2 : a < 0
    · have : a = -1 := by omega
      subst this; rfl
    · simp [h2]
  · by_cases h2 : a < 0
    · simp [h, h2]
    · rw [if_neg h, if_neg h2]
      by_cases h3 : b < a
      · rw [if_pos (by simp [h3]; omega)]; congr 1; split <;> omega
      · rw [if_neg (by simp [h3]; omega)]; congr 1; split <;> omega
def pg (x : Int) : Prop := -1 ≤ x ∧ x ≤ 4611686018427387904
theorem ls_pg {a b : Int} (ha : pg a) (hb : pg b) : pg (ls a b) := by
  unfold ls minI
  split
  · exact ha
  · split
    · exact hb
    · split <;> assumption
theorem ls_neg (a : Int) : ls a (-1) = a := by unfold ls; rw [if_pos (by decide)]
theorem ls_nn {a b : Int} : (0 ≤ ls a b) ↔ (0 ≤ a ∨ 0 ≤ b) := by
  unfold ls minI
  split
  · omega
  · split
    · omega
    · split <;> omega

/-! ### one position's place behind a byte -/
def fd (n : api_Nfa) (f : Nat → Int) (q : Nat) : Nat → Nat → Int → Int
  | 0, _, v => v
  | d + 1, i, v => fd n f q d (i + 1) (if 0 ≤ f i ∧ fo n i q = true then ls v (f i) else v)
theorem fd_pg (n : api_Nfa) (f : Nat → Int) (hf : gd f) (q : Nat) : ∀ d i v, pg v → pg (fd n f q d i v) := by
  intro d
  induction d with
  | zero => intro i v h; exact h
  | succ d ih =>
    intro i v h
    rw [fd]
    refine ih _ _ ?_
    split
    · exact ls_pg h (hf i)
    · exact h
def ini (n : api_Nfa) (begin : Int) (q : Nat) : Int := if (0 ≤ begin ∧ begin ≤ 4611686018427387904) ∧ pp n.First q = true then begin else -1
theorem ini_pg (n : api_Nfa) (begin : Int) (q : Nat) : pg (ini n begin q) := by
  unfold ini; split
  · unfold pg; omega
  · exact ⟨by omega, by omega⟩
def nxS (n : api_Nfa) (K : Nat) (f : Nat → Int) (begin b : Int) (q : Nat) : Int := if cl n b q = true then fd n f q K 0 (ini n begin q) else -1
theorem nxS_gd (n : api_Nfa) (K : Nat) (f : Nat → Int) (hf : gd f) (begin b : Int) : gd (nxS n K f begin b) := by
  intro q
  unfold nxS; split
  · exact fd_pg n f hf q _ _ _ (ini_pg n begin q)
  · exact ⟨by omega, by omega⟩

/-! ### the program's step -/
theorem next_l3 (k : Nat) (J : List Int → Option (List Int)) (x : Int) (K : Nat) (p : Nat → Bool) : ∀ (d i : Nat) (g : Nat → Int), i + d = K →
    starts_Next_l3 k J x (lst p K d i) (mp K g) = J (mp K fun q => if i ≤ q ∧ p q = true then ls (g q) x else g q) := by
  intro d
  induction d with
  | zero =>
    intro i g hi
    rw [lst, starts_Next_l3]
    congr 1
    refine mp_congr fun q hq => ?_
    rw [if_neg (by omega)]
  | succ d ih =>
    intro i g hi
    rw [lst]
    by_cases h : p i = true
    · rw [if_pos ⟨by omega, h⟩, starts_Next_l3, mp_at K g (by omega), Option.bind_some, lesser_ev, Option.bind_some, mp_set, ih (i + 1) _ (by omega)]
      congr 1
      refine mp_congr fun q hq => ?_
      by_cases e : q = i
      · subst e
        rw [if_neg (by omega), if_pos rfl, if_pos ⟨by omega, h⟩]
      · simp only [if_neg e]
        by_cases e2 : i + 1 ≤ q ∧ p q = true
        · rw [if_pos e2, if_pos ⟨by omega, e2.2⟩]
        · rw [if_neg e2, if_neg (fun hc => e2 ⟨by omega, hc.2⟩)]
    · rw [if_neg (fun hc => h hc.2), ih (i + 1) _ (by omega)]
      congr 1
      refine mp_congr fun q hq => ?_
      by_cases e2 : i + 1 ≤ q ∧ p q = true
      · rw [if_pos e2, if_pos ⟨by omega, e2.2⟩]
      · rw [if_neg e2, if_neg (fun hc => e2 ⟨by
          rcases Nat.lt_or_ge i q with h1 | h1
          · omega
          · have : q = i := by omega
            subst this; exact absurd hc.2 h, hc.2⟩)]
theorem next_l1 (n : api_Nfa) (K : Nat) (hn : OkN n K) (b : Int) (h0 : 0 ≤ b) (h1 : b < 256) (J : List Int → Option (List Int)) : ∀ (d i m : Nat) (g : Nat → Int), i + d = K → d < m →
    starts_Next_l1 b n J m ((i : Int), mp K g) = J (mp K fun q => if i ≤ q ∧ cl n b q = false then -1 else g q) := by
  have hle := hn.le
  intro d
  induction d with
  | zero =>
    intro i m g hi hm
    obtain ⟨m, rfl⟩ : ∃ n, m = n + 1 := ⟨m - 1, by omega⟩
    rw [starts_Next_l1, hn.k, if_neg (by simp; omega)]
    congr 1
    refine mp_congr fun q hq => ?_
    rw [if_neg (by omega)]
  | succ d ih =>
    intro i m g hi hm
    obtain ⟨m, rfl⟩ : ∃ n, m = n + 1 := ⟨m - 1, by omega⟩
    have hlt : i < n.Classes.length := by rw [hn.k]; omega
    have hc : cl n b i = hasC n.Classes[i] b := by unfold cl; rw [List.getElem?_eq_getElem hlt]
    rw [starts_Next_l1, hn.k, if_pos (by simp; omega), at_lt hlt, Option.bind_some, cHas_ev _ (hn.cl _ (List.getElem_mem hlt)) b h0 h1, Option.bind_some, ← hc, wrapN i (by omega)]
    by_cases h : cl n b i = true
    · rw [if_neg (by simp [h]), ih (i + 1) m _ (by omega) (by omega)]
      congr 1
      refine mp_congr fun q hq => ?_
      by_cases e2 : i + 1 ≤ q ∧ cl n b q = false
      · rw [if_pos e2, if_pos ⟨by omega, e2.2⟩]
      · rw [if_neg e2, if_neg (fun hc => e2 ⟨by
          rcases Nat.lt_or_ge i q with h1 | h1
          · omega
          · have : q = i := by omega
            subst this; rw [h] at hc; exact absurd hc.2 (by simp), hc.2⟩)]
    · have h' : cl n b i = false := by simpa using h
      rw [if_pos (by simp [h']), mp_at K g (by omega), Option.bind_some, mp_set, ih (i + 1) m _ (by omega) (by omega)]
      congr 1
      refine mp_congr fun q hq => ?_
      by_cases e : q = i
      · subst e
        rw [if_neg (by omega), if_pos rfl, if_pos ⟨by omega, h'⟩]
      · simp only [if_neg e]
        by_cases e2 : i + 1 ≤ q ∧ cl n b q = false
        · rw [if_pos e2, if_pos ⟨by omega, e2.2⟩]
        · rw [if_neg e2, if_neg (fun hc => e2 ⟨by omega, hc.2⟩)]
theorem next_l2 (n : api_Nfa) (K : Nat) (hn : OkN n K) (f : Nat → Int) (J : List Int → Option (List Int)) : ∀ (d i m : Nat) (g : Nat → Int), i + d = K → d + 9001 < m →
    starts_Next_l2 n (mp K f) J m ((i : Int), mp K g) = J (mp K fun q => fd n f q d i (g q)) := by
  have hle := hn.le
  intro d
  induction d with
  | zero =>
    intro i m g hi hm
    obtain ⟨m, rfl⟩ : ∃ n, m = n + 1 := ⟨m - 1, by omega⟩
    rw [starts_Next_l2, mp_length, if_neg (by simp; omega)]
    congr 1
  | succ d ih =>
    intro i m g hi hm
    obtain ⟨m, rfl⟩ : ∃ n, m = n + 1 := ⟨m - 1, by omega⟩
    have hlt : i < n.Follow.length := by rw [hn.fl]; omega
    have hF := hn.fo _ (List.getElem_mem hlt)
    have hf : ∀ q, fo n i q = pp n.Follow[i] q := fun q => by unfold fo; rw [List.getElem?_eq_getElem hlt]
    obtain ⟨a1, a2⟩ := all_is hF m (by omega)
    rw [starts_Next_l2, mp_length, if_pos (by simp; omega)]
    simp only [jn]
    rw [mp_at K f (by omega), Option.bind_some, wrapN i (by omega)]
    by_cases h : f i < 0
    · rw [if_pos (by simpa using h), ih (i + 1) m _ (by omega) (by omega)]
      congr 1
      refine mp_congr fun q hq => ?_
      rw [fd, if_neg (by omega)]
    · rw [if_neg (by simpa using h), at_lt hlt, Option.bind_some, a1, Option.bind_some, a2, Option.bind_some]
      unfold al
      rw [next_l3 m _ (f i) K _ K 0 g (by omega), ih (i + 1) m _ (by omega) (by omega)]
      congr 1
      refine mp_congr fun q hq => ?_
      rw [fd, hf]
      congr 1
      by_cases h2 : pp n.Follow[i] q = true
      · rw [if_pos ⟨by omega, h2⟩, if_pos ⟨by omega, h2⟩]
      · rw [if_neg (fun hc => h2 hc.2), if_neg (fun hc => h2 hc.2)]
def bv (begin : Int) : Int := if 0 ≤ begin ∧ begin ≤ 4611686018427387904 then begin else -1
theorem next_l0 (k : Nat) (begin b : Int) (n : api_Nfa) (s : List Int) (K : Nat) (p : Nat → Bool) : ∀ (d i : Nat) (g : Nat → Int), i + d = K →
    starts_Next_l0 k begin b n s (lst p K d i) (mp K g) = starts_Next_l0 k begin b n s [] (mp K fun q => if i ≤ q ∧ p q = true then bv begin else g q) := by
  intro d
  induction d with
  | zero =>
    intro i g hi
    rw [lst]
    congr 1
    refine mp_congr fun q hq => ?_
    rw [if_neg (by omega)]
  | succ d ih =>
    intro i g hi
    rw [lst]
    by_cases h : p i = true
    · have key : ∀ v : Int, v = bv begin → starts_Next_l0 k begin b n s (lst p K d (i + 1)) (mp K fun j => if j = i then v else g j) = starts_Next_l0 k begin b n s [] (mp K fun q => if i ≤ q ∧ p q = true then bv begin else g q) := by
        intro v hv
        rw [ih (i + 1) _ (by omega)]
        congr 1
        refine mp_congr fun q hq => ?_
        by_cases e : q = i
        · subst e
          rw [if_neg (by omega), if_pos rfl, if_pos ⟨by omega, h⟩, hv]
        · simp only [if_neg e]
          by_cases e2 : i + 1 ≤ q ∧ p q = true
          · rw [if_pos e2, if_pos ⟨by omega, e2.2⟩]
          · rw [if_neg e2, if_neg (fun hc => e2 ⟨by omega, hc.2⟩)]
      rw [if_pos ⟨by omega, h⟩, starts_Next_l0.eq_2]
      simp only [jn]
      rw [mp_at K g (by omega), Option.bind_some, mp_set]
      by_cases hb : 0 ≤ begin ∧ begin ≤ 4611686018427387904
      · rw [if_pos (by simp; omega), mp_at K _ (by omega), Option.bind_some, mp_set, ← key begin (by unfold bv; rw [if_pos hb])]
        congr 1
        refine mp_congr fun q hq => ?_
        by_cases e : q = i
        · simp [e]
        · simp [e]
      · rw [if_neg (by simp; omega)]
        exact key (-1) (by unfold bv; rw [if_neg hb])
    · rw [if_neg (fun hc => h hc.2), ih (i + 1) _ (by omega)]
      congr 1
      refine mp_congr fun q hq => ?_
      by_cases e2 : i + 1 ≤ q ∧ p q = true
      · rw [if_pos e2, if_pos ⟨by omega, e2.2⟩]
      · rw [if_neg e2, if_neg (fun hc => e2 ⟨by
          rcases Nat.lt_or_ge i q with h1 | h1
          · omega
          · have : q = i := by omega
            subst this; exact absurd hc.2 h, hc.2⟩)]
theorem snext_n (n : api_Nfa) (h : WFN n) (s : List Int) (begin b : Int) (h0 : 0 ≤ b) (h1 : b < 256) (k : Nat) (hk : 10000 < k) :
    starts_Next k n s begin b = some (mp (KN n) (nxS (mayN n) (KN n) (sf (KN n) s) begin b)) := by
  have hn := ok_may n h
  have hle := hn.le
  obtain ⟨a1, a2⟩ := all_is hn.fi k (by omega)
  unfold starts_Next
  rw [smay_ev n h k (by omega), Option.bind_some, sstate_ev n h s k (by omega), Option.bind_some, snone_ev _ (wfn_may n h) k (by omega), KN_may, Option.bind_some, a1, Option.bind_some, a2, Option.bind_some]
  unfold al
  rw [next_l0 k begin b _ _ _ _ (KN n) 0 _ (by omega), starts_Next_l0]
  simp only [jn]
  rw [show (0 : Int) = ((0 : Nat) : Int) from rfl, next_l2 _ _ hn _ _ (KN n) 0 k _ (by omega) (by omega), next_l1 _ _ hn b h0 h1 _ (KN n) 0 k _ (by omega) (by omega)]
  congr 1
  refine mp_congr fun q hq => ?_
  unfold nxS ini
  by_cases hc : cl (mayN n) b q = true
  · rw [if_neg (by simp [hc]), if_pos hc]
    congr 1
    by_cases hp : pp (mayN n).First q = true
    · rw [if_pos ⟨by omega, hp⟩]
      unfold bv
      by_cases hb : 0 ≤ begin ∧ begin ≤ 4611686018427387904
      · rw [if_pos hb, if_pos ⟨hb, hp⟩]
      · rw [if_neg hb, if_neg (fun hc => hb hc.1)]
    · rw [if_neg (fun hc => hp hc.2), if_neg (fun hc => hp hc.2)]
  · rw [if_pos (by simpa using hc), if_neg hc]

/-! ### the document's step -/
theorem rsnext_l1 (n : api_Nfa) (K : Nat) (hn : OkN n K) (f : Nat → Int) (hf : gd f) (q : Nat) (hq : q < K) (J : List Int → Option (List Int)) : ∀ (d i m : Nat) (g : Nat → Int), i + d = K → d + 9001 < m → pg (g q) →
    riddleref23_Next_l1 n (mp K f) (q : Int) J m (mp K g, (i : Int)) = J (mp K fun j => if j = q then fd n f q d i (g q) else g j) := by
  have hle := hn.le
  intro d
  induction d with
  | zero =>
    intro i m g hi hm hg
    obtain ⟨m, rfl⟩ : ∃ n, m = n + 1 := ⟨m - 1, by omega⟩
    rw [riddleref23_Next_l1, mp_length, if_neg (by simp; omega)]
    congr 1
    refine mp_congr fun j hj => ?_
    by_cases e : j = q
    · subst e; rw [if_pos rfl]; rfl
    · rw [if_neg e]
  | succ d ih =>
    intro i m g hi hm hg
    obtain ⟨m, rfl⟩ : ∃ n, m = n + 1 := ⟨m - 1, by omega⟩
    have hlt : i < n.Follow.length := by rw [hn.fl]; omega
    have hF := hn.fo _ (List.getElem_mem hlt)
    have hfo : fo n i q = pp n.Follow[i] q := by unfold fo; rw [List.getElem?_eq_getElem hlt]
    rw [riddleref23_Next_l1, mp_length, if_pos (by simp; omega), mp_at K f (by omega), Option.bind_some, wrapN i (by omega)]
    have e1 : ((if decide (f i ≥ 0) = true then (at_ n.Follow (i : Int)).bind fun t185_4 => (riddleref01_Has m t185_4 (q : Int)).bind fun t185_6 => some t185_6 else some false) : Option Bool) = some (decide (0 ≤ f i ∧ fo n i q = true)) := by
      by_cases hp : 0 ≤ f i
      · rw [if_pos (by simpa using hp), at_lt hlt, Option.bind_some, rhas_ev _ hF.u hF.wf.2 _ _ (by omega), Option.bind_some, hasB_nat, ← hfo]
        congr 1
        rw [Bool.eq_iff_iff, decide_eq_true_eq]
        exact ⟨fun h => ⟨hp, h⟩, fun h => h.2⟩
      · rw [if_neg (by simpa using hp), decide_eq_false (fun hc => hp hc.1)]
    rw [e1, Option.bind_some]
    by_cases hc : 0 ≤ f i ∧ fo n i q = true
    · rw [if_pos (decide_eq_true hc), mp_at K g hq, Option.bind_some, Option.bind_some, less_ev _ _ hg.1 (hf i).1, Option.bind_some, mp_set, ih (i + 1) m _ (by omega) (by omega) (by rw [if_pos rfl]; exact ls_pg hg (hf i))]
      congr 1
      refine mp_congr fun j hj => ?_
      by_cases e : j = q
      · subst e
        rw [if_pos rfl, if_pos rfl, if_pos rfl, fd, if_pos hc]
      · rw [if_neg e, if_neg e, if_neg e]
    · rw [if_neg (by rw [decide_eq_true_eq]; exact hc), ih (i + 1) m _ (by omega) (by omega) hg]
      congr 1
      refine mp_congr fun j hj => ?_
      by_cases e : j = q
      · subst e
        rw [if_pos rfl, if_pos rfl, fd, if_neg hc]
      · rw [if_neg e, if_neg e]
theorem rsnext_l0 (n : api_Nfa) (K : Nat) (hn : OkN n K) (f : Nat → Int) (hf : gd f) (begin b : Int) (h0 : 0 ≤ b) (h1 : b < 256) (J : List Int → Option (List Int)) : ∀ (d i m : Nat) (g : Nat → Int), i + d = K → d + 9700 < m → (∀ q, i ≤ q → g q = -1) →
    riddleref23_Next_l0 begin b n (mp K f) J m (mp K g, (i : Int)) = J (mp K fun q => if i ≤ q then nxS n K f begin b q else g q) := by
  have hle := hn.le
  intro d
  induction d with
  | zero =>
    intro i m g hi hm hg
    obtain ⟨m, rfl⟩ : ∃ n, m = n + 1 := ⟨m - 1, by omega⟩
    rw [riddleref23_Next_l0, mp_length, if_neg (by simp; omega)]
    congr 1
    refine mp_congr fun j hj => ?_
    rw [if_neg (by omega)]
  | succ d ih =>
    intro i m g hi hm hg
    obtain ⟨m, rfl⟩ : ∃ n, m = n + 1 := ⟨m - 1, by omega⟩
    have hlt : i < n.Classes.length := by rw [hn.k]; omega
    have hc : cl n b i = hasC n.Classes[i] b := by unfold cl; rw [List.getElem?_eq_getElem hlt]
    have key : ∀ g' : Nat → Int, (∀ q, q ≠ i → g' q = g q) → g' i = nxS n K f begin b i → riddleref23_Next_l0 begin b n (mp K f) J m (mp K g', ((i + 1 : Nat) : Int)) = J (mp K fun q => if i ≤ q then nxS n K f begin b q else g q) := by
      intro g' hg1 hg2
      rw [ih (i + 1) m g' (by omega) (by omega) (fun q hq => by rw [hg1 q (by omega)]; exact hg q (by omega))]
      congr 1
      refine mp_congr fun q hq => ?_
      by_cases e : q = i
      · subst e; rw [if_neg (by omega), if_pos (by omega), hg2]
      · by_cases e2 : i + 1 ≤ q
        · rw [if_pos e2, if_pos (by omega)]
        · rw [if_neg e2, if_neg (by omega), hg1 q e]
    rw [riddleref23_Next_l0, mp_length, if_pos (by simp; omega)]
    simp only [jn]
    rw [at_lt hlt, Option.bind_some, rcHas_ev _ (hn.cl _ (List.getElem_mem hlt)) b h0 h1, Option.bind_some, ← hc, wrapN i (by omega)]
    by_cases hcl : cl n b i = true
    · have e1 : ((if decide (begin ≥ 0) = true then (if decide (begin ≤ 4611686018427387904) = true then (riddleref01_Has m n.First (i : Int)).bind fun t147_2 => some t147_2 else some false) else some false) : Option Bool) = some (decide ((0 ≤ begin ∧ begin ≤ 4611686018427387904) ∧ pp n.First i = true)) := by
        by_cases p1 : 0 ≤ begin
        · rw [if_pos (by simpa using p1)]
          by_cases p2 : begin ≤ 4611686018427387904
          · rw [if_pos (by simpa using p2), rhas_ev _ hn.fi.u hn.fi.wf.2 _ _ (by omega), Option.bind_some, hasB_nat]
            congr 1
            rw [Bool.eq_iff_iff, decide_eq_true_eq]
            exact ⟨fun h => ⟨⟨p1, p2⟩, h⟩, fun h => h.2⟩
          · rw [if_neg (by simpa using p2), decide_eq_false (fun hc => p2 hc.1.2)]
        · rw [if_neg (by simpa using p1), decide_eq_false (fun hc => p1 hc.1.1)]
      rw [if_neg (by simp [hcl]), e1, Option.bind_some]
      have fin : ∀ g' : Nat → Int, (∀ q, q ≠ i → g' q = g q) → g' i = ini n begin i → riddleref23_Next_l1 n (mp K f) (i : Int) (fun v152 => riddleref23_Next_l0 begin b n (mp K f) J m (v152, ((i + 1 : Nat) : Int))) m (mp K g', 0) = J (mp K fun q => if i ≤ q then nxS n K f begin b q else g q) := by
        intro g' hg1 hg2
        rw [show (0 : Int) = ((0 : Nat) : Int) from rfl, rsnext_l1 n K hn f hf i (by omega) _ K 0 m g' (by omega) (by omega) (by rw [hg2]; exact ini_pg _ _ _)]
        refine key _ (fun q hq => by rw [if_neg hq]; exact hg1 q hq) ?_
        rw [if_pos rfl, hg2]
        unfold nxS
        rw [if_pos hcl]
      by_cases hb : (0 ≤ begin ∧ begin ≤ 4611686018427387904) ∧ pp n.First i = true
      · rw [if_pos (decide_eq_true hb), mp_at K g (by omega), Option.bind_some, mp_set]
        exact fin _ (fun q hq => by rw [if_neg hq]) (by rw [if_pos rfl]; unfold ini; rw [if_pos hb])
      · rw [if_neg (by rw [decide_eq_true_eq]; exact hb)]
        exact fin g (fun q _ => rfl) (by unfold ini; rw [if_neg hb]; exact hg i (by omega))
    · rw [if_pos (by simpa using hcl)]
      exact key g (fun q _ => rfl) (by unfold nxS; rw [if_neg hcl]; exact hg i (by omega))
theorem rsnext_n (n : api_Nfa) (h : WFN n) (s : List Int) (begin b : Int) (h0 : 0 ≤ b) (h1 : b < 256) (k : Nat) (hk : 11000 < k) :
    riddleref23_Next k n s begin b = some (mp (KN n) (nxS (mayN n) (KN n) (sf (KN n) s) begin b)) := by
  have hn := ok_may n h
  have hle := hn.le
  unfold riddleref23_Next
  rw [rsmay_ev n h k (by omega), Option.bind_some, rsstate_ev n h s k (by omega), Option.bind_some, rsnone_ev _ (wfn_may n h) k (by omega), KN_may, Option.bind_some]
  simp only [jn]
  rw [show (0 : Int) = ((0 : Nat) : Int) from rfl, rsnext_l0 _ _ hn _ (sf_gd _ _) begin b h0 h1 _ (KN n) 0 k _ (by omega) (by omega) (fun _ _ => rfl)]
  congr 1

/-! ### the least place -/
def lsS (n : api_Nfa) (f : Nat → Int) : Nat → Nat → Int → Int
  | 0, _, v => v
  | d + 1, i, v => lsS n f d (i + 1) (if pp n.Last i = true then ls v (f i) else v)
theorem least_l0 (n : api_Nfa) (K : Nat) (hn : OkN n K) (f : Nat → Int) (J : Int → Option Int) : ∀ (d i m : Nat) (v : Int), i + d = K → d < m →
    starts_Least_l0 n (mp K f) J m (v, (i : Int)) = J (lsS n f d i v) := by
  have hle := hn.le
  intro d
  induction d with
  | zero =>
    intro i m v hi hm
    obtain ⟨m, rfl⟩ : ∃ n, m = n + 1 := ⟨m - 1, by omega⟩
    rw [starts_Least_l0, mp_length, if_neg (by simp; omega)]; rfl
  | succ d ih =>
    intro i m v hi hm
    obtain ⟨m, rfl⟩ : ∃ n, m = n + 1 := ⟨m - 1, by omega⟩
    rw [starts_Least_l0, mp_length, if_pos (by simp; omega), mp_at K f (by omega), Option.bind_some, bhas_ev _ hn.la.u hn.la.wf.2, Option.bind_some, hasB_nat, wrapN i (by omega), lsS]
    by_cases h : pp n.Last i = true
    · rw [if_neg (by simp [h]), lesser_ev, Option.bind_some, ih (i + 1) m _ (by omega) (by omega), if_pos h]
    · rw [if_pos (by simpa using h), ih (i + 1) m _ (by omega) (by omega), if_neg h]
theorem sleast_n (n : api_Nfa) (h : WFN n) (s : List Int) (k : Nat) (hk : 10000 < k) : starts_Least k n s = some (lsS (mayN n) (sf (KN n) s) (KN n) 0 (-1)) := by
  have hn := ok_may n h
  have hle := hn.le
  unfold starts_Least
  rw [smay_ev n h k (by omega), Option.bind_some, sstate_ev n h s k (by omega), Option.bind_some]
  simp only [jn]
  rw [show (0 : Int) = ((0 : Nat) : Int) from rfl, least_l0 _ _ hn _ _ (KN n) 0 k _ (by omega) (by omega)]
theorem rleast_l0 (n : api_Nfa) (K : Nat) (hn : OkN n K) (f : Nat → Int) (hf : gd f) (J : Int → Option Int) : ∀ (d i m : Nat) (v : Int), i + d = K → d + 9001 < m → pg v →
    riddleref23_Least_l0 n (mp K f) J m (v, (i : Int)) = J (lsS n f d i v) := by
  have hle := hn.le
  intro d
  induction d with
  | zero =>
    intro i m v hi hm hv
    obtain ⟨m, rfl⟩ : ∃ n, m = n + 1 := ⟨m - 1, by omega⟩
    rw [riddleref23_Least_l0, mp_length, if_neg (by simp; omega)]; rfl
  | succ d ih =>
    intro i m v hi hm hv
    obtain ⟨m, rfl⟩ : ∃ n, m = n + 1 := ⟨m - 1, by omega⟩
    rw [riddleref23_Least_l0, mp_length, if_pos (by simp; omega), mp_at K f (by omega), Option.bind_some, wrapN i (by omega), lsS]
    by_cases hp : 0 ≤ f i
    · rw [if_pos (by simpa using hp), rhas_ev _ hn.la.u hn.la.wf.2 _ _ (by omega), Option.bind_some, hasB_nat, Option.bind_some]
      by_cases h : pp n.Last i = true
      · rw [if_pos h, Option.bind_some, less_ev _ _ hv.1 (hf i).1, Option.bind_some, ih (i + 1) m _ (by omega) (by omega) (ls_pg hv (hf i)), if_pos h]
      · rw [if_neg h, ih (i + 1) m _ (by omega) (by omega) hv, if_neg h]
    · rw [if_neg (by simpa using hp), Option.bind_some, if_neg (by simp), ih (i + 1) m _ (by omega) (by omega) hv]
      have : f i = -1 := by have := (hf i).1; omega
      rw [this, ls_neg, ite_self]
theorem rsleast_n (n : api_Nfa) (h : WFN n) (s : List Int) (k : Nat) (hk : 10000 < k) : riddleref23_Least k n s = some (lsS (mayN n) (sf (KN n) s) (KN n) 0 (-1)) := by
  have hn := ok_may n h
  have hle := hn.le
  unfold riddleref23_Least
  rw [rsmay_ev n h k (by omega), Option.bind_some, rsstate_ev n h s k (by omega), Option.bind_some]
  simp only [jn]
  rw [show (0 : Int) = ((0 : Nat) : Int) from rfl, rleast_l0 _ _ hn _ (sf_gd _ _) _ (KN n) 0 k _ (by omega) (by omega) ⟨by omega, by omega⟩]

/-! ### the positions that have a place -/
def po (f : Nat → Int) (q : Nat) : Bool := decide (0 ≤ f q)
theorem sbits_l0 (K : Nat) (hK : K ≤ 512) (f : Nat → Int) (J : List Int → Option api_Bits) : ∀ (d i m : Nat) (a : List Int), i + d = K → d < m → a.length ≤ i →
    starts_Bits_l0 (mp K f) J m (a, (i : Int)) = J (a ++ lst (po f) K d i) := by
  intro d
  induction d with
  | zero =>
    intro i m a hi hm ha
    obtain ⟨m, rfl⟩ : ∃ n, m = n + 1 := ⟨m - 1, by omega⟩
    rw [starts_Bits_l0, mp_length, if_neg (by simp; omega)]; simp [lst]
  | succ d ih =>
    intro i m a hi hm ha
    obtain ⟨m, rfl⟩ : ∃ n, m = n + 1 := ⟨m - 1, by omega⟩
    rw [starts_Bits_l0, mp_length, if_pos (by simp; omega), mp_at K f (by omega), Option.bind_some, wrapN i (by omega), lst]
    by_cases hp : 0 ≤ f i
    · rw [if_pos (by simpa using hp), if_pos (okApp8 (by simp; omega)), ih (i + 1) m _ (by omega) (by omega) (by simp; omega), if_pos ⟨by omega, decide_eq_true hp⟩]; simp
    · rw [if_neg (by simpa using hp), ih (i + 1) m _ (by omega) (by omega) (by omega), if_neg (fun hc => hp (of_decide_eq_true hc.2))]
theorem rsbits_l0 (K : Nat) (hK : K ≤ 512) (f : Nat → Int) (J : List Int → Option api_Bits) : ∀ (d i m : Nat) (a : List Int), i + d = K → d < m → a.length ≤ i →
    riddleref23_Bits_l0 (mp K f) J m (a, (i : Int)) = J (a ++ lst (po f) K d i) := by
  intro d
  induction d with
  | zero =>
    intro i m a hi hm ha
    obtain ⟨m, rfl⟩ : ∃ n, m = n + 1 := ⟨m - 1, by omega⟩
    rw [riddleref23_Bits_l0, mp_length, if_neg (by simp; omega)]; simp [lst]
  | succ d ih =>
    intro i m a hi hm ha
    obtain ⟨m, rfl⟩ : ∃ n, m = n + 1 := ⟨m - 1, by omega⟩
    rw [riddleref23_Bits_l0, mp_length, if_pos (by simp; omega), mp_at K f (by omega), Option.bind_some, wrapN i (by omega), lst]
    by_cases hp : 0 ≤ f i
    · rw [if_pos (by simpa using hp), if_pos (okApp8 (by simp; omega)), ih (i + 1) m _ (by omega) (by omega) (by simp; omega), if_pos ⟨by omega, decide_eq_true hp⟩]; simp
    · rw [if_neg (by simpa using hp), ih (i + 1) m _ (by omega) (by omega) (by omega), if_neg (fun hc => hp (of_decide_eq_true hc.2))]
def bitsS (K : Nat) (f : Nat → Int) : api_Bits := (newB (K : Int) (al (po f) K)).1
theorem bitsS_is (K : Nat) (hK : K ≤ 512) (f : Nat → Int) : Is (bitsS K f) K (fun q => decide (q < K) && po f q) := by
  obtain ⟨i1, _⟩ := new_is K (by omega) (al (po f) K)
  refine i1.congr fun q => ?_
  rw [Bool.eq_iff_iff, decide_eq_true_eq, Bool.and_eq_true, decide_eq_true_eq]
  constructor
  · rintro ⟨h2, h3⟩
    obtain ⟨i, h4, h5, h6⟩ := (al_mem _ _ _).1 h3
    have : i = q := by omega
    subst this; exact ⟨h2, h6⟩
  · rintro ⟨h2, h3⟩
    exact ⟨h2, (al_mem _ _ _).2 ⟨q, rfl, h2, h3⟩⟩
theorem sbits_n (n : api_Nfa) (h : WFN n) (s : List Int) (k : Nat) (hk : 10000 < k) : starts_Bits k n s = some (bitsS (KN n) (sf (KN n) s)) := by
  have hn := ok_may n h
  have hle := hn.le
  have hlen := lst_len (po (sf (KN n) s)) (KN n) (KN n) 0
  unfold starts_Bits
  rw [smay_ev n h k (by omega), Option.bind_some, sstate_ev n h s k (by omega), Option.bind_some]
  simp only [jn]
  rw [show (0 : Int) = ((0 : Nat) : Int) from rfl, sbits_l0 _ hle _ _ (KN n) 0 k [] (by omega) (by omega) (by simp), List.nil_append, hn.k, new_ev _ _ (by omega) k (by omega)]; rfl
theorem rsbits_n (n : api_Nfa) (h : WFN n) (s : List Int) (k : Nat) (hk : 10000 < k) : riddleref23_Bits k n s = some (bitsS (KN n) (sf (KN n) s)) := by
  have hn := ok_may n h
  have hle := hn.le
  have hlen := lst_len (po (sf (KN n) s)) (KN n) (KN n) 0
  unfold riddleref23_Bits
  rw [rsmay_ev n h k (by omega), Option.bind_some, rsstate_ev n h s k (by omega), Option.bind_some]
  simp only [jn]
  rw [show (0 : Int) = ((0 : Nat) : Int) from rfl, rsbits_l0 _ hle _ _ (KN n) 0 k [] (by omega) (by omega) (by simp), List.nil_append, hn.k, rnew_ev _ _ (by omega) k (by omega)]; rfl
end Go.Proofs.YtpifpjeeijhhdaaDoor
