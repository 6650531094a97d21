/- YtegjbjnmedgdoaaDoorAaJump: a part of the proof; see the last text for what is proved. -/
import Derived.Test.YtegjbjnmedgdoaaDoorAaIter
import Derived.ScopeJumps
set_option linter.unusedVariables false
set_option linter.unusedSimpArgs false
namespace Go.AE

theorem stepR_scope' {P : Program} {b : Frame} {a : Act} {k : List Item} {cs : List Frame} {w : World} {c : Code} : step P (lone (b.atR a (.code (.scope c) :: k)) cs w) = .next (lone (b.atR a (.code c :: .inScope c :: k)) cs w) :=
  step_lone_go (by simp [stepG, stepG.exec, Frame.atR])
theorem stepR_inScope' {P : Program} {b : Frame} {a : Act} {k : List Item} {cs : List Frame} {w : World} {c : Code} : step P (lone (b.atR a (.inScope c :: k)) cs w) = .next (lone (b.atR a k) cs w) :=
  step_lone_go (by simp [stepG, stepG.exec, Frame.atR])
theorem wpIn_scope_jumps {F : Fence} {n : Nat} {P : Program} {Q : Exit → Act → World → Prop} {a : Act} {w : World} {c rest : Code} (l : Nat) (J : Act → World → Prop) (μ : Act → World → Nat) (hf : findLabel c l = some rest)
    (first : c.wpIn F n P (Exit.jump l J Q) a w)
    (pass : ∀ a w, J a w → rest.wpIn F n P (Exit.jump l (fun a' w' => J a' w' ∧ μ a' w' < μ a w) Q) a w) : (Code.scope c).wpIn F n P Q a w := by
  intro b k cs hro hb hr
  have hg : gotoIn l (.inScope c :: k) = some (.code rest :: .inScope c :: k) := by simp [gotoIn, hf]
  have hS : (lone (b.atR a (.code (.scope c) :: k)) cs w).fenced P F := fenced_calm hb hr rfl
  have key : ∀ j a w, μ a w = j → J a w → ∃ e a' w', Q e a' w' ∧ ArrivesIn (Machine.fenced P F) P (lone (b.atR a (.code rest :: .inScope c :: k)) cs w) b k cs e a' w' := by
    intro j
    induction j using Nat.strongRecOn with
    | _ j ih =>
      intro a w hn hJ
      obtain ⟨e, a₁, w₁, hq, harr⟩ := pass a w hJ b (.inScope c :: k) cs hro hb hr
      cases e with
      | normal => exact ⟨.normal, a₁, w₁, hq, StepsIn.trans harr (.one (fenced_calm hb hr rfl) stepR_inScope')⟩
      | exit id =>
        have hx : exitTo id (.inScope c :: k) = exitTo id k := by simp [exitTo]
        exact ⟨.exit id, a₁, w₁, hq, fun k' hk => harr.1 k' (by rw [hx]; exact hk), fun hr' hk => harr.2 hr' (by rw [hx]; exact hk)⟩
      | goto l' =>
        obtain ⟨rfl, hJ', hlt⟩ := hq
        obtain ⟨e₂, a₂, w₂, hq₂, harr₂⟩ := ih _ (by omega) a₁ w₁ rfl hJ'
        exact ⟨e₂, a₂, w₂, hq₂, .of_steps (harr.1 _ hg) harr₂⟩
      | ret => exact ⟨_, a₁, w₁, hq, harr⟩
      | panic ch => exact ⟨_, a₁, w₁, hq, harr⟩
      | outgrown => exact ⟨_, a₁, w₁, hq, harr⟩
  obtain ⟨e, a₁, w₁, hq, harr⟩ := first b (.inScope c :: k) cs hro hb hr
  cases e with
  | normal => exact ⟨.normal, a₁, w₁, hq, .head hS stepR_scope' (StepsIn.trans harr (.one (fenced_calm hb hr rfl) stepR_inScope'))⟩
  | exit id =>
    have hx : exitTo id (.inScope c :: k) = exitTo id k := by simp [exitTo]
    exact ⟨.exit id, a₁, w₁, hq, fun k' hk => .head hS stepR_scope' (harr.1 k' (by rw [hx]; exact hk)),
      fun hr' hk => let ⟨k₁, h1, h2⟩ := harr.2 hr' (by rw [hx]; exact hk); ⟨k₁, h1, .head hS stepR_scope' h2⟩⟩
  | goto l' =>
    obtain ⟨rfl, hJ'⟩ := hq
    obtain ⟨e₂, a₂, w₂, hq₂, harr₂⟩ := key _ a₁ w₁ rfl hJ'
    exact ⟨e₂, a₂, w₂, hq₂, .of_steps (.head hS stepR_scope' (harr.1 _ hg)) harr₂⟩
  | ret => exact ⟨_, a₁, w₁, hq, .of_steps (.one hS stepR_scope') harr⟩
  | panic ch => exact ⟨_, a₁, w₁, hq, .of_steps (.one hS stepR_scope') harr⟩
  | outgrown => exact ⟨_, a₁, w₁, hq, .of_steps (.one hS stepR_scope') harr⟩
theorem wpIn_scope_straight {F : Fence} {n : Nat} {P : Program} {Q : Exit → Act → World → Prop} {a : Act} {w : World} {c : Code} (h : c.wpIn F n P (Exit.noGoto Q) a w) : (Code.scope c).wpIn F n P Q a w := by
  intro b k cs hro hb hr
  have hS : (lone (b.atR a (.code (.scope c) :: k)) cs w).fenced P F := fenced_calm hb hr rfl
  obtain ⟨e, a₁, w₁, hq, harr⟩ := h b (.inScope c :: k) cs hro hb hr
  cases e with
  | normal => exact ⟨.normal, a₁, w₁, hq, .head hS stepR_scope' (StepsIn.trans harr (.one (fenced_calm hb hr rfl) stepR_inScope'))⟩
  | exit id =>
    have hx : exitTo id (.inScope c :: k) = exitTo id k := by simp [exitTo]
    exact ⟨.exit id, a₁, w₁, hq, fun k' hk => .head hS stepR_scope' (harr.1 k' (by rw [hx]; exact hk)),
      fun hr' hk => let ⟨k₁, h1, h2⟩ := harr.2 hr' (by rw [hx]; exact hk); ⟨k₁, h1, .head hS stepR_scope' h2⟩⟩
  | goto l' => exact hq.elim
  | ret => exact ⟨_, a₁, w₁, hq, .of_steps (.one hS stepR_scope') harr⟩
  | panic ch => exact ⟨_, a₁, w₁, hq, .of_steps (.one hS stepR_scope') harr⟩
  | outgrown => exact ⟨_, a₁, w₁, hq, .of_steps (.one hS stepR_scope') harr⟩

variable {P : Program} {X : Env P}
def jumpK (l : Nat) (K : St → Prop) (Q : Exit → St → Prop) : Exit → St → Prop
  | .goto l', st => l' = l ∧ K st
  | e, st => Q e st
theorem AW.jumps {ι : Type} {st : St} {Q : Exit → St → Prop} {c rest : Code} {l : Nat} (I : ι → St) (μ : ι → Nat) (hf : findLabel c l = some rest)
    (first : AW X c st (jumpK l (fun st' => ∃ j, Lg X st' (I j)) Q))
    (pass : ∀ i, AW X rest (I i) (jumpK l (fun st' => ∃ j, μ j < μ i ∧ Lg X st' (I j)) Q)) : AW X (.scope c) st Q := by
  intro a w hi
  refine wpIn_scope_jumps l (fun a w => ∃ j, Inv X (I j) a w) (fun a w => least fun m => ∃ j, m = μ j ∧ Inv X (I j) a w) hf (wpIn_mono (first a w hi) ?_) ?_
  · intro e a' w' hg
    cases e <;> simp only [Good, Exit.jump] at hg ⊢ <;> first | exact hg.elim | skip
    all_goals obtain ⟨st', hq, hi'⟩ := hg
    all_goals simp only [jumpK] at hq
    case goto l' =>
      obtain ⟨h1, j, h2⟩ := hq
      exact ⟨h1, j, h2 _ _ hi'⟩
    all_goals exact ⟨st', hq, hi'⟩
  · intro a w hI
    obtain ⟨j, hj, hij⟩ := least_spec (p := fun m => ∃ j, m = μ j ∧ Inv X (I j) a w) (by obtain ⟨j, hj⟩ := hI; exact ⟨_, j, rfl, hj⟩)
    refine wpIn_mono (pass j a w hij) ?_
    intro e a' w' hg
    cases e <;> simp only [Good, Exit.jump] at hg ⊢ <;> first | exact hg.elim | skip
    all_goals obtain ⟨st', hq, hi'⟩ := hg
    all_goals simp only [jumpK] at hq
    case goto l' =>
      obtain ⟨h1, k, hk, hw⟩ := hq
      refine ⟨h1, ⟨k, hw _ _ hi'⟩, ?_⟩
      rw [hj]
      exact Nat.lt_of_le_of_lt (least_le ⟨k, rfl, hw _ _ hi'⟩) hk
    all_goals exact ⟨st', hq, hi'⟩
theorem AW.straight {st : St} {Q : Exit → St → Prop} {c : Code} (h : AW X c st (fun e st' => (∀ l, e ≠ .goto l) ∧ Q e st')) : AW X (.scope c) st Q := by
  intro a w hi
  refine wpIn_scope_straight (wpIn_mono (h a w hi) ?_)
  intro e a' w' hg
  cases e <;> simp only [Good, Exit.noGoto] at hg ⊢ <;> first | exact hg.elim | skip
  all_goals obtain ⟨st', hq, hi'⟩ := hg
  case goto l => exact hq.1 l rfl
  all_goals exact ⟨st', hq.2, hi'⟩
def restF : Code → Nat → Option (List Code)
  | .seq a b, l =>
    match restF a l with
    | some fs => some (fs ++ [b])
    | none => restF b l
  | .label l', l => if l' == l then some [] else none
  | _, _ => none
theorem restF_spec {Q : Exit → St → Prop} {l : Nat} : ∀ {c : Code} {fs : List Code}, restF c l = some fs → ∃ rest, findLabel c l = some rest ∧ ∀ k st, WX X Q (fs.map .code ++ k) .normal st → WX X Q (.code rest :: k) .normal st
  | .seq a b, fs, h => by
    simp only [restF] at h
    cases ha : restF a l with
    | some ga =>
      rw [ha] at h
      obtain rfl := Option.some.inj h
      obtain ⟨ra, h1, h2⟩ := restF_spec (Q := Q) (c := a) ha
      refine ⟨.seq ra b, by simp [findLabel, h1], fun k st hw => WX.seq (h2 _ _ ?_)⟩
      simpa using hw
    | none =>
      rw [ha] at h
      have : findLabel a l = none := by
        cases hf : findLabel a l with
        | none => rfl
        | some r => exact absurd ha (restF_some hf)
      obtain ⟨rb, h1, h2⟩ := restF_spec (Q := Q) (c := b) h
      exact ⟨rb, by simp [findLabel, this, h1], h2⟩
  | .label l', fs, h => by
    simp only [restF] at h
    split at h
    · rename_i he
      obtain rfl := Option.some.inj h
      exact ⟨.skip, by simp [findLabel, he], fun k st hw => WX.skip hw⟩
    · cases h
  | .skip, _, h | .region .., _, h | .cond .., _, h | .block .., _, h | .loop .., _, h | .rangeFunc .., _, h | .exit .., _, h | .scope .., _, h | .goto .., _, h | .ret, _, h | .refuse .., _, h => by cases h
where
  restF_some {l : Nat} : ∀ {c r : Code}, findLabel c l = some r → restF c l ≠ none
    | .seq a b, r, h => by
      simp only [findLabel] at h
      simp only [restF]
      cases ha : restF a l with
      | some ga => simp
      | none =>
        cases hf : findLabel a l with
        | some ra => exact absurd ha (restF_some hf)
        | none => rw [hf] at h; exact restF_some (c := b) h
    | .label l', r, h => by
      simp only [findLabel] at h
      split at h
      · rename_i he; simp [restF, he]
      · cases h
    | .skip, _, h | .region .., _, h | .cond .., _, h | .block .., _, h | .loop .., _, h | .rangeFunc .., _, h | .exit .., _, h | .scope .., _, h | .goto .., _, h | .ret, _, h | .refuse .., _, h => by simp [findLabel] at h

theorem WC.scope {Q : Exit → St → Prop} {k : List Fr} {c : Code} {st : St}
    (h : ∀ K : Exit → St → Prop, (∀ e st', (∀ l, e ≠ .goto l) → WC X Q k e st' → K e st') → WC X K [.code c] .normal st) : WC X Q (.code (.scope c) :: k) .normal st := by
  refine AW.straight (AW.mono (AW.of_cl (WX.start (P := P) (X := X) (h (fun e st' => (∀ l, e ≠ .goto l) ∧ WC X Q k e st') (fun e st' h1 h2 => ⟨h1, h2⟩)))) (fun e st' h => h))
theorem WC.jumps {Q : Exit → St → Prop} {k : List Fr} {c : Code} {st : St} {V R : Type} {l : Nat} {fs : List Code} (hf : restF c l = some fs) (L : Nat → V → Option R) (r : R) (head : V → St) (hz : ∀ v, L 0 v = none)
    (first : ∀ K : Exit → St → Prop, (∀ m v, L m v = some r → WC X K (fs.map .code) .normal (head v)) → (∀ e st', (∀ l, e ≠ .goto l) → WC X Q k e st' → K e st') → WC X K [.code c] .normal st)
    (round : ∀ (m : Nat) (v : V), L (m + 1) v = some r → ∀ K : Exit → St → Prop, (∀ v', L m v' = some r → K (.goto l) (head v')) → (∀ e st', (∀ l, e ≠ .goto l) → WC X Q k e st' → K e st') → WC X K (fs.map .code) .normal (head v)) :
    WC X Q (.code (.scope c) :: k) .normal st := by
  obtain ⟨rest, hr, hs⟩ := restF_spec (X := X) (Q := Q) hf
  refine AW.jumps (ι := { i : Nat × V // L i.1 i.2 = some r }) (fun i => head i.val.2) (fun i => i.val.1) hr ?_ ?_
  · refine AW.mono (AW.of_cl (WX.start (P := P) (X := X) (first (fun e st' => jumpK l (fun st' => ∃ m v, L m v = some r ∧ st' = head v) (fun e st' => WC X Q k e st') e st') ?_ ?_))) ?_
    · intro m v hm
      cases m with
      | zero => simp only [hz] at hm; cases hm
      | succ m =>
        refine round m v hm _ (fun v' hv' => ⟨rfl, m, v', hv', rfl⟩) (fun e st' hne hw => ?_)
        cases e <;> first | exact absurd rfl (hne _) | exact hw
    · intro e st' hne hw
      cases e <;> first | exact absurd rfl (hne _) | exact hw
    · intro e st' h
      cases e <;> simp only [jumpK] at h ⊢
      case goto l' =>
        obtain ⟨h1, m, v, hv, rfl⟩ := h
        exact ⟨h1, ⟨(m, v), hv⟩, Lg.refl _⟩
      all_goals exact h
  · rintro ⟨⟨m, v⟩, hm⟩
    cases m with
    | zero => simp only [hz] at hm; cases hm
    | succ m =>
      obtain ⟨rest', hr', hs'⟩ := restF_spec (X := X) (Q := cl X (fun e st' => jumpK l (fun st' => ∃ v', L m v' = some r ∧ st' = head v') (fun e st' => WC X Q k e st') e st')) hf
      obtain rfl := Option.some.inj (hr.symm.trans hr')
      refine AW.mono (AW.of_cl (WX.start (P := P) (X := X) (hs' [] _ ?_))) ?_
      · rw [List.append_nil]
        refine round m v hm _ (fun v' hv' => ⟨rfl, v', hv', rfl⟩) (fun e st' hne hw => ?_)
        cases e <;> first | exact absurd rfl (hne _) | exact hw
      · intro e st' h
        cases e <;> simp only [jumpK] at h ⊢
        case goto l' =>
          obtain ⟨h1, v', hv', rfl⟩ := h
          exact ⟨h1, ⟨(m, v'), hv'⟩, Nat.lt_succ_self m, Lg.refl _⟩
        all_goals exact h
end Go.AE
