/- YtfejcecgnonabaaDoorGd: a part of the proof; see the last text for what is proved. -/
import Derived.Test.YtfejcecgnonabaaDoorGc
import Derived.Test.YtfejcecgnonabaaDoorProg
import Derived.KernelRfl
set_option maxRecDepth 100000
set_option linter.unusedVariables false
set_option linter.unusedSimpArgs false
namespace Go.Proofs.YtfejcecgnonabaaDoor
open Go.AE
def riddleref11_Run_l0 (a2 : (List Int)) (t2_2 : api_Nfa) (J5 : (Int × List Int) → Option (api_Bits)) : Nat → (Int × Int × List Int) → Option (api_Bits)
  | 0, _ => none
  | k + 1, (x17_1_1, x17_1_2, x17_1_3) => (if (decide (x17_1_1 < (a2.length : Int))) = true then (at_ a2 x17_1_1).bind fun t29_2 => (riddleref11_Next k t2_2 ((api_Bits.mk x17_1_2 x17_1_3)) false t29_2).bind fun t29_4 => riddleref11_Run_l0 a2 t2_2 J5 k ((IntKind.i64.wrap (x17_1_1 + 1)), t29_4.N, t29_4.Words) else J5 (x17_1_2, x17_1_3))
def riddleref11_Run (k : Nat) (a0 : api_Nfa) (a1 : api_Bits) (a2 : (List Int)) : Option (api_Bits) :=
  (riddleref11_may k a0).bind fun t2_2 => (riddleref11_state k t2_2 a1).bind fun t3_2 => (riddleref01_Copy k t3_2).bind fun t3_4 => jn (fun (v5 : Int × List Int) => some ((api_Bits.mk v5.1 v5.2))) fun J5 => riddleref11_Run_l0 a2 t2_2 J5 k (0, t3_4.N, t3_4.Words)
theorem riddleref11_Run_ok {k : Nat} {a0 : api_Nfa} {a1 : api_Bits} {a2 : (List Int)} {r : api_Bits} (h : riddleref11_Run k a0 a1 a2 = some r) : Ans Tryd.prog 26 [.agg [sC a0.Classes, i6 (a0.First.N), sW a0.First.Words, i6 (a0.Last.N), sW a0.Last.Words, sB a0.Follow, bo (a0.Null)], .agg [i6 (a1.N), sW a1.Words], slV (eI .u8) a2] (.agg [i6 (r.N), sW r.Words]) := by
  refine W_fn Tryd.func26 rfl (by kernel_rfl) (by kernel_rfl) ?_
  intro X hro hn
  unfold riddleref11_Run at h
  refine WX.seq ?_
  refine WC.reg (n := 28) hn [] [2, 3, 4, 6] [3, 4, 6] ⟨[(2, .p (slV (eI .u8) a2)), (3, .ptr 3 0), (4, .ptr 4 0), (6, .ptr 6 0)], [(3, .box 28 [.p (sC a0.Classes), .p (i6 (a0.First.N)), .p (sW a0.First.Words), .p (i6 (a0.Last.N)), .p (sW a0.Last.Words), .p (sB a0.Follow), .p (bo (a0.Null))]), (4, .box 25 [.p (i6 (a1.N)), .p (sW a1.Words)]), (6, .box 25 [.p (i6 (0)), .p (.sl .nil 0 [])])], ⟨[], false⟩, []⟩ trivial (by kernel_rfl) ?_
  refine WX.seq ?_
  obtain ⟨t2_2, h2_1, h⟩ := bind_some h
  refine WC.reg (n := 28) hn [(1, .resP (.agg [sC t2_2.Classes, i6 (t2_2.First.N), sW t2_2.First.Words, i6 (t2_2.Last.N), sW t2_2.Last.Words, sB t2_2.Follow, bo (t2_2.Null)]))] [2, 3, 4, 6] [3, 4, 6] ⟨[(2, .p (slV (eI .u8) a2)), (3, .ptr 3 0), (4, .ptr 4 0), (6, .ptr 6 0)], [(3, .box 28 [.p (sC t2_2.Classes), .p (i6 (t2_2.First.N)), .p (sW t2_2.First.Words), .p (i6 (t2_2.Last.N)), .p (sW t2_2.Last.Words), .p (sB t2_2.Follow), .p (bo (t2_2.Null))]), (4, .box 25 [.p (i6 (a1.N)), .p (sW a1.Words)]), (6, .box 25 [.p (i6 (0)), .p (.sl .nil 0 [])])], ⟨[], false⟩, []⟩ (And.intro ((riddleref11_may_ok h2_1)) (trivial)) (by kernel_rfl) ?_
  refine WX.seq ?_
  obtain ⟨t3_2, h3_1, h⟩ := bind_some h
  obtain ⟨t3_4, h3_3, h⟩ := bind_some h
  refine WC.reg (n := 28) hn [(2, .resP (.agg [i6 (t3_2.N), sW t3_2.Words])), (3, .co [] [] [] [(13, rowV 69 (eI .u64) t3_4.Words)] (.agg [.p (i6 (t3_4.N)), .own 13]))] [2, 3, 4, 6] [3, 4, 6, 13] ⟨[(2, .p (slV (eI .u8) a2)), (3, .ptr 3 0), (4, .ptr 4 0), (6, .ptr 6 0)], [(3, .box 28 [.p (sC t2_2.Classes), .p (i6 (t2_2.First.N)), .p (sW t2_2.First.Words), .p (i6 (t2_2.Last.N)), .p (sW t2_2.Last.Words), .p (sB t2_2.Follow), .p (bo (t2_2.Null))]), (4, .box 25 [.p (i6 (t3_4.N)), .own 13]), (6, .box 25 [.p (i6 (0)), .p (.sl .nil 0 [])]), (13, rowV 69 (eI .u64) t3_4.Words)], ⟨[], false⟩, []⟩ (And.intro ((riddleref11_state_ok h3_1)) (And.intro (And.intro ((riddleref01_Copy_ok h3_3).ren 11 13 (by kernel_rfl)) (trivial)) (trivial))) (by kernel_rfl) ?_
  refine WX.seq ?_
  refine WX.seq ?_
  refine WC.reg (n := 28) hn [] [2, 3, 4, 6, 7] [3, 4, 6, 13] ⟨[(2, .p (slV (eI .u8) a2)), (3, .ptr 3 0), (4, .ptr 4 0), (6, .ptr 6 0), (7, .p (i6 (0)))], [(3, .box 28 [.p (sC t2_2.Classes), .p (i6 (t2_2.First.N)), .p (sW t2_2.First.Words), .p (i6 (t2_2.Last.N)), .p (sW t2_2.Last.Words), .p (sB t2_2.Follow), .p (bo (t2_2.Null))]), (4, .box 25 [.p (i6 (t3_4.N)), .own 13]), (6, .box 25 [.p (i6 (0)), .p (.sl .nil 0 [])]), (13, rowV 69 (eI .u64) t3_4.Words)], ⟨[], false⟩, []⟩ trivial (by kernel_rfl) ?_
  obtain ⟨J5, eJ5, h⟩ := jn_some h
  try dsimp only at h
  refine WC.join (α := Int × List Int) (fun v5 => ⟨[(4, .ptr 4 0), (6, .ptr 6 0)], [(4, .box 25 [.p (i6 (v5.1)), .p (sW v5.2)]), (6, .box 25 [.p (i6 (0)), .p (.sl .nil 0 [])])], ⟨[], false⟩, []⟩) (fun v5 => J5 v5 = some r) ?_ (fun hJ5 => ?_)
  · rintro ⟨y5_1, y5_2⟩ h
    rw [eJ5] at h
    try dsimp only at h
    refine WX.seq ?_
    refine WC.reg (n := 28) hn [] [6] [6] ⟨[(6, .ptr 6 0)], [(6, .box 25 [.p (i6 (y5_1)), .p (sW y5_2)])], ⟨[], false⟩, []⟩ trivial (by kernel_rfl) ?_
    refine WX.ret ?_
    exact WC.outP (by rw [← Option.some.inj h]; kernel_rfl)
  · replace hJ5 := fun y5_1 y5_2 => hJ5 (y5_1, y5_2)
    refine WX.block ?_
    refine WC.frz 13 (st' := ⟨[(2, .p (slV (eI .u8) a2)), (3, .ptr 3 0), (4, .ptr 4 0), (6, .ptr 6 0), (7, .p (i6 (0)))], [(3, .box 28 [.p (sC t2_2.Classes), .p (i6 (t2_2.First.N)), .p (sW t2_2.First.Words), .p (i6 (t2_2.Last.N)), .p (sW t2_2.Last.Words), .p (sB t2_2.Follow), .p (bo (t2_2.Null))]), (4, .box 25 [.p (i6 (t3_4.N)), .p (sW t3_4.Words)]), (6, .box 25 [.p (i6 (0)), .p (.sl .nil 0 [])])], ⟨[], false⟩, []⟩) (by kernel_rfl) ?_
    refine WC.loop (V := Int × Int × List Int) (riddleref11_Run_l0 a2 t2_2 J5) r (fun v17 => ⟨[(2, .p (slV (eI .u8) a2)), (3, .ptr 3 0), (4, .ptr 4 0), (6, .ptr 6 0), (7, .p (i6 (v17.1)))], [(3, .box 28 [.p (sC t2_2.Classes), .p (i6 (t2_2.First.N)), .p (sW t2_2.First.Words), .p (i6 (t2_2.Last.N)), .p (sW t2_2.Last.Words), .p (sB t2_2.Follow), .p (bo (t2_2.Null))]), (4, .box 25 [.p (i6 (v17.2.1)), .p (sW v17.2.2)]), (6, .box 25 [.p (i6 (0)), .p (.sl .nil 0 [])])], ⟨[], false⟩, []⟩) _ (0, t3_4.N, t3_4.Words) h (fun _ => rfl) [2, 3, 4, 6, 7] [3, 4, 6] (by kernel_rfl) ?_
    clear h; rintro k ⟨x17_1_1, x17_1_2, x17_1_3⟩ h K17 hnext17 hexit17
    rw [riddleref11_Run_l0] at h
    refine WX.seq ?_
    refine WX.seq ?_
    refine WC.reg (n := 28) hn [] [2, 3, 4, 6, 7, 17] [3, 4, 6] ⟨[(2, .p (slV (eI .u8) a2)), (3, .ptr 3 0), (4, .ptr 4 0), (6, .ptr 6 0), (7, .p (i6 (x17_1_1))), (17, .p (bo (((decide (x17_1_1 < (a2.length : Int)))))))], [(3, .box 28 [.p (sC t2_2.Classes), .p (i6 (t2_2.First.N)), .p (sW t2_2.First.Words), .p (i6 (t2_2.Last.N)), .p (sW t2_2.Last.Words), .p (sB t2_2.Follow), .p (bo (t2_2.Null))]), (4, .box 25 [.p (i6 (x17_1_2)), .p (sW x17_1_3)]), (6, .box 25 [.p (i6 (0)), .p (.sl .nil 0 [])])], ⟨[], false⟩, []⟩ trivial (by kernel_rfl) ?_
    rcases if_or h with ⟨c28, h⟩ | ⟨c28, h⟩
    · refine WC.condT c28 (by kernel_rfl) ?_
      refine WX.skip ?_
      refine WX.seq ?_
      refine WX.block ?_
      obtain ⟨t29_2, h29_1, h⟩ := bind_some h
      obtain ⟨t29_4, h29_3, h⟩ := bind_some h
      refine WC.drw (n := 28) hn [(7, [])] [] [(4, .val (.p (.rop ((eI .u8).cells t29_2 ++ encL (eI .u8) (a2.drop (x17_1_1.toNat + 1)))))), (6, .resP (.agg [i6 (t29_4.N), sW t29_4.Words]))] [2, 3, 4, 6, 7] [3, 4, 6] ⟨[(2, .p (slV (eI .u8) a2)), (3, .ptr 3 0), (4, .ptr 4 0), (6, .ptr 6 0), (7, .p (i6 (x17_1_1)))], [(3, .box 28 [.p (sC t2_2.Classes), .p (i6 (t2_2.First.N)), .p (sW t2_2.First.Words), .p (i6 (t2_2.Last.N)), .p (sW t2_2.Last.Words), .p (sB t2_2.Follow), .p (bo (t2_2.Null))]), (4, .box 25 [.p (i6 (t29_4.N)), .p (sW t29_4.Words)]), (6, .box 25 [.p (i6 (0)), .p (.sl .nil 0 [])])], ⟨[], false⟩, []⟩ (And.intro (Ix (eI .u8) h29_1) (And.intro ((riddleref11_Next_okP h29_3)) (trivial))) (by kernel_rfl) (by kernel_rfl) (by kernel_rfl) (by kernel_rfl) ?_
      refine WX.popBlk ?_
      refine WC.reg (n := 28) hn [] [2, 3, 4, 6, 7] [3, 4, 6] ⟨[(2, .p (slV (eI .u8) a2)), (3, .ptr 3 0), (4, .ptr 4 0), (6, .ptr 6 0), (7, .p (i6 (((IntKind.i64.wrap (x17_1_1 + 1))))))], [(3, .box 28 [.p (sC t2_2.Classes), .p (i6 (t2_2.First.N)), .p (sW t2_2.First.Words), .p (i6 (t2_2.Last.N)), .p (sW t2_2.Last.Words), .p (sB t2_2.Follow), .p (bo (t2_2.Null))]), (4, .box 25 [.p (i6 (t29_4.N)), .p (sW t29_4.Words)]), (6, .box 25 [.p (i6 (0)), .p (.sl .nil 0 [])])], ⟨[], false⟩, []⟩ trivial (by kernel_rfl) ?_
      exact WC.next [2, 3, 4, 6, 7] [3, 4, 6] (by kernel_rfl) (hnext17 ((IntKind.i64.wrap (x17_1_1 + 1)), t29_4.N, t29_4.Words) h)
    · refine WC.condF c28 (by kernel_rfl) ?_
      refine WX.exit ?_
      refine WX.popCodeExit ?_
      refine WC.exit_nil (hexit17 _ _ (by simp) ?_)
      refine WX.popBlkHit ?_
      exact WC.keep [4, 6] [4, 6] (by kernel_rfl) (hJ5 x17_1_2 x17_1_3 h)
def nfa_Accepts (k : Nat) (a0 : api_Nfa) (a1 : api_Bits) : Option (Bool) :=
  (nfa_may k a0).bind fun t2_2 => (nfa_state k t2_2 a1).bind fun t3_2 => (bits_Meet k t3_2 t2_2.Last).bind fun t3_4 => some t3_4
theorem nfa_Accepts_ok {k : Nat} {a0 : api_Nfa} {a1 : api_Bits} {r : Bool} (h : nfa_Accepts k a0 a1 = some r) : Ans Tryd.prog 27 [.agg [sC a0.Classes, i6 (a0.First.N), sW a0.First.Words, i6 (a0.Last.N), sW a0.Last.Words, sB a0.Follow, bo (a0.Null)], .agg [i6 (a1.N), sW a1.Words]] (bo (r)) := by
  refine W_fn Tryd.func27 rfl (by kernel_rfl) (by kernel_rfl) ?_
  intro X hro hn
  unfold nfa_Accepts at h
  refine WX.seq ?_
  refine WC.reg (n := 13) hn [] [2, 3] [2, 3] ⟨[(2, .ptr 2 0), (3, .ptr 3 0)], [(2, .box 28 [.p (sC a0.Classes), .p (i6 (a0.First.N)), .p (sW a0.First.Words), .p (i6 (a0.Last.N)), .p (sW a0.Last.Words), .p (sB a0.Follow), .p (bo (a0.Null))]), (3, .box 25 [.p (i6 (a1.N)), .p (sW a1.Words)])], ⟨[], false⟩, []⟩ trivial (by kernel_rfl) ?_
  refine WX.seq ?_
  obtain ⟨t2_2, h2_1, h⟩ := bind_some h
  refine WC.reg (n := 13) hn [(1, .resP (.agg [sC t2_2.Classes, i6 (t2_2.First.N), sW t2_2.First.Words, i6 (t2_2.Last.N), sW t2_2.Last.Words, sB t2_2.Follow, bo (t2_2.Null)]))] [2, 3] [2, 3] ⟨[(2, .ptr 2 0), (3, .ptr 3 0)], [(2, .box 28 [.p (sC t2_2.Classes), .p (i6 (t2_2.First.N)), .p (sW t2_2.First.Words), .p (i6 (t2_2.Last.N)), .p (sW t2_2.Last.Words), .p (sB t2_2.Follow), .p (bo (t2_2.Null))]), (3, .box 25 [.p (i6 (a1.N)), .p (sW a1.Words)])], ⟨[], false⟩, []⟩ (And.intro ((nfa_may_ok h2_1)) (trivial)) (by kernel_rfl) ?_
  refine WX.seq ?_
  obtain ⟨t3_2, h3_1, h⟩ := bind_some h
  obtain ⟨t3_4, h3_3, h⟩ := bind_some h
  refine WC.drw (n := 13) hn [] [] [(2, .resP (.agg [i6 (t3_2.N), sW t3_2.Words])), (5, .resP (bo (t3_4)))] [4] [] ⟨[(4, .p (bo (t3_4)))], [], ⟨[], false⟩, []⟩ (And.intro ((nfa_state_ok h3_1)) (And.intro ((bits_Meet_ok h3_3)) (trivial))) (by kernel_rfl) (by kernel_rfl) (by kernel_rfl) (by kernel_rfl) ?_
  refine WX.ret ?_
  exact WC.outP (by rw [← Option.some.inj h]; kernel_rfl)
def riddleref11_Dead (k : Nat) (a0 : api_Nfa) (a1 : api_Bits) : Option (Bool) :=
  (riddleref11_may k a0).bind fun t2_2 => (riddleref11_state k t2_2 a1).bind fun t3_2 => (riddleref01_List k t3_2).bind fun t3_4 => some (((t3_4.length : Int) == 0))
theorem riddleref11_Dead_ok {k : Nat} {a0 : api_Nfa} {a1 : api_Bits} {r : Bool} (h : riddleref11_Dead k a0 a1 = some r) : Ans Tryd.prog 29 [.agg [sC a0.Classes, i6 (a0.First.N), sW a0.First.Words, i6 (a0.Last.N), sW a0.Last.Words, sB a0.Follow, bo (a0.Null)], .agg [i6 (a1.N), sW a1.Words]] (bo (r)) := by
  refine W_fn Tryd.func29 rfl (by kernel_rfl) (by kernel_rfl) ?_
  intro X hro hn
  unfold riddleref11_Dead at h
  refine WX.seq ?_
  refine WC.reg (n := 13) hn [] [2, 3] [2, 3] ⟨[(2, .ptr 2 0), (3, .ptr 3 0)], [(2, .box 28 [.p (sC a0.Classes), .p (i6 (a0.First.N)), .p (sW a0.First.Words), .p (i6 (a0.Last.N)), .p (sW a0.Last.Words), .p (sB a0.Follow), .p (bo (a0.Null))]), (3, .box 25 [.p (i6 (a1.N)), .p (sW a1.Words)])], ⟨[], false⟩, []⟩ trivial (by kernel_rfl) ?_
  refine WX.seq ?_
  obtain ⟨t2_2, h2_1, h⟩ := bind_some h
  refine WC.reg (n := 13) hn [(1, .resP (.agg [sC t2_2.Classes, i6 (t2_2.First.N), sW t2_2.First.Words, i6 (t2_2.Last.N), sW t2_2.Last.Words, sB t2_2.Follow, bo (t2_2.Null)]))] [2, 3] [2, 3] ⟨[(2, .ptr 2 0), (3, .ptr 3 0)], [(2, .box 28 [.p (sC t2_2.Classes), .p (i6 (t2_2.First.N)), .p (sW t2_2.First.Words), .p (i6 (t2_2.Last.N)), .p (sW t2_2.Last.Words), .p (sB t2_2.Follow), .p (bo (t2_2.Null))]), (3, .box 25 [.p (i6 (a1.N)), .p (sW a1.Words)])], ⟨[], false⟩, []⟩ (And.intro ((riddleref11_may_ok h2_1)) (trivial)) (by kernel_rfl) ?_
  refine WX.seq ?_
  obtain ⟨t3_2, h3_1, h⟩ := bind_some h
  obtain ⟨t3_4, h3_3, h⟩ := bind_some h
  refine WC.reg (n := 13) hn [(2, .resP (.agg [i6 (t3_2.N), sW t3_2.Words])), (3, .co [] [] [] [(10, rowV 3 (eI .i64) t3_4)] (.own 10))] [4] [] ⟨[(4, .p (bo ((((t3_4.length : Int) == 0)))))], [], ⟨[], false⟩, []⟩ (And.intro ((riddleref11_state_ok h3_1)) (And.intro (And.intro ((riddleref01_List_ok h3_3).ren 18 10 (by kernel_rfl)) (trivial)) (trivial))) (by kernel_rfl) ?_
  refine WX.ret ?_
  exact WC.outP (by rw [← Option.some.inj h]; kernel_rfl)
def riddlelaw11_NfaSteps (k : Nat) (a0 : riddlelaw11_Case) : Option (Bool) :=
  (riddlelaw11_live k).bind fun t2_2 => (if (!t2_2) = true then some false else (riddlelaw11_short a0.W).bind fun t5_2 => jn (fun (v8 : Int) => (riddleref01_Copy k a0.State).bind fun t11_2 => (nfa_None k a0.Nfa).bind fun t12_2 => (riddleref11_None k a0.Nfa).bind fun t12_4 => (riddleref01_Exact k t12_2 t12_4).bind fun t12_6 => ((if (!t12_6) = true then some true else (nfa_Next k a0.Nfa a0.State a0.Begin v8).bind fun t12_8 => (riddleref11_Next k a0.Nfa a0.State a0.Begin v8).bind fun t12_10 => (riddleref01_Exact k t12_8 t12_10).bind fun t12_12 => (if (!t12_12) = true then some true else (nfa_Run k a0.Nfa a0.State t5_2).bind fun t12_14 => (riddleref11_Run k a0.Nfa a0.State t5_2).bind fun t12_16 => (riddleref01_Exact k t12_14 t12_16).bind fun t12_18 => some ((!t12_18)))) : Option (Bool)).bind fun v12 => (if v12 = true then some false else (nfa_Accepts k a0.Nfa a0.State).bind fun t15_2 => (riddleref11_Accepts k a0.Nfa a0.State).bind fun t15_4 => ((if (t15_2 == t15_4) = true then (nfa_Dead k a0.Nfa a0.State).bind fun t15_6 => (riddleref11_Dead k a0.Nfa a0.State).bind fun t15_8 => (if (t15_6 == t15_8) = true then (riddleref01_Copy k a0.State).bind fun t15_10 => (riddleref01_Exact k t11_2 t15_10).bind fun t15_12 => some t15_12 else some false) else some false) : Option (Bool)).bind fun v15 => some v15)) fun J8 => (if (decide ((t5_2.length : Int) > 0)) = true then (at_ t5_2 0).bind fun t17_2 => J8 t17_2 else J8 0))
theorem riddlelaw11_NfaSteps_ok {k : Nat} {a0 : riddlelaw11_Case} {r : Bool} (h : riddlelaw11_NfaSteps k a0 = some r) : Ans Tryd.prog 6 [.agg [sC a0.Nfa.Classes, i6 (a0.Nfa.First.N), sW a0.Nfa.First.Words, i6 (a0.Nfa.Last.N), sW a0.Nfa.Last.Words, sB a0.Nfa.Follow, bo (a0.Nfa.Null), i6 (a0.State.N), sW a0.State.Words, bo (a0.Begin), slV (eI .u8) a0.W, i6 (a0.From), bo (a0.Hat), bo (a0.Multi)]] (bo (r)) := by
  refine W_fn Tryd.func6 rfl (by kernel_rfl) (by kernel_rfl) ?_
  intro X hro hn
  unfold riddlelaw11_NfaSteps at h
  refine WX.seq ?_
  refine WC.reg (n := 95) hn [] [1] [1] ⟨[(1, .ptr 1 0)], [(1, .box 31 [.p (sC a0.Nfa.Classes), .p (i6 (a0.Nfa.First.N)), .p (sW a0.Nfa.First.Words), .p (i6 (a0.Nfa.Last.N)), .p (sW a0.Nfa.Last.Words), .p (sB a0.Nfa.Follow), .p (bo (a0.Nfa.Null)), .p (i6 (a0.State.N)), .p (sW a0.State.Words), .p (bo (a0.Begin)), .p (slV (eI .u8) a0.W), .p (i6 (a0.From)), .p (bo (a0.Hat)), .p (bo (a0.Multi))])], ⟨[], false⟩, []⟩ trivial (by kernel_rfl) ?_
  refine WX.seq ?_
  refine WX.seq ?_
  obtain ⟨t2_2, h2_1, h⟩ := bind_some h
  refine WC.reg (n := 95) hn [(0, .resP (bo (t2_2)))] [1, 7] [1] ⟨[(1, .ptr 1 0), (7, .p (bo (((!t2_2)))))], [(1, .box 31 [.p (sC a0.Nfa.Classes), .p (i6 (a0.Nfa.First.N)), .p (sW a0.Nfa.First.Words), .p (i6 (a0.Nfa.Last.N)), .p (sW a0.Nfa.Last.Words), .p (sB a0.Nfa.Follow), .p (bo (a0.Nfa.Null)), .p (i6 (a0.State.N)), .p (sW a0.State.Words), .p (bo (a0.Begin)), .p (slV (eI .u8) a0.W), .p (i6 (a0.From)), .p (bo (a0.Hat)), .p (bo (a0.Multi))])], ⟨[], false⟩, []⟩ (And.intro ((riddlelaw11_live_ok h2_1)) (trivial)) (by kernel_rfl) ?_
  rcases if_or h with ⟨c3, h⟩ | ⟨c3, h⟩
  · refine WC.condT c3 (by kernel_rfl) ?_
    refine WX.seq ?_
    refine WC.reg (n := 95) hn [] [2] [] ⟨[(2, .p (bo (false)))], [], ⟨[], false⟩, []⟩ trivial (by kernel_rfl) ?_
    refine WX.ret ?_
    exact WC.outP (by rw [← Option.some.inj h]; kernel_rfl)
  · refine WC.condF c3 (by kernel_rfl) ?_
    refine WX.skip ?_
    refine WX.seq ?_
    obtain ⟨t5_2, h5_1, h⟩ := bind_some h
    refine WC.reg (n := 95) hn [(2, .resP (slV (eI .u8) t5_2))] [1, 3] [1] ⟨[(1, .ptr 1 0), (3, .p (slV (eI .u8) t5_2))], [(1, .box 31 [.p (sC a0.Nfa.Classes), .p (i6 (a0.Nfa.First.N)), .p (sW a0.Nfa.First.Words), .p (i6 (a0.Nfa.Last.N)), .p (sW a0.Nfa.Last.Words), .p (sB a0.Nfa.Follow), .p (bo (a0.Nfa.Null)), .p (i6 (a0.State.N)), .p (sW a0.State.Words), .p (bo (a0.Begin)), .p (slV (eI .u8) a0.W), .p (i6 (a0.From)), .p (bo (a0.Hat)), .p (bo (a0.Multi))])], ⟨[], false⟩, []⟩ (And.intro ((riddlelaw11_short_ok h5_1)) (trivial)) (by kernel_rfl) ?_
    refine WX.seq ?_
    refine WC.reg (n := 95) hn [] [1, 3, 4] [1] ⟨[(1, .ptr 1 0), (3, .p (slV (eI .u8) t5_2)), (4, .p (.s (.int .u8 0)))], [(1, .box 31 [.p (sC a0.Nfa.Classes), .p (i6 (a0.Nfa.First.N)), .p (sW a0.Nfa.First.Words), .p (i6 (a0.Nfa.Last.N)), .p (sW a0.Nfa.Last.Words), .p (sB a0.Nfa.Follow), .p (bo (a0.Nfa.Null)), .p (i6 (a0.State.N)), .p (sW a0.State.Words), .p (bo (a0.Begin)), .p (slV (eI .u8) a0.W), .p (i6 (a0.From)), .p (bo (a0.Hat)), .p (bo (a0.Multi))])], ⟨[], false⟩, []⟩ trivial (by kernel_rfl) ?_
    refine WX.seq ?_
    refine WX.seq ?_
    refine WC.reg (n := 95) hn [] [1, 3, 4, 13] [1] ⟨[(1, .ptr 1 0), (3, .p (slV (eI .u8) t5_2)), (4, .p (.s (.int .u8 0))), (13, .p (bo (((decide ((t5_2.length : Int) > 0))))))], [(1, .box 31 [.p (sC a0.Nfa.Classes), .p (i6 (a0.Nfa.First.N)), .p (sW a0.Nfa.First.Words), .p (i6 (a0.Nfa.Last.N)), .p (sW a0.Nfa.Last.Words), .p (sB a0.Nfa.Follow), .p (bo (a0.Nfa.Null)), .p (i6 (a0.State.N)), .p (sW a0.State.Words), .p (bo (a0.Begin)), .p (slV (eI .u8) a0.W), .p (i6 (a0.From)), .p (bo (a0.Hat)), .p (bo (a0.Multi))])], ⟨[], false⟩, []⟩ trivial (by kernel_rfl) ?_
    obtain ⟨J8, eJ8, h⟩ := jn_some h
    try dsimp only at h
    refine WC.join (α := Int) (fun v8 => ⟨[(1, .ptr 1 0), (3, .p (slV (eI .u8) t5_2)), (4, .p (.s (.int .u8 v8)))], [(1, .box 31 [.p (sC a0.Nfa.Classes), .p (i6 (a0.Nfa.First.N)), .p (sW a0.Nfa.First.Words), .p (i6 (a0.Nfa.Last.N)), .p (sW a0.Nfa.Last.Words), .p (sB a0.Nfa.Follow), .p (bo (a0.Nfa.Null)), .p (i6 (a0.State.N)), .p (sW a0.State.Words), .p (bo (a0.Begin)), .p (slV (eI .u8) a0.W), .p (i6 (a0.From)), .p (bo (a0.Hat)), .p (bo (a0.Multi))])], ⟨[], false⟩, []⟩) (fun v8 => J8 v8 = some r) ?_ (fun hJ8 => ?_)
    · rintro y8_1 h
      rw [eJ8] at h
      try dsimp only at h
      refine WX.seq ?_
      obtain ⟨t11_2, h11_1, h⟩ := bind_some h
      refine WC.reg (n := 95) hn [(2, .co [] [] [] [(19, rowV 69 (eI .u64) t11_2.Words)] (.agg [.p (i6 (t11_2.N)), .own 19]))] [1, 3, 4, 5] [1, 5, 19] ⟨[(1, .ptr 1 0), (3, .p (slV (eI .u8) t5_2)), (4, .p (.s (.int .u8 y8_1))), (5, .ptr 5 0)], [(1, .box 31 [.p (sC a0.Nfa.Classes), .p (i6 (a0.Nfa.First.N)), .p (sW a0.Nfa.First.Words), .p (i6 (a0.Nfa.Last.N)), .p (sW a0.Nfa.Last.Words), .p (sB a0.Nfa.Follow), .p (bo (a0.Nfa.Null)), .p (i6 (a0.State.N)), .p (sW a0.State.Words), .p (bo (a0.Begin)), .p (slV (eI .u8) a0.W), .p (i6 (a0.From)), .p (bo (a0.Hat)), .p (bo (a0.Multi))]), (5, .box 25 [.p (i6 (t11_2.N)), .own 19]), (19, rowV 69 (eI .u64) t11_2.Words)], ⟨[], false⟩, []⟩ (And.intro (And.intro ((riddleref01_Copy_ok h11_1).ren 11 19 (by kernel_rfl)) (trivial)) (trivial)) (by kernel_rfl) ?_
      refine WX.seq ?_
      refine WX.seq ?_
      obtain ⟨t12_2, h12_1, h⟩ := bind_some h
      obtain ⟨t12_4, h12_3, h⟩ := bind_some h
      obtain ⟨t12_6, h12_5, h⟩ := bind_some h
      obtain ⟨m12_1, g12, h⟩ := bind_some h
      refine WC.via (α := Bool) (fun v12 => ⟨[(1, .ptr 1 0), (5, .ptr 5 0), (63, .p (bo (v12)))], [(1, .box 31 [.p (sC a0.Nfa.Classes), .p (i6 (a0.Nfa.First.N)), .p (sW a0.Nfa.First.Words), .p (i6 (a0.Nfa.Last.N)), .p (sW a0.Nfa.Last.Words), .p (sB a0.Nfa.Follow), .p (bo (a0.Nfa.Null)), .p (i6 (a0.State.N)), .p (sW a0.State.Words), .p (bo (a0.Begin)), .p (slV (eI .u8) a0.W), .p (i6 (a0.From)), .p (bo (a0.Hat)), .p (bo (a0.Multi))]), (5, .box 25 [.p (i6 (t11_2.N)), .own 19]), (19, rowV 69 (eI .u64) t11_2.Words)], ⟨[], false⟩, []⟩) m12_1 (fun hk => ?_) ?_
      · rcases if_or g12 with ⟨b12_8, g12⟩ | ⟨b12_8, g12⟩
        · exact WC.drw (n := 95) hn [] [] [(2, .resP (.agg [i6 (t12_2.N), sW t12_2.Words])), (5, .resP (.agg [i6 (t12_4.N), sW t12_4.Words])), (6, .resP (bo (t12_6))), (8, .val (.p (bo (true))))] [1, 5, 63] [1, 5, 19] ⟨[(1, .ptr 1 0), (5, .ptr 5 0), (63, .p (bo (true)))], [(1, .box 31 [.p (sC a0.Nfa.Classes), .p (i6 (a0.Nfa.First.N)), .p (sW a0.Nfa.First.Words), .p (i6 (a0.Nfa.Last.N)), .p (sW a0.Nfa.Last.Words), .p (sB a0.Nfa.Follow), .p (bo (a0.Nfa.Null)), .p (i6 (a0.State.N)), .p (sW a0.State.Words), .p (bo (a0.Begin)), .p (slV (eI .u8) a0.W), .p (i6 (a0.From)), .p (bo (a0.Hat)), .p (bo (a0.Multi))]), (5, .box 25 [.p (i6 (t11_2.N)), .own 19]), (19, rowV 69 (eI .u64) t11_2.Words)], ⟨[], false⟩, []⟩ (And.intro ((nfa_None_okP h12_1)) (And.intro ((riddleref11_None_okP h12_3)) (And.intro ((riddleref01_Exact_ok h12_5)) (And.intro (Bl b12_8) (trivial))))) (by kernel_rfl) (by kernel_rfl) (by kernel_rfl) (by kernel_rfl) (hk true (Option.some.inj g12))
        · obtain ⟨t12_8, h12_7, g12⟩ := bind_some g12
          obtain ⟨t12_10, h12_9, g12⟩ := bind_some g12
          obtain ⟨t12_12, h12_11, g12⟩ := bind_some g12
          rcases if_or g12 with ⟨b12_28, g12⟩ | ⟨b12_28, g12⟩
          · exact WC.drw (n := 95) hn [] [] [(2, .resP (.agg [i6 (t12_2.N), sW t12_2.Words])), (5, .resP (.agg [i6 (t12_4.N), sW t12_4.Words])), (6, .resP (bo (t12_6))), (8, .val (.p (bo (false)))), (16, .resP (.agg [i6 (t12_8.N), sW t12_8.Words])), (24, .resP (.agg [i6 (t12_10.N), sW t12_10.Words])), (25, .resP (bo (t12_12))), (28, .val (.p (bo (true))))] [1, 5, 63] [1, 5, 19] ⟨[(1, .ptr 1 0), (5, .ptr 5 0), (63, .p (bo (true)))], [(1, .box 31 [.p (sC a0.Nfa.Classes), .p (i6 (a0.Nfa.First.N)), .p (sW a0.Nfa.First.Words), .p (i6 (a0.Nfa.Last.N)), .p (sW a0.Nfa.Last.Words), .p (sB a0.Nfa.Follow), .p (bo (a0.Nfa.Null)), .p (i6 (a0.State.N)), .p (sW a0.State.Words), .p (bo (a0.Begin)), .p (slV (eI .u8) a0.W), .p (i6 (a0.From)), .p (bo (a0.Hat)), .p (bo (a0.Multi))]), (5, .box 25 [.p (i6 (t11_2.N)), .own 19]), (19, rowV 69 (eI .u64) t11_2.Words)], ⟨[], false⟩, []⟩ (And.intro ((nfa_None_okP h12_1)) (And.intro ((riddleref11_None_okP h12_3)) (And.intro ((riddleref01_Exact_ok h12_5)) (And.intro (Bl b12_8) (And.intro ((nfa_Next_ok h12_7)) (And.intro ((riddleref11_Next_okP h12_9)) (And.intro ((riddleref01_Exact_ok h12_11)) (And.intro (Bl b12_28) (trivial))))))))) (by kernel_rfl) (by kernel_rfl) (by kernel_rfl) (by kernel_rfl) (hk true (Option.some.inj g12))
          · obtain ⟨t12_14, h12_13, g12⟩ := bind_some g12
            obtain ⟨t12_16, h12_15, g12⟩ := bind_some g12
            obtain ⟨t12_18, h12_17, g12⟩ := bind_some g12
            exact WC.drw (n := 95) hn [] [] [(2, .resP (.agg [i6 (t12_2.N), sW t12_2.Words])), (5, .resP (.agg [i6 (t12_4.N), sW t12_4.Words])), (6, .resP (bo (t12_6))), (8, .val (.p (bo (false)))), (16, .resP (.agg [i6 (t12_8.N), sW t12_8.Words])), (24, .resP (.agg [i6 (t12_10.N), sW t12_10.Words])), (25, .resP (bo (t12_12))), (28, .val (.p (bo (false)))), (34, .resP (.agg [i6 (t12_14.N), sW t12_14.Words])), (40, .resP (.agg [i6 (t12_16.N), sW t12_16.Words])), (41, .resP (bo (t12_18)))] [1, 5, 63] [1, 5, 19] ⟨[(1, .ptr 1 0), (5, .ptr 5 0), (63, .p (bo (((!t12_18)))))], [(1, .box 31 [.p (sC a0.Nfa.Classes), .p (i6 (a0.Nfa.First.N)), .p (sW a0.Nfa.First.Words), .p (i6 (a0.Nfa.Last.N)), .p (sW a0.Nfa.Last.Words), .p (sB a0.Nfa.Follow), .p (bo (a0.Nfa.Null)), .p (i6 (a0.State.N)), .p (sW a0.State.Words), .p (bo (a0.Begin)), .p (slV (eI .u8) a0.W), .p (i6 (a0.From)), .p (bo (a0.Hat)), .p (bo (a0.Multi))]), (5, .box 25 [.p (i6 (t11_2.N)), .own 19]), (19, rowV 69 (eI .u64) t11_2.Words)], ⟨[], false⟩, []⟩ (And.intro ((nfa_None_okP h12_1)) (And.intro ((riddleref11_None_okP h12_3)) (And.intro ((riddleref01_Exact_ok h12_5)) (And.intro (Bl b12_8) (And.intro ((nfa_Next_ok h12_7)) (And.intro ((riddleref11_Next_okP h12_9)) (And.intro ((riddleref01_Exact_ok h12_11)) (And.intro (Bl b12_28) (And.intro ((nfa_Run_ok h12_13)) (And.intro ((riddleref11_Run_ok h12_15)) (And.intro ((riddleref01_Exact_ok h12_17)) (trivial)))))))))))) (by kernel_rfl) (by kernel_rfl) (by kernel_rfl) (by kernel_rfl) (hk ((!t12_18)) (Option.some.inj g12))
      rcases if_or h with ⟨c13, h⟩ | ⟨c13, h⟩
      · refine WC.condT c13 (by kernel_rfl) ?_
        refine WX.seq ?_
        refine WC.reg (n := 95) hn [] [2] [] ⟨[(2, .p (bo (false)))], [], ⟨[], false⟩, []⟩ trivial (by kernel_rfl) ?_
        refine WX.ret ?_
        exact WC.outP (by rw [← Option.some.inj h]; kernel_rfl)
      · refine WC.condF c13 (by kernel_rfl) ?_
        refine WX.skip ?_
        refine WX.seq ?_
        obtain ⟨t15_2, h15_1, h⟩ := bind_some h
        obtain ⟨t15_4, h15_3, h⟩ := bind_some h
        obtain ⟨m15_1, g15, h⟩ := bind_some h
        refine WC.via (α := Bool) (fun v15 => ⟨[(2, .p (bo (v15)))], [], ⟨[], false⟩, []⟩) m15_1 (fun hk => ?_) ?_
        · rcases if_or g15 with ⟨b15_11, g15⟩ | ⟨b15_11, g15⟩
          · obtain ⟨t15_6, h15_5, g15⟩ := bind_some g15
            obtain ⟨t15_8, h15_7, g15⟩ := bind_some g15
            rcases if_or g15 with ⟨b15_24, g15⟩ | ⟨b15_24, g15⟩
            · obtain ⟨t15_10, h15_9, g15⟩ := bind_some g15
              obtain ⟨t15_12, h15_11, g15⟩ := bind_some g15
              exact WC.drw (n := 95) hn [] [] [(4, .resP (bo (t15_2))), (9, .resP (bo (t15_4))), (11, .val (.p (bo (true)))), (16, .resP (bo (t15_6))), (21, .resP (bo (t15_8))), (24, .val (.p (bo (true)))), (28, .resP (.agg [i6 (t15_10.N), sW t15_10.Words])), (29, .res (bo (t15_12)))] [2] [] ⟨[(2, .p (bo (t15_12)))], [], ⟨[], false⟩, []⟩ (And.intro ((nfa_Accepts_ok h15_1)) (And.intro ((riddleref11_Accepts_ok h15_3)) (And.intro (Bl b15_11) (And.intro ((nfa_Dead_ok h15_5)) (And.intro ((riddleref11_Dead_ok h15_7)) (And.intro (Bl b15_24) (And.intro ((riddleref01_Copy_okP h15_9)) (And.intro (And.intro (riddleref01_Exact_ok h15_11) (rfl : (bo (t15_12) : PV).flat = true)) (trivial))))))))) (by kernel_rfl) (by kernel_rfl) (by kernel_rfl) (by kernel_rfl) (hk t15_12 (Option.some.inj g15))
            · exact WC.drw (n := 95) hn [] [] [(4, .resP (bo (t15_2))), (9, .resP (bo (t15_4))), (11, .val (.p (bo (true)))), (16, .resP (bo (t15_6))), (21, .resP (bo (t15_8))), (24, .val (.p (bo (false))))] [2] [] ⟨[(2, .p (bo (false)))], [], ⟨[], false⟩, []⟩ (And.intro ((nfa_Accepts_ok h15_1)) (And.intro ((riddleref11_Accepts_ok h15_3)) (And.intro (Bl b15_11) (And.intro ((nfa_Dead_ok h15_5)) (And.intro ((riddleref11_Dead_ok h15_7)) (And.intro (Bl b15_24) (trivial))))))) (by kernel_rfl) (by kernel_rfl) (by kernel_rfl) (by kernel_rfl) (hk false (Option.some.inj g15))
          · exact WC.drw (n := 95) hn [] [] [(4, .resP (bo (t15_2))), (9, .resP (bo (t15_4))), (11, .val (.p (bo (false))))] [2] [] ⟨[(2, .p (bo (false)))], [], ⟨[], false⟩, []⟩ (And.intro ((nfa_Accepts_ok h15_1)) (And.intro ((riddleref11_Accepts_ok h15_3)) (And.intro (Bl b15_11) (trivial)))) (by kernel_rfl) (by kernel_rfl) (by kernel_rfl) (by kernel_rfl) (hk false (Option.some.inj g15))
        refine WX.ret ?_
        exact WC.outP (by rw [← Option.some.inj h]; kernel_rfl)
    · replace hJ8 := fun y8_1 => hJ8 y8_1
      rcases if_or h with ⟨c16, h⟩ | ⟨c16, h⟩
      · refine WC.condT c16 (by kernel_rfl) ?_
        obtain ⟨t17_2, h17_1, h⟩ := bind_some h
        refine WC.reg (n := 95) hn [(1, .val (.p (.rop ((eI .u8).cells t17_2 ++ encL (eI .u8) (t5_2.drop ((0 : Int).toNat + 1))))))] [1, 3, 4] [1] ⟨[(1, .ptr 1 0), (3, .p (slV (eI .u8) t5_2)), (4, .p (.s (.int .u8 t17_2)))], [(1, .box 31 [.p (sC a0.Nfa.Classes), .p (i6 (a0.Nfa.First.N)), .p (sW a0.Nfa.First.Words), .p (i6 (a0.Nfa.Last.N)), .p (sW a0.Nfa.Last.Words), .p (sB a0.Nfa.Follow), .p (bo (a0.Nfa.Null)), .p (i6 (a0.State.N)), .p (sW a0.State.Words), .p (bo (a0.Begin)), .p (slV (eI .u8) a0.W), .p (i6 (a0.From)), .p (bo (a0.Hat)), .p (bo (a0.Multi))])], ⟨[], false⟩, []⟩ (And.intro (Ix (eI .u8) h17_1) (trivial)) (by kernel_rfl) ?_
        exact WC.keep [1, 3, 4] [1] (by kernel_rfl) (hJ8 t17_2 h)
      · refine WC.condF c16 (by kernel_rfl) ?_
        refine WX.skip ?_
        exact WC.keep [1, 3, 4] [1] (by kernel_rfl) (hJ8 0 h)
end Go.Proofs.YtfejcecgnonabaaDoor
