/- YtpifpjeeijhhdaaDoorGc: a part of the proof; see the last text for what is proved. -/
import Derived.Test.YtpifpjeeijhhdaaDoorGb
import Derived.Test.YtpifpjeeijhhdaaDoorProg
import Derived.KernelRfl
set_option maxRecDepth 100000
set_option linter.unusedVariables false
set_option linter.unusedSimpArgs false
namespace Go.Proofs.YtpifpjeeijhhdaaDoor
open Go.AE
def riddleref10_Of_l0 (a0 : api_Tree) (J34 : List api_Nfa → Option (api_Nfa × Int)) : Nat → (List api_Nfa × Int) → Option (api_Nfa × Int)
  | 0, _ => none
  | k + 1, (x77_1_1, x77_1_2) => (if (decide (x77_1_2 < (a0.Nodes.length : Int))) = true then (at_ a0.Nodes x77_1_2).bind fun t120_2 => (riddleref10_Empty k).bind fun t121_2 => jn (fun (v123 : List (Arr4 Int) × Int × List Int × Int × List Int × List api_Bits × Bool) => (if okApp 120 (x77_1_1.length + ([(api_Nfa.mk v123.1 ((api_Bits.mk v123.2.1 v123.2.2.1)) ((api_Bits.mk v123.2.2.2.1 v123.2.2.2.2.1)) v123.2.2.2.2.2.1 v123.2.2.2.2.2.2)]).length) then riddleref10_Of_l0 a0 J34 k (x77_1_1 ++ ([(api_Nfa.mk v123.1 ((api_Bits.mk v123.2.1 v123.2.2.1)) ((api_Bits.mk v123.2.2.2.1 v123.2.2.2.2.1)) v123.2.2.2.2.2.1 v123.2.2.2.2.2.2)]), (IntKind.i64.wrap (x77_1_2 + 1))) else none)) fun J123 => (if (t120_2.Kind == 2) = true then (riddleref10_Leaf k t120_2.Class).bind fun t140_2 => J123 (t140_2.Classes, t140_2.First.N, t140_2.First.Words, t140_2.Last.N, t140_2.Last.Words, t140_2.Follow, t140_2.Null) else (if (t120_2.Kind == 3) = true then (at_ x77_1_1 t120_2.A).bind fun t143_2 => (at_ x77_1_1 t120_2.B).bind fun t143_4 => (riddleref10_Cat k t143_2 t143_4).bind fun t143_6 => J123 (t143_6.1.Classes, t143_6.1.First.N, t143_6.1.First.Words, t143_6.1.Last.N, t143_6.1.Last.Words, t143_6.1.Follow, t143_6.1.Null) else (if (t120_2.Kind == 4) = true then (at_ x77_1_1 t120_2.A).bind fun t146_2 => (at_ x77_1_1 t120_2.B).bind fun t146_4 => (riddleref10_Alt k t146_2 t146_4).bind fun t146_6 => J123 (t146_6.1.Classes, t146_6.1.First.N, t146_6.1.First.Words, t146_6.1.Last.N, t146_6.1.Last.Words, t146_6.1.Follow, t146_6.1.Null) else (if (t120_2.Kind == 5) = true then (at_ x77_1_1 t120_2.A).bind fun t149_2 => (riddleref10_Star k t149_2).bind fun t149_4 => J123 (t149_4.1.Classes, t149_4.1.First.N, t149_4.1.First.Words, t149_4.1.Last.N, t149_4.1.Last.Words, t149_4.1.Follow, t149_4.1.Null) else J123 (t121_2.Classes, t121_2.First.N, t121_2.First.Words, t121_2.Last.N, t121_2.Last.Words, t121_2.Follow, t121_2.Null))))) else J34 x77_1_1)
def riddleref10_Of_l1 (a0 : api_Tree) (J7 : Int → Option (api_Nfa × Int)) : Nat → (Int × Int) → Option (api_Nfa × Int)
  | 0, _ => none
  | k + 1, (x150_1_1, x150_1_2) => (if (decide (x150_1_2 < (a0.Nodes.length : Int))) = true then (at_ a0.Nodes x150_1_2).bind fun t173_2 => (if (((t173_2.Kind == 6)) || ((t173_2.Kind == 7))) = true then some ((api_Nfa.mk ([]) ((api_Bits.mk 0 ([]))) ((api_Bits.mk 0 ([]))) ([]) false), 1) else (at_ a0.Nodes x150_1_2).bind fun t176_2 => (if (t176_2.Kind == 2) = true then riddleref10_Of_l1 a0 J7 k ((IntKind.i64.wrap (x150_1_1 + 1)), (IntKind.i64.wrap (x150_1_2 + 1))) else riddleref10_Of_l1 a0 J7 k (x150_1_1, (IntKind.i64.wrap (x150_1_2 + 1))))) else J7 x150_1_1)
def riddleref10_Of (k : Nat) (a0 : api_Tree) : Option (api_Nfa × Int) :=
  (riddleref09_Is k a0).bind fun t2_2 => (if (!t2_2) = true then some ((api_Nfa.mk ([]) ((api_Bits.mk 0 ([]))) ((api_Bits.mk 0 ([]))) ([]) false), 1) else jn (fun (v7 : Int) => (if (decide (v7 > 512)) = true then some ((api_Nfa.mk ([]) ((api_Bits.mk 0 ([]))) ((api_Bits.mk 0 ([]))) ([]) false), 90) else jn (fun (v34 : List api_Nfa) => (at_ v34 ((IntKind.i64.wrap ((v34.length : Int) - 1)))).bind fun t76_2 => some (t76_2, 0)) fun J34 => riddleref10_Of_l0 a0 J34 k (([] : List api_Nfa), 0))) fun J7 => riddleref10_Of_l1 a0 J7 k (0, 0))
theorem riddleref10_Of_ok {k : Nat} {a0 : api_Tree} {r : api_Nfa × Int} (h : riddleref10_Of k a0 = some r) : Ans Tryd.prog 13 [pP7 a0] (.tup [pP2 r.1, i6 (r.2)]) := by
  refine W_fn Tryd.func13 rfl (by kernel_rfl) (by kernel_rfl) ?_
  intro X hro hn
  unfold riddleref10_Of at h
  refine WC.rg hn [] [1, 2] [1, 2] ⟨[(1, .ptr 1 0), (2, .ptr 2 0)], [(1, .box 45 (vV7 a0)), (2, .box 28 [.p (.sl .nil 0 []), .p (i6 (0)), .p (.sl .nil 0 []), .p (i6 (0)), .p (.sl .nil 0 []), .p (.sl .nil 0 []), .p (bo (false))])], L0, []⟩ trivial ?_
  refine WX.seq ?_
  refine WX.seq ?_
  obtain ⟨t2_2, h2_1, h⟩ := bind_some h
  refine WC.r1 hn [(1, .resP (bo (t2_2)))] [1, 2, 12] [1, 2] ⟨[(1, .ptr 1 0), (2, .ptr 2 0), (12, .p (bo (((!t2_2)))))], [(1, .box 45 (vV7 a0)), (2, .box 28 [.p (.sl .nil 0 []), .p (i6 (0)), .p (.sl .nil 0 []), .p (i6 (0)), .p (.sl .nil 0 []), .p (.sl .nil 0 []), .p (bo (false))])], L0, []⟩ (And.intro ((riddleref09_Is_ok h2_1)) (trivial)) ?_
  rcases if_or h with ⟨c3, h⟩ | ⟨c3, h⟩
  · refine WC.condT c3 (by kernel_rfl) ?_
    refine WC.rg hn [] [2, 3] [2] ⟨[(2, .ptr 2 0), (3, .p (i6 (1)))], [(2, .box 28 [.p (.sl .nil 0 []), .p (i6 (0)), .p (.sl .nil 0 []), .p (i6 (0)), .p (.sl .nil 0 []), .p (.sl .nil 0 []), .p (bo (false))])], L0, []⟩ trivial ?_
    refine WX.ret ?_
    exact WC.outP (by rw [← Option.some.inj h]; kernel_rfl)
  · refine WC.condF c3 (by kernel_rfl) ?_
    refine WX.skip ?_
    refine WC.rg hn [] [1, 2, 4] [1, 2] ⟨[(1, .ptr 1 0), (2, .ptr 2 0), (4, .p (i6 (0)))], [(1, .box 45 (vV7 a0)), (2, .box 28 [.p (.sl .nil 0 []), .p (i6 (0)), .p (.sl .nil 0 []), .p (i6 (0)), .p (.sl .nil 0 []), .p (.sl .nil 0 []), .p (bo (false))])], L0, []⟩ trivial ?_
    refine WX.seq ?_
    refine WC.rg hn [] [1, 2, 4, 5] [1, 2] ⟨[(1, .ptr 1 0), (2, .ptr 2 0), (4, .p (i6 (0))), (5, .p (i6 (0)))], [(1, .box 45 (vV7 a0)), (2, .box 28 [.p (.sl .nil 0 []), .p (i6 (0)), .p (.sl .nil 0 []), .p (i6 (0)), .p (.sl .nil 0 []), .p (.sl .nil 0 []), .p (bo (false))])], L0, []⟩ trivial ?_
    obtain ⟨J7, eJ7, h⟩ := jn_some h
    try dsimp only at h
    refine WC.join (α := Int) (fun v7 => ⟨[(1, .ptr 1 0), (2, .ptr 2 0), (4, .p (i6 (v7)))], [(1, .box 45 (vV7 a0)), (2, .box 28 [.p (.sl .nil 0 []), .p (i6 (0)), .p (.sl .nil 0 []), .p (i6 (0)), .p (.sl .nil 0 []), .p (.sl .nil 0 []), .p (bo (false))])], L0, []⟩) (fun v7 => J7 v7 = some r) ?_ (fun hJ7 => ?_)
    · rintro y7_1 h
      rw [eJ7] at h
      try dsimp only at h
      refine WX.seq ?_
      refine WC.rg hn [] [1, 2, 48] [1, 2] ⟨[(1, .ptr 1 0), (2, .ptr 2 0), (48, .p (bo (((decide (y7_1 > 512))))))], [(1, .box 45 (vV7 a0)), (2, .box 28 [.p (.sl .nil 0 []), .p (i6 (0)), .p (.sl .nil 0 []), .p (i6 (0)), .p (.sl .nil 0 []), .p (.sl .nil 0 []), .p (bo (false))])], L0, []⟩ trivial ?_
      rcases if_or h with ⟨c30, h⟩ | ⟨c30, h⟩
      · refine WC.condT c30 (by kernel_rfl) ?_
        refine WC.rg hn [] [2, 3] [2] ⟨[(2, .ptr 2 0), (3, .p (i6 (90)))], [(2, .box 28 [.p (.sl .nil 0 []), .p (i6 (0)), .p (.sl .nil 0 []), .p (i6 (0)), .p (.sl .nil 0 []), .p (.sl .nil 0 []), .p (bo (false))])], L0, []⟩ trivial ?_
        refine WX.ret ?_
        exact WC.outP (by rw [← Option.some.inj h]; kernel_rfl)
      · refine WC.condF c30 (by kernel_rfl) ?_
        refine WX.skip ?_
        refine WC.rg hn [] [1, 2, 6] [1, 2] ⟨[(1, .ptr 1 0), (2, .ptr 2 0), (6, .p (.sl .nil 0 []))], [(1, .box 45 (vV7 a0)), (2, .box 28 [.p (.sl .nil 0 []), .p (i6 (0)), .p (.sl .nil 0 []), .p (i6 (0)), .p (.sl .nil 0 []), .p (.sl .nil 0 []), .p (bo (false))])], L0, []⟩ trivial ?_
        refine WX.seq ?_
        refine WC.rg hn [] [1, 2, 6, 7] [1, 2] ⟨[(1, .ptr 1 0), (2, .ptr 2 0), (6, .p (.sl .nil 0 [])), (7, .p (i6 (0)))], [(1, .box 45 (vV7 a0)), (2, .box 28 [.p (.sl .nil 0 []), .p (i6 (0)), .p (.sl .nil 0 []), .p (i6 (0)), .p (.sl .nil 0 []), .p (.sl .nil 0 []), .p (bo (false))])], L0, []⟩ trivial ?_
        obtain ⟨J34, eJ34, h⟩ := jn_some h
        try dsimp only at h
        refine WC.join (α := List api_Nfa) (fun v34 => ⟨[(2, .ptr 2 0), (6, .own 116)], [(2, .box 28 [.p (.sl .nil 0 []), .p (i6 (0)), .p (.sl .nil 0 []), .p (i6 (0)), .p (.sl .nil 0 []), .p (.sl .nil 0 []), .p (bo (false))]), (116, rowV 28 e_api_Nfa v34)], L0, []⟩) (fun v34 => J34 v34 = some r) ?_ (fun hJ34 => ?_)
        · rintro y34_1 h
          rw [eJ34] at h
          try dsimp only at h
          refine WX.seq ?_
          obtain ⟨t76_2, h76_1, h⟩ := bind_some h
          refine WC.r1 hn [(4, .val (.ptr 116 (((IntKind.i64.wrap ((y34_1.length : Int) - 1))).toNat * 7))), (5, .val (.p (pP2 t76_2)))] [2, 3] [2] ⟨[(2, .ptr 2 0), (3, .p (i6 (0)))], [(2, .box 28 (vV2 t76_2))], L0, []⟩ (And.intro (IxO 116 7 h76_1) (And.intro (LdO0 Tryd.prog e_api_Nfa 28 h76_1) (trivial))) ?_
          refine WX.ret ?_
          exact WC.outP (by rw [← Option.some.inj h]; kernel_rfl)
        · replace hJ34 := fun y34_1 => hJ34 y34_1
          refine WX.block ?_
          refine WC.nil hn [6] none 116 28 7 (by kernel_rfl) [1, 2, 6, 7] [1, 2, 116] (st' := ⟨[(1, .ptr 1 0), (2, .ptr 2 0), (6, .own 116), (7, .p (i6 (0)))], [(1, .box 45 (vV7 a0)), (2, .box 28 [.p (.sl .nil 0 []), .p (i6 (0)), .p (.sl .nil 0 []), .p (i6 (0)), .p (.sl .nil 0 []), .p (.sl .nil 0 []), .p (bo (false))]), (116, rowV 28 e_api_Nfa (([] : List api_Nfa)))], L0, []⟩) (by kernel_rfl) ?_
          refine WC.loop (V := List api_Nfa × Int) (riddleref10_Of_l0 a0 J34) r (fun v77 => ⟨[(1, .ptr 1 0), (2, .ptr 2 0), (6, .own 116), (7, .p (i6 (v77.2)))], [(1, .box 45 (vV7 a0)), (2, .box 28 [.p (.sl .nil 0 []), .p (i6 (0)), .p (.sl .nil 0 []), .p (i6 (0)), .p (.sl .nil 0 []), .p (.sl .nil 0 []), .p (bo (false))]), (116, rowV 28 e_api_Nfa v77.1)], L0, []⟩) _ (([] : List api_Nfa), 0) h (fun _ => rfl) [1, 2, 6, 7] [1, 2, 116] (by kernel_rfl) ?_
          clear h; rintro k ⟨x77_1_1, x77_1_2⟩ h K77 hnext77 hexit77
          rw [riddleref10_Of_l0] at h
          refine WX.seq ?_
          refine WC.rg hn [] [1, 2, 6, 7, 54] [1, 2, 116] ⟨[(1, .ptr 1 0), (2, .ptr 2 0), (6, .own 116), (7, .p (i6 (x77_1_2))), (54, .p (bo (((decide (x77_1_2 < (a0.Nodes.length : Int)))))))], [(1, .box 45 (vV7 a0)), (2, .box 28 [.p (.sl .nil 0 []), .p (i6 (0)), .p (.sl .nil 0 []), .p (i6 (0)), .p (.sl .nil 0 []), .p (.sl .nil 0 []), .p (bo (false))]), (116, rowV 28 e_api_Nfa x77_1_1)], L0, []⟩ trivial ?_
          rcases if_or h with ⟨c119, h⟩ | ⟨c119, h⟩
          · refine WC.condT c119 (by kernel_rfl) ?_
            refine WX.skip ?_
            refine WX.seq ?_
            refine WX.block ?_
            refine WX.seq ?_
            obtain ⟨t120_2, h120_1, h⟩ := bind_some h
            refine WC.r1 hn [(3, .val (.p (.rop (e_api_Node.cells t120_2 ++ encL e_api_Node (a0.Nodes.drop (x77_1_2.toNat + 1))))))] [1, 2, 6, 7, 8] [1, 2, 8, 116] ⟨[(1, .ptr 1 0), (2, .ptr 2 0), (6, .own 116), (7, .p (i6 (x77_1_2))), (8, .ptr 8 0)], [(1, .box 45 (vV7 a0)), (2, .box 28 [.p (.sl .nil 0 []), .p (i6 (0)), .p (.sl .nil 0 []), .p (i6 (0)), .p (.sl .nil 0 []), .p (.sl .nil 0 []), .p (bo (false))]), (8, .box 77 (vV1 t120_2)), (116, rowV 28 e_api_Nfa x77_1_1)], L0, []⟩ (And.intro (Ix e_api_Node h120_1) (trivial)) ?_
            refine WX.seq ?_
            obtain ⟨t121_2, h121_1, h⟩ := bind_some h
            refine WC.r1 hn [(0, .co [] [] [] [(62, rW 73 t121_2.First.Words), (122, rW 73 t121_2.Last.Words)] (.agg [.p (sC t121_2.Classes), .p (i6 (t121_2.First.N)), .own 62, .p (i6 (t121_2.Last.N)), .own 122, .p (sB t121_2.Follow), .p (bo (t121_2.Null))]))] [1, 2, 6, 7, 8, 9] [1, 2, 8, 9, 62, 116, 122] ⟨[(1, .ptr 1 0), (2, .ptr 2 0), (6, .own 116), (7, .p (i6 (x77_1_2))), (8, .ptr 8 0), (9, .ptr 9 0)], [(1, .box 45 (vV7 a0)), (2, .box 28 [.p (.sl .nil 0 []), .p (i6 (0)), .p (.sl .nil 0 []), .p (i6 (0)), .p (.sl .nil 0 []), .p (.sl .nil 0 []), .p (bo (false))]), (8, .box 77 (vV1 t120_2)), (9, .box 28 [.p (sC t121_2.Classes), .p (i6 (t121_2.First.N)), .own 62, .p (i6 (t121_2.Last.N)), .own 122, .p (sB t121_2.Follow), .p (bo (t121_2.Null))]), (62, rW 73 t121_2.First.Words), (116, rowV 28 e_api_Nfa x77_1_1), (122, rW 73 t121_2.Last.Words)], L0, []⟩ (And.intro (And.intro (((riddleref10_Empty_ok h121_1).ren 1 62 (by kernel_rfl)).ren 2 122 (by kernel_rfl)) (trivial)) (trivial)) ?_
            refine WX.seq ?_
            refine WC.rg hn [] [1, 2, 6, 7, 8, 9, 64] [1, 2, 8, 9, 62, 116, 122] ⟨[(1, .ptr 1 0), (2, .ptr 2 0), (6, .own 116), (7, .p (i6 (x77_1_2))), (8, .ptr 8 0), (9, .ptr 9 0), (64, .p (i6 (t120_2.Kind)))], [(1, .box 45 (vV7 a0)), (2, .box 28 [.p (.sl .nil 0 []), .p (i6 (0)), .p (.sl .nil 0 []), .p (i6 (0)), .p (.sl .nil 0 []), .p (.sl .nil 0 []), .p (bo (false))]), (8, .box 77 (vV1 t120_2)), (9, .box 28 [.p (sC t121_2.Classes), .p (i6 (t121_2.First.N)), .own 62, .p (i6 (t121_2.Last.N)), .own 122, .p (sB t121_2.Follow), .p (bo (t121_2.Null))]), (62, rW 73 t121_2.First.Words), (116, rowV 28 e_api_Nfa x77_1_1), (122, rW 73 t121_2.Last.Words)], L0, []⟩ trivial ?_
            obtain ⟨J123, eJ123, h⟩ := jn_some h
            try dsimp only at h
            refine WC.join (α := List (Arr4 Int) × Int × List Int × Int × List Int × List api_Bits × Bool) (fun v123 => ⟨[(1, .ptr 1 0), (2, .ptr 2 0), (6, .own 116), (7, .p (i6 (x77_1_2))), (9, .ptr 9 0)], [(1, .box 45 (vV7 a0)), (2, .box 28 [.p (.sl .nil 0 []), .p (i6 (0)), .p (.sl .nil 0 []), .p (i6 (0)), .p (.sl .nil 0 []), .p (.sl .nil 0 []), .p (bo (false))]), (9, .box 28 [.p (sC v123.1), .p (i6 (v123.2.1)), .p (sW v123.2.2.1), .p (i6 (v123.2.2.2.1)), .p (sW v123.2.2.2.2.1), .p (sB v123.2.2.2.2.2.1), .p (bo (v123.2.2.2.2.2.2))]), (116, rowV 28 e_api_Nfa x77_1_1)], L0, []⟩) (fun v123 => J123 v123 = some r) ?_ (fun hJ123 => ?_)
            · rintro ⟨y123_1, y123_2, y123_3, y123_4, y123_5, y123_6, y123_7⟩ h
              rw [eJ123] at h
              try dsimp only at h
              obtain ⟨c136_1, h⟩ := if_some h
              refine WC.r1 hn [(3, .app (some 116) (rowV 28 e_api_Nfa (x77_1_1 ++ ([(api_Nfa.mk y123_1 ((api_Bits.mk y123_2 y123_3)) ((api_Bits.mk y123_4 y123_5)) y123_6 y123_7)]))))] [1, 2, 6, 7] [1, 2, 116] ⟨[(1, .ptr 1 0), (2, .ptr 2 0), (6, .own 116), (7, .p (i6 (x77_1_2)))], [(1, .box 45 (vV7 a0)), (2, .box 28 [.p (.sl .nil 0 []), .p (i6 (0)), .p (.sl .nil 0 []), .p (i6 (0)), .p (.sl .nil 0 []), .p (.sl .nil 0 []), .p (bo (false))]), (116, rowV 28 e_api_Nfa (x77_1_1 ++ ([(api_Nfa.mk y123_1 ((api_Bits.mk y123_2 y123_3)) ((api_Bits.mk y123_4 y123_5)) y123_6 y123_7)])))], L0, []⟩ (And.intro (Ap e_api_Nfa (some 116) 28 120 7 x77_1_1 ([(api_Nfa.mk y123_1 ((api_Bits.mk y123_2 y123_3)) ((api_Bits.mk y123_4 y123_5)) y123_6 y123_7)]) c136_1) (trivial)) ?_
              refine WX.popBlk ?_
              refine WC.r1 hn [] [1, 2, 6, 7] [1, 2, 116] ⟨[(1, .ptr 1 0), (2, .ptr 2 0), (6, .own 116), (7, .p (i6 (((IntKind.i64.wrap (x77_1_2 + 1))))))], [(1, .box 45 (vV7 a0)), (2, .box 28 [.p (.sl .nil 0 []), .p (i6 (0)), .p (.sl .nil 0 []), .p (i6 (0)), .p (.sl .nil 0 []), .p (.sl .nil 0 []), .p (bo (false))]), (116, rowV 28 e_api_Nfa (x77_1_1 ++ ([(api_Nfa.mk y123_1 ((api_Bits.mk y123_2 y123_3)) ((api_Bits.mk y123_4 y123_5)) y123_6 y123_7)])))], L0, []⟩ trivial ?_
              exact WC.next [1, 2, 6, 7] [1, 2, 116] (by kernel_rfl) (hnext77 (x77_1_1 ++ ([(api_Nfa.mk y123_1 ((api_Bits.mk y123_2 y123_3)) ((api_Bits.mk y123_4 y123_5)) y123_6 y123_7)]), (IntKind.i64.wrap (x77_1_2 + 1))) h)
            · replace hJ123 := fun y123_1 y123_2 y123_3 y123_4 y123_5 y123_6 y123_7 => hJ123 (y123_1, y123_2, y123_3, y123_4, y123_5, y123_6, y123_7)
              refine WX.block ?_
              refine WC.rg hn [] [1, 2, 6, 7, 8, 9, 64, 65] [1, 2, 8, 9, 62, 116, 122] ⟨[(1, .ptr 1 0), (2, .ptr 2 0), (6, .own 116), (7, .p (i6 (x77_1_2))), (8, .ptr 8 0), (9, .ptr 9 0), (64, .p (i6 (t120_2.Kind))), (65, .p (bo (((t120_2.Kind == 2)))))], [(1, .box 45 (vV7 a0)), (2, .box 28 [.p (.sl .nil 0 []), .p (i6 (0)), .p (.sl .nil 0 []), .p (i6 (0)), .p (.sl .nil 0 []), .p (.sl .nil 0 []), .p (bo (false))]), (8, .box 77 (vV1 t120_2)), (9, .box 28 [.p (sC t121_2.Classes), .p (i6 (t121_2.First.N)), .own 62, .p (i6 (t121_2.Last.N)), .own 122, .p (sB t121_2.Follow), .p (bo (t121_2.Null))]), (62, rW 73 t121_2.First.Words), (116, rowV 28 e_api_Nfa x77_1_1), (122, rW 73 t121_2.Last.Words)], L0, []⟩ trivial ?_
              rcases if_or h with ⟨c139, h⟩ | ⟨c139, h⟩
              · refine WC.condT c139 (by kernel_rfl) ?_
                obtain ⟨t140_2, h140_1, h⟩ := bind_some h
                refine WC.r1 hn [(2, .resP (pP2 t140_2))] [1, 2, 6, 7, 9] [1, 2, 9, 116] ⟨[(1, .ptr 1 0), (2, .ptr 2 0), (6, .own 116), (7, .p (i6 (x77_1_2))), (9, .ptr 9 0)], [(1, .box 45 (vV7 a0)), (2, .box 28 [.p (.sl .nil 0 []), .p (i6 (0)), .p (.sl .nil 0 []), .p (i6 (0)), .p (.sl .nil 0 []), .p (.sl .nil 0 []), .p (bo (false))]), (9, .box 28 (vV2 t140_2)), (116, rowV 28 e_api_Nfa x77_1_1)], L0, []⟩ (And.intro ((riddleref10_Leaf_ok h140_1)) (trivial)) ?_
                refine WX.popBlk ?_
                exact WC.keep [1, 2, 6, 7, 9] [1, 2, 9, 116] (by kernel_rfl) (hJ123 t140_2.Classes t140_2.First.N t140_2.First.Words t140_2.Last.N t140_2.Last.Words t140_2.Follow t140_2.Null h)
              · refine WC.condF c139 (by kernel_rfl) ?_
                refine WC.rg hn [] [1, 2, 6, 7, 8, 9, 64, 70] [1, 2, 8, 9, 62, 116, 122] ⟨[(1, .ptr 1 0), (2, .ptr 2 0), (6, .own 116), (7, .p (i6 (x77_1_2))), (8, .ptr 8 0), (9, .ptr 9 0), (64, .p (i6 (t120_2.Kind))), (70, .p (bo (((t120_2.Kind == 3)))))], [(1, .box 45 (vV7 a0)), (2, .box 28 [.p (.sl .nil 0 []), .p (i6 (0)), .p (.sl .nil 0 []), .p (i6 (0)), .p (.sl .nil 0 []), .p (.sl .nil 0 []), .p (bo (false))]), (8, .box 77 (vV1 t120_2)), (9, .box 28 [.p (sC t121_2.Classes), .p (i6 (t121_2.First.N)), .own 62, .p (i6 (t121_2.Last.N)), .own 122, .p (sB t121_2.Follow), .p (bo (t121_2.Null))]), (62, rW 73 t121_2.First.Words), (116, rowV 28 e_api_Nfa x77_1_1), (122, rW 73 t121_2.Last.Words)], L0, []⟩ trivial ?_
                rcases if_or h with ⟨c142, h⟩ | ⟨c142, h⟩
                · refine WC.condT c142 (by kernel_rfl) ?_
                  obtain ⟨t143_2, h143_1, h⟩ := bind_some h
                  obtain ⟨t143_4, h143_3, h⟩ := bind_some h
                  obtain ⟨t143_6, h143_5, h⟩ := bind_some h
                  refine WC.drw hn [(14, [13])] [] [(3, .val (.ptr 116 (t120_2.A.toNat * 7))), (4, .val (.p (pP2 t143_2))), (8, .val (.ptr 116 (t120_2.B.toNat * 7))), (9, .val (.p (pP2 t143_4))), (10, .resP (.tup [pP2 t143_6.1, i6 (t143_6.2)]))] [1, 2, 6, 7, 9] [1, 2, 9, 116] ⟨[(1, .ptr 1 0), (2, .ptr 2 0), (6, .own 116), (7, .p (i6 (x77_1_2))), (9, .ptr 9 0)], [(1, .box 45 (vV7 a0)), (2, .box 28 [.p (.sl .nil 0 []), .p (i6 (0)), .p (.sl .nil 0 []), .p (i6 (0)), .p (.sl .nil 0 []), .p (.sl .nil 0 []), .p (bo (false))]), (9, .box 28 (vV2 t143_6.1)), (116, rowV 28 e_api_Nfa x77_1_1)], L0, []⟩ (And.intro (IxO 116 7 h143_1) (And.intro (LdO0 Tryd.prog e_api_Nfa 28 h143_1) (And.intro (IxO 116 7 h143_3) (And.intro (LdO0 Tryd.prog e_api_Nfa 28 h143_3) (And.intro ((riddleref10_Cat_okP h143_5)) (And.intro (And.intro (Eq.refl (some (.p (i6 (t143_6.2)) : AV))) (trivial)) (trivial))))))) (by kernel_rfl) (by kernel_rfl) (by kernel_rfl) (by kernel_rfl) ?_
                  refine WX.popBlk ?_
                  exact WC.keep [1, 2, 6, 7, 9] [1, 2, 9, 116] (by kernel_rfl) (hJ123 t143_6.1.Classes t143_6.1.First.N t143_6.1.First.Words t143_6.1.Last.N t143_6.1.Last.Words t143_6.1.Follow t143_6.1.Null h)
                · refine WC.condF c142 (by kernel_rfl) ?_
                  refine WC.rg hn [] [1, 2, 6, 7, 8, 9, 64, 86] [1, 2, 8, 9, 62, 116, 122] ⟨[(1, .ptr 1 0), (2, .ptr 2 0), (6, .own 116), (7, .p (i6 (x77_1_2))), (8, .ptr 8 0), (9, .ptr 9 0), (64, .p (i6 (t120_2.Kind))), (86, .p (bo (((t120_2.Kind == 4)))))], [(1, .box 45 (vV7 a0)), (2, .box 28 [.p (.sl .nil 0 []), .p (i6 (0)), .p (.sl .nil 0 []), .p (i6 (0)), .p (.sl .nil 0 []), .p (.sl .nil 0 []), .p (bo (false))]), (8, .box 77 (vV1 t120_2)), (9, .box 28 [.p (sC t121_2.Classes), .p (i6 (t121_2.First.N)), .own 62, .p (i6 (t121_2.Last.N)), .own 122, .p (sB t121_2.Follow), .p (bo (t121_2.Null))]), (62, rW 73 t121_2.First.Words), (116, rowV 28 e_api_Nfa x77_1_1), (122, rW 73 t121_2.Last.Words)], L0, []⟩ trivial ?_
                  rcases if_or h with ⟨c145, h⟩ | ⟨c145, h⟩
                  · refine WC.condT c145 (by kernel_rfl) ?_
                    obtain ⟨t146_2, h146_1, h⟩ := bind_some h
                    obtain ⟨t146_4, h146_3, h⟩ := bind_some h
                    obtain ⟨t146_6, h146_5, h⟩ := bind_some h
                    refine WC.drw hn [(14, [13])] [] [(3, .val (.ptr 116 (t120_2.A.toNat * 7))), (4, .val (.p (pP2 t146_2))), (8, .val (.ptr 116 (t120_2.B.toNat * 7))), (9, .val (.p (pP2 t146_4))), (10, .resP (.tup [pP2 t146_6.1, i6 (t146_6.2)]))] [1, 2, 6, 7, 9] [1, 2, 9, 116] ⟨[(1, .ptr 1 0), (2, .ptr 2 0), (6, .own 116), (7, .p (i6 (x77_1_2))), (9, .ptr 9 0)], [(1, .box 45 (vV7 a0)), (2, .box 28 [.p (.sl .nil 0 []), .p (i6 (0)), .p (.sl .nil 0 []), .p (i6 (0)), .p (.sl .nil 0 []), .p (.sl .nil 0 []), .p (bo (false))]), (9, .box 28 (vV2 t146_6.1)), (116, rowV 28 e_api_Nfa x77_1_1)], L0, []⟩ (And.intro (IxO 116 7 h146_1) (And.intro (LdO0 Tryd.prog e_api_Nfa 28 h146_1) (And.intro (IxO 116 7 h146_3) (And.intro (LdO0 Tryd.prog e_api_Nfa 28 h146_3) (And.intro ((riddleref10_Alt_okP h146_5)) (And.intro (And.intro (Eq.refl (some (.p (i6 (t146_6.2)) : AV))) (trivial)) (trivial))))))) (by kernel_rfl) (by kernel_rfl) (by kernel_rfl) (by kernel_rfl) ?_
                    refine WX.popBlk ?_
                    exact WC.keep [1, 2, 6, 7, 9] [1, 2, 9, 116] (by kernel_rfl) (hJ123 t146_6.1.Classes t146_6.1.First.N t146_6.1.First.Words t146_6.1.Last.N t146_6.1.Last.Words t146_6.1.Follow t146_6.1.Null h)
                  · refine WC.condF c145 (by kernel_rfl) ?_
                    refine WC.rg hn [] [1, 2, 6, 7, 8, 9, 102] [1, 2, 8, 9, 62, 116, 122] ⟨[(1, .ptr 1 0), (2, .ptr 2 0), (6, .own 116), (7, .p (i6 (x77_1_2))), (8, .ptr 8 0), (9, .ptr 9 0), (102, .p (bo (((t120_2.Kind == 5)))))], [(1, .box 45 (vV7 a0)), (2, .box 28 [.p (.sl .nil 0 []), .p (i6 (0)), .p (.sl .nil 0 []), .p (i6 (0)), .p (.sl .nil 0 []), .p (.sl .nil 0 []), .p (bo (false))]), (8, .box 77 (vV1 t120_2)), (9, .box 28 [.p (sC t121_2.Classes), .p (i6 (t121_2.First.N)), .own 62, .p (i6 (t121_2.Last.N)), .own 122, .p (sB t121_2.Follow), .p (bo (t121_2.Null))]), (62, rW 73 t121_2.First.Words), (116, rowV 28 e_api_Nfa x77_1_1), (122, rW 73 t121_2.Last.Words)], L0, []⟩ trivial ?_
                    rcases if_or h with ⟨c148, h⟩ | ⟨c148, h⟩
                    · refine WC.condT c148 (by kernel_rfl) ?_
                      obtain ⟨t149_2, h149_1, h⟩ := bind_some h
                      obtain ⟨t149_4, h149_3, h⟩ := bind_some h
                      refine WC.r1 hn [(3, .val (.ptr 116 (t120_2.A.toNat * 7))), (4, .val (.p (pP2 t149_2))), (5, .co [] [] [] [(110, rowV 25 e_api_Bits t149_4.1.Follow)] (.tup [.agg [.p (sC t149_4.1.Classes), .p (i6 (t149_4.1.First.N)), .p (sW t149_4.1.First.Words), .p (i6 (t149_4.1.Last.N)), .p (sW t149_4.1.Last.Words), .own 110, .p (bo (t149_4.1.Null))], .p (i6 (t149_4.2))]))] [1, 2, 6, 7, 9] [1, 2, 9, 110, 116] ⟨[(1, .ptr 1 0), (2, .ptr 2 0), (6, .own 116), (7, .p (i6 (x77_1_2))), (9, .ptr 9 0)], [(1, .box 45 (vV7 a0)), (2, .box 28 [.p (.sl .nil 0 []), .p (i6 (0)), .p (.sl .nil 0 []), .p (i6 (0)), .p (.sl .nil 0 []), .p (.sl .nil 0 []), .p (bo (false))]), (9, .box 28 [.p (sC t149_4.1.Classes), .p (i6 (t149_4.1.First.N)), .p (sW t149_4.1.First.Words), .p (i6 (t149_4.1.Last.N)), .p (sW t149_4.1.Last.Words), .own 110, .p (bo (t149_4.1.Null))]), (110, rowV 25 e_api_Bits t149_4.1.Follow), (116, rowV 28 e_api_Nfa x77_1_1)], L0, []⟩ (And.intro (IxO 116 7 h149_1) (And.intro (LdO0 Tryd.prog e_api_Nfa 28 h149_1) (And.intro (And.intro ((riddleref10_Star_ok h149_3).ren 27 110 (by kernel_rfl)) (trivial)) (trivial)))) ?_
                      refine WX.popBlk ?_
                      refine WC.frz 110 (st' := ⟨[(1, .ptr 1 0), (2, .ptr 2 0), (6, .own 116), (7, .p (i6 (x77_1_2))), (9, .ptr 9 0)], [(1, .box 45 (vV7 a0)), (2, .box 28 [.p (.sl .nil 0 []), .p (i6 (0)), .p (.sl .nil 0 []), .p (i6 (0)), .p (.sl .nil 0 []), .p (.sl .nil 0 []), .p (bo (false))]), (9, .box 28 (vV2 t149_4.1)), (116, rowV 28 e_api_Nfa x77_1_1)], L0, []⟩) (by kernel_rfl) ?_
                      exact WC.keep [1, 2, 6, 7, 9] [1, 2, 9, 116] (by kernel_rfl) (hJ123 t149_4.1.Classes t149_4.1.First.N t149_4.1.First.Words t149_4.1.Last.N t149_4.1.Last.Words t149_4.1.Follow t149_4.1.Null h)
                    · refine WC.condF c148 (by kernel_rfl) ?_
                      refine WX.skip ?_
                      refine WX.popBlk ?_
                      refine WC.keep [1, 2, 6, 7, 9] [1, 2, 9, 62, 116, 122] (st' := ⟨[(1, .ptr 1 0), (2, .ptr 2 0), (6, .own 116), (7, .p (i6 (x77_1_2))), (9, .ptr 9 0)], [(1, .box 45 (vV7 a0)), (2, .box 28 [.p (.sl .nil 0 []), .p (i6 (0)), .p (.sl .nil 0 []), .p (i6 (0)), .p (.sl .nil 0 []), .p (.sl .nil 0 []), .p (bo (false))]), (9, .box 28 [.p (sC t121_2.Classes), .p (i6 (t121_2.First.N)), .own 62, .p (i6 (t121_2.Last.N)), .own 122, .p (sB t121_2.Follow), .p (bo (t121_2.Null))]), (62, rW 73 t121_2.First.Words), (116, rowV 28 e_api_Nfa x77_1_1), (122, rW 73 t121_2.Last.Words)], L0, []⟩) (by kernel_rfl) ?_
                      refine WC.frz 62 (st' := ⟨[(1, .ptr 1 0), (2, .ptr 2 0), (6, .own 116), (7, .p (i6 (x77_1_2))), (9, .ptr 9 0)], [(1, .box 45 (vV7 a0)), (2, .box 28 [.p (.sl .nil 0 []), .p (i6 (0)), .p (.sl .nil 0 []), .p (i6 (0)), .p (.sl .nil 0 []), .p (.sl .nil 0 []), .p (bo (false))]), (9, .box 28 [.p (sC t121_2.Classes), .p (i6 (t121_2.First.N)), .p (sW t121_2.First.Words), .p (i6 (t121_2.Last.N)), .own 122, .p (sB t121_2.Follow), .p (bo (t121_2.Null))]), (116, rowV 28 e_api_Nfa x77_1_1), (122, rW 73 t121_2.Last.Words)], L0, []⟩) (by kernel_rfl) ?_
                      refine WC.frz 122 (st' := ⟨[(1, .ptr 1 0), (2, .ptr 2 0), (6, .own 116), (7, .p (i6 (x77_1_2))), (9, .ptr 9 0)], [(1, .box 45 (vV7 a0)), (2, .box 28 [.p (.sl .nil 0 []), .p (i6 (0)), .p (.sl .nil 0 []), .p (i6 (0)), .p (.sl .nil 0 []), .p (.sl .nil 0 []), .p (bo (false))]), (9, .box 28 (vV2 t121_2)), (116, rowV 28 e_api_Nfa x77_1_1)], L0, []⟩) (by kernel_rfl) ?_
                      exact WC.keep [1, 2, 6, 7, 9] [1, 2, 9, 116] (by kernel_rfl) (hJ123 t121_2.Classes t121_2.First.N t121_2.First.Words t121_2.Last.N t121_2.Last.Words t121_2.Follow t121_2.Null h)
          · refine WC.condF c119 (by kernel_rfl) ?_
            refine WX.exit ?_
            refine WX.popCodeExit ?_
            refine WC.exit_nil (hexit77 _ _ (by simp) ?_)
            refine WX.popBlkHit ?_
            exact WC.keep [2, 6] [2, 116] (by kernel_rfl) (hJ34 x77_1_1 h)
    · replace hJ7 := fun y7_1 => hJ7 y7_1
      refine WX.block ?_
      refine WC.loop (V := Int × Int) (riddleref10_Of_l1 a0 J7) r (fun v150 => ⟨[(1, .ptr 1 0), (2, .ptr 2 0), (4, .p (i6 (v150.1))), (5, .p (i6 (v150.2)))], [(1, .box 45 (vV7 a0)), (2, .box 28 [.p (.sl .nil 0 []), .p (i6 (0)), .p (.sl .nil 0 []), .p (i6 (0)), .p (.sl .nil 0 []), .p (.sl .nil 0 []), .p (bo (false))])], L0, []⟩) _ (0, 0) h (fun _ => rfl) [1, 2, 4, 5] [1, 2] (by kernel_rfl) ?_
      clear h; rintro k ⟨x150_1_1, x150_1_2⟩ h K150 hnext150 hexit150
      rw [riddleref10_Of_l1] at h
      refine WX.seq ?_
      refine WC.rg hn [] [1, 2, 4, 5, 18] [1, 2] ⟨[(1, .ptr 1 0), (2, .ptr 2 0), (4, .p (i6 (x150_1_1))), (5, .p (i6 (x150_1_2))), (18, .p (bo (((decide (x150_1_2 < (a0.Nodes.length : Int)))))))], [(1, .box 45 (vV7 a0)), (2, .box 28 [.p (.sl .nil 0 []), .p (i6 (0)), .p (.sl .nil 0 []), .p (i6 (0)), .p (.sl .nil 0 []), .p (.sl .nil 0 []), .p (bo (false))])], L0, []⟩ trivial ?_
      rcases if_or h with ⟨c172, h⟩ | ⟨c172, h⟩
      · refine WC.condT c172 (by kernel_rfl) ?_
        refine WX.skip ?_
        refine WX.seq ?_
        refine WX.block ?_
        refine WX.seq ?_
        refine WX.seq ?_
        obtain ⟨t173_2, h173_1, h⟩ := bind_some h
        refine WC.via (α := Bool) (fun v173 => ⟨[(1, .ptr 1 0), (2, .ptr 2 0), (4, .p (i6 (x150_1_1))), (5, .p (i6 (x150_1_2))), (36, .p (bo (v173)))], [(1, .box 45 (vV7 a0)), (2, .box 28 [.p (.sl .nil 0 []), .p (i6 (0)), .p (.sl .nil 0 []), .p (i6 (0)), .p (.sl .nil 0 []), .p (.sl .nil 0 []), .p (bo (false))])], L0, []⟩) ((((t173_2.Kind == 6)) || ((t173_2.Kind == 7)))) (fun hk => ?_) ?_
        · rcases Bool.eq_false_or_eq_true ((t173_2.Kind == 6)) with b173_7 | b173_7
          · exact WC.reg hn [(3, .val (.p (.rop (e_api_Node.cells t173_2 ++ encL e_api_Node (a0.Nodes.drop (x150_1_2.toNat + 1)))))), (7, .val (.p (bo (true))))] [1, 2, 4, 5, 36] [1, 2] ⟨[(1, .ptr 1 0), (2, .ptr 2 0), (4, .p (i6 (x150_1_1))), (5, .p (i6 (x150_1_2))), (36, .p (bo (true)))], [(1, .box 45 (vV7 a0)), (2, .box 28 [.p (.sl .nil 0 []), .p (i6 (0)), .p (.sl .nil 0 []), .p (i6 (0)), .p (.sl .nil 0 []), .p (.sl .nil 0 []), .p (bo (false))])], L0, []⟩ (And.intro (Ix e_api_Node h173_1) (And.intro (Bl b173_7) (trivial))) (by kernel_rfl) (hk true (by first | (rw [b173_7]; rfl) | simp [b173_7]))
          · exact WC.reg hn [(3, .val (.p (.rop (e_api_Node.cells t173_2 ++ encL e_api_Node (a0.Nodes.drop (x150_1_2.toNat + 1)))))), (7, .val (.p (bo (false)))), (11, .val (.p (.rop (e_api_Node.cells t173_2 ++ encL e_api_Node (a0.Nodes.drop (x150_1_2.toNat + 1))))))] [1, 2, 4, 5, 36] [1, 2] ⟨[(1, .ptr 1 0), (2, .ptr 2 0), (4, .p (i6 (x150_1_1))), (5, .p (i6 (x150_1_2))), (36, .p (bo (((t173_2.Kind == 7)))))], [(1, .box 45 (vV7 a0)), (2, .box 28 [.p (.sl .nil 0 []), .p (i6 (0)), .p (.sl .nil 0 []), .p (i6 (0)), .p (.sl .nil 0 []), .p (.sl .nil 0 []), .p (bo (false))])], L0, []⟩ (And.intro (Ix e_api_Node h173_1) (And.intro (Bl b173_7) (And.intro (Ix e_api_Node h173_1) (trivial)))) (by kernel_rfl) (hk ((t173_2.Kind == 7)) (by first | (rw [b173_7]; rfl) | simp [b173_7]))
        rcases if_or h with ⟨c174, h⟩ | ⟨c174, h⟩
        · refine WC.condT c174 (by kernel_rfl) ?_
          refine WC.rg hn [] [2, 3] [2] ⟨[(2, .ptr 2 0), (3, .p (i6 (1)))], [(2, .box 28 [.p (.sl .nil 0 []), .p (i6 (0)), .p (.sl .nil 0 []), .p (i6 (0)), .p (.sl .nil 0 []), .p (.sl .nil 0 []), .p (bo (false))])], L0, []⟩ trivial ?_
          refine WX.ret ?_
          refine WC.ret_all (hexit150 _ _ (by simp) ?_)
          exact WC.outP (by rw [← Option.some.inj h]; kernel_rfl)
        · refine WC.condF c174 (by kernel_rfl) ?_
          refine WX.skip ?_
          refine WX.seq ?_
          obtain ⟨t176_2, h176_1, h⟩ := bind_some h
          refine WC.r1 hn [(3, .val (.p (.rop (e_api_Node.cells t176_2 ++ encL e_api_Node (a0.Nodes.drop (x150_1_2.toNat + 1))))))] [1, 2, 4, 5, 44] [1, 2] ⟨[(1, .ptr 1 0), (2, .ptr 2 0), (4, .p (i6 (x150_1_1))), (5, .p (i6 (x150_1_2))), (44, .p (bo (((t176_2.Kind == 2)))))], [(1, .box 45 (vV7 a0)), (2, .box 28 [.p (.sl .nil 0 []), .p (i6 (0)), .p (.sl .nil 0 []), .p (i6 (0)), .p (.sl .nil 0 []), .p (.sl .nil 0 []), .p (bo (false))])], L0, []⟩ (And.intro (Ix e_api_Node h176_1) (trivial)) ?_
          rcases if_or h with ⟨c177, h⟩ | ⟨c177, h⟩
          · refine WC.condT c177 (by kernel_rfl) ?_
            refine WC.r1 hn [] [1, 2, 4, 5] [1, 2] ⟨[(1, .ptr 1 0), (2, .ptr 2 0), (4, .p (i6 (((IntKind.i64.wrap (x150_1_1 + 1)))))), (5, .p (i6 (x150_1_2)))], [(1, .box 45 (vV7 a0)), (2, .box 28 [.p (.sl .nil 0 []), .p (i6 (0)), .p (.sl .nil 0 []), .p (i6 (0)), .p (.sl .nil 0 []), .p (.sl .nil 0 []), .p (bo (false))])], L0, []⟩ trivial ?_
            refine WX.popBlk ?_
            refine WC.r1 hn [] [1, 2, 4, 5] [1, 2] ⟨[(1, .ptr 1 0), (2, .ptr 2 0), (4, .p (i6 (((IntKind.i64.wrap (x150_1_1 + 1)))))), (5, .p (i6 (((IntKind.i64.wrap (x150_1_2 + 1))))))], [(1, .box 45 (vV7 a0)), (2, .box 28 [.p (.sl .nil 0 []), .p (i6 (0)), .p (.sl .nil 0 []), .p (i6 (0)), .p (.sl .nil 0 []), .p (.sl .nil 0 []), .p (bo (false))])], L0, []⟩ trivial ?_
            exact WC.next [1, 2, 4, 5] [1, 2] (by kernel_rfl) (hnext150 ((IntKind.i64.wrap (x150_1_1 + 1)), (IntKind.i64.wrap (x150_1_2 + 1))) h)
          · refine WC.condF c177 (by kernel_rfl) ?_
            refine WX.skip ?_
            refine WX.popBlk ?_
            refine WC.r1 hn [] [1, 2, 4, 5] [1, 2] ⟨[(1, .ptr 1 0), (2, .ptr 2 0), (4, .p (i6 (x150_1_1))), (5, .p (i6 (((IntKind.i64.wrap (x150_1_2 + 1))))))], [(1, .box 45 (vV7 a0)), (2, .box 28 [.p (.sl .nil 0 []), .p (i6 (0)), .p (.sl .nil 0 []), .p (i6 (0)), .p (.sl .nil 0 []), .p (.sl .nil 0 []), .p (bo (false))])], L0, []⟩ trivial ?_
            exact WC.next [1, 2, 4, 5] [1, 2] (by kernel_rfl) (hnext150 (x150_1_1, (IntKind.i64.wrap (x150_1_2 + 1))) h)
      · refine WC.condF c172 (by kernel_rfl) ?_
        refine WX.exit ?_
        refine WX.popCodeExit ?_
        refine WC.exit_nil (hexit150 _ _ (by simp) ?_)
        refine WX.popBlkHit ?_
        exact WC.keep [1, 2, 4] [1, 2] (by kernel_rfl) (hJ7 x150_1_1 h)
def riddleref05_Empty  : Option (api_Tree) :=
  some ((api_Tree.mk ([(api_Node.mk 1 ((Arr4.mk 0 0 0 0)) 0 0 0 0 false)])))
theorem riddleref05_Empty_ok  {r : api_Tree} (h : riddleref05_Empty = some r) : AnsO Tryd.prog 63 [] [] [(2, rowV 77 e_api_Node r.Nodes)] (.agg [.own 2]) := by
  refine W_fnO [2] Tryd.func63 rfl (by kernel_rfl) (by kernel_rfl) (by kernel_rfl) (by kernel_rfl) ?_
  intro X hro hn
  unfold riddleref05_Empty at h
  refine WC.rg hn [] [0] [0] ⟨[(0, .ptr 0 0)], [(0, .box 45 [.p (.sl .nil 0 [])])], L0, []⟩ trivial ?_
  refine WC.rg hn [] [0] [0, 2] ⟨[(0, .ptr 0 0)], [(0, .box 45 [.own 2]), (2, rowV 77 e_api_Node ([(api_Node.mk 1 ((Arr4.mk 0 0 0 0)) 0 0 0 0 false)]))], L0, []⟩ trivial ?_
  refine WX.ret ?_
  exact WC.outO (by rw [← Option.some.inj h]; kernel_rfl)
theorem riddleref05_Empty_okP  {r : api_Tree} (h : riddleref05_Empty = some r) : Ans Tryd.prog 63 [] (pP7 r) := AnsO.ans (args := []) (riddleref05_Empty_ok h) (by kernel_rfl)
def riddleref05_Leaf (a0 : api_Node) : Option (api_Tree) :=
  (if (((a0.Kind == 3)) || ((((a0.Kind == 4)) || ((((a0.Kind == 5)) || ((((decide (a0.Kind < 1))) || ((decide (a0.Kind > 7)))))))))) = true then (riddleref05_Empty).bind fun t4_2 => some t4_2 else some ((api_Tree.mk ([(api_Node.mk a0.Kind a0.Class 0 0 a0.Least a0.Most a0.Lazy)]))))
theorem riddleref05_Leaf_ok {a0 : api_Node} {r : api_Tree} (h : riddleref05_Leaf a0 = some r) : AnsO Tryd.prog 62 [] [.p (pP1 a0)] [(26, rowV 77 e_api_Node r.Nodes)] (.agg [.own 26]) := by
  refine W_fnO [26] Tryd.func62 rfl (by kernel_rfl) (by kernel_rfl) (by kernel_rfl) (by kernel_rfl) ?_
  intro X hro hn
  unfold riddleref05_Leaf at h
  refine WC.rg hn [] [1, 2] [1, 2] ⟨[(1, .ptr 1 0), (2, .ptr 2 0)], [(1, .box 77 (vV1 a0)), (2, .box 45 [.p (.sl .nil 0 [])])], L0, []⟩ trivial ?_
  refine WX.seq ?_
  refine WX.seq ?_
  refine WC.via (α := Bool) (fun v2 => ⟨[(1, .ptr 1 0), (2, .ptr 2 0), (25, .p (bo (v2)))], [(1, .box 77 (vV1 a0)), (2, .box 45 [.p (.sl .nil 0 [])])], L0, []⟩) ((((a0.Kind == 3)) || ((((a0.Kind == 4)) || ((((a0.Kind == 5)) || ((((decide (a0.Kind < 1))) || ((decide (a0.Kind > 7))))))))))) (fun hk => ?_) ?_
  · rcases Bool.eq_false_or_eq_true ((a0.Kind == 3)) with b2_3 | b2_3
    · exact WC.reg hn [(3, .val (.p (bo (true))))] [1, 2, 25] [1, 2] ⟨[(1, .ptr 1 0), (2, .ptr 2 0), (25, .p (bo (true)))], [(1, .box 77 (vV1 a0)), (2, .box 45 [.p (.sl .nil 0 [])])], L0, []⟩ (And.intro (Bl b2_3) (trivial)) (by kernel_rfl) (hk true (by first | (rw [b2_3]; rfl) | simp [b2_3]))
    · rcases Bool.eq_false_or_eq_true ((a0.Kind == 4)) with b2_8 | b2_8
      · exact WC.reg hn [(3, .val (.p (bo (false)))), (8, .val (.p (bo (true))))] [1, 2, 25] [1, 2] ⟨[(1, .ptr 1 0), (2, .ptr 2 0), (25, .p (bo (true)))], [(1, .box 77 (vV1 a0)), (2, .box 45 [.p (.sl .nil 0 [])])], L0, []⟩ (And.intro (Bl b2_3) (And.intro (Bl b2_8) (trivial))) (by kernel_rfl) (hk true (by first | (rw [b2_3, b2_8]; rfl) | simp [b2_3, b2_8]))
      · rcases Bool.eq_false_or_eq_true ((a0.Kind == 5)) with b2_13 | b2_13
        · exact WC.reg hn [(3, .val (.p (bo (false)))), (8, .val (.p (bo (false)))), (13, .val (.p (bo (true))))] [1, 2, 25] [1, 2] ⟨[(1, .ptr 1 0), (2, .ptr 2 0), (25, .p (bo (true)))], [(1, .box 77 (vV1 a0)), (2, .box 45 [.p (.sl .nil 0 [])])], L0, []⟩ (And.intro (Bl b2_3) (And.intro (Bl b2_8) (And.intro (Bl b2_13) (trivial)))) (by kernel_rfl) (hk true (by first | (rw [b2_3, b2_8, b2_13]; rfl) | simp [b2_3, b2_8, b2_13]))
        · rcases Bool.eq_false_or_eq_true ((decide (a0.Kind < 1))) with b2_18 | b2_18
          · exact WC.reg hn [(3, .val (.p (bo (false)))), (8, .val (.p (bo (false)))), (13, .val (.p (bo (false)))), (18, .val (.p (bo (true))))] [1, 2, 25] [1, 2] ⟨[(1, .ptr 1 0), (2, .ptr 2 0), (25, .p (bo (true)))], [(1, .box 77 (vV1 a0)), (2, .box 45 [.p (.sl .nil 0 [])])], L0, []⟩ (And.intro (Bl b2_3) (And.intro (Bl b2_8) (And.intro (Bl b2_13) (And.intro (Bl b2_18) (trivial))))) (by kernel_rfl) (hk true (by first | (rw [b2_3, b2_8, b2_13, b2_18]; rfl) | simp [b2_3, b2_8, b2_13, b2_18]))
          · exact WC.reg hn [(3, .val (.p (bo (false)))), (8, .val (.p (bo (false)))), (13, .val (.p (bo (false)))), (18, .val (.p (bo (false))))] [1, 2, 25] [1, 2] ⟨[(1, .ptr 1 0), (2, .ptr 2 0), (25, .p (bo (((decide (a0.Kind > 7))))))], [(1, .box 77 (vV1 a0)), (2, .box 45 [.p (.sl .nil 0 [])])], L0, []⟩ (And.intro (Bl b2_3) (And.intro (Bl b2_8) (And.intro (Bl b2_13) (And.intro (Bl b2_18) (trivial))))) (by kernel_rfl) (hk ((decide (a0.Kind > 7))) (by first | (rw [b2_3, b2_8, b2_13, b2_18]; rfl) | simp [b2_3, b2_8, b2_13, b2_18]))
  rcases if_or h with ⟨c3, h⟩ | ⟨c3, h⟩
  · refine WC.condT c3 (by kernel_rfl) ?_
    refine WX.seq ?_
    obtain ⟨t4_2, h4_1, h⟩ := bind_some h
    refine WC.r1 hn [(0, .co [] [] [] [(26, rowV 77 e_api_Node t4_2.Nodes)] (.agg [.own 26]))] [2] [2, 26] ⟨[(2, .ptr 2 0)], [(2, .box 45 [.own 26]), (26, rowV 77 e_api_Node t4_2.Nodes)], L0, []⟩ (And.intro (And.intro ((riddleref05_Empty_ok h4_1).ren 2 26 (by kernel_rfl)) (trivial)) (trivial)) ?_
    refine WX.ret ?_
    exact WC.outO (by rw [← Option.some.inj h]; kernel_rfl)
  · refine WC.condF c3 (by kernel_rfl) ?_
    refine WX.skip ?_
    refine WC.rg hn [] [1, 2] [1, 2] ⟨[(1, .ptr 1 0), (2, .ptr 2 0)], [(1, .box 77 [.p (i6 (a0.Kind)), .p (u6 (a0.Class.a0)), .p (u6 (a0.Class.a1)), .p (u6 (a0.Class.a2)), .p (u6 (a0.Class.a3)), .p (i6 (0)), .p (i6 (a0.B)), .p (i6 (a0.Least)), .p (i6 (a0.Most)), .p (bo (a0.Lazy))]), (2, .box 45 [.p (.sl .nil 0 [])])], L0, []⟩ trivial ?_
    refine WC.rg hn [] [1, 2] [1, 2] ⟨[(1, .ptr 1 0), (2, .ptr 2 0)], [(1, .box 77 [.p (i6 (a0.Kind)), .p (u6 (a0.Class.a0)), .p (u6 (a0.Class.a1)), .p (u6 (a0.Class.a2)), .p (u6 (a0.Class.a3)), .p (i6 (0)), .p (i6 (0)), .p (i6 (a0.Least)), .p (i6 (a0.Most)), .p (bo (a0.Lazy))]), (2, .box 45 [.p (.sl .nil 0 [])])], L0, []⟩ trivial ?_
    refine WC.rg hn [] [2] [2, 30] ⟨[(2, .ptr 2 0)], [(2, .box 45 [.own 30]), (30, rowV 77 e_api_Node ([(api_Node.mk a0.Kind a0.Class 0 0 a0.Least a0.Most a0.Lazy)]))], L0, []⟩ trivial ?_
    refine WX.ret ?_
    refine WC.ren hn 30 26 (by kernel_rfl) [2] [2, 26] (st' := ⟨[(2, .ptr 2 0)], [(2, .box 45 [.own 26]), (26, rowV 77 e_api_Node ([(api_Node.mk a0.Kind a0.Class 0 0 a0.Least a0.Most a0.Lazy)]))], L0, []⟩) (by kernel_rfl) ?_
    exact WC.outO (by rw [← Option.some.inj h]; kernel_rfl)
theorem riddleref05_Leaf_okP {a0 : api_Node} {r : api_Tree} (h : riddleref05_Leaf a0 = some r) : Ans Tryd.prog 62 [pP1 a0] (pP7 r) := AnsO.ans (args := [pP1 a0]) (riddleref05_Leaf_ok h) (by kernel_rfl)
def riddlelaw23_one (a0 : Int) : Option (api_Tree) :=
  (if ¬ (a0.tmod 64) < 0 then (if 0 ≤ (IntKind.u8.wrap (a0.tdiv 64)) ∧ (IntKind.u8.wrap (a0.tdiv 64)) < 4 then (riddleref05_Leaf ((api_Node.mk 2 ((Arr4.mk ((set4 0 ((IntKind.u8.wrap (a0.tdiv 64))) ((IntKind.u64.wrap (1 * 2 ^ (min ((a0.tmod 64)).toNat IntKind.u64.bits)))) 0)) ((set4 1 ((IntKind.u8.wrap (a0.tdiv 64))) ((IntKind.u64.wrap (1 * 2 ^ (min ((a0.tmod 64)).toNat IntKind.u64.bits)))) 0)) ((set4 2 ((IntKind.u8.wrap (a0.tdiv 64))) ((IntKind.u64.wrap (1 * 2 ^ (min ((a0.tmod 64)).toNat IntKind.u64.bits)))) 0)) ((set4 3 ((IntKind.u8.wrap (a0.tdiv 64))) ((IntKind.u64.wrap (1 * 2 ^ (min ((a0.tmod 64)).toNat IntKind.u64.bits)))) 0)))) 0 0 0 0 false))).bind fun t4_2 => some t4_2 else none) else none)
theorem riddlelaw23_one_ok {a0 : Int} {r : api_Tree} (h : riddlelaw23_one a0 = some r) : AnsO Tryd.prog 30 [] [.p (.s (.int .u8 a0))] [(13, rowV 77 e_api_Node r.Nodes)] (.agg [.own 13]) := by
  refine W_fnO [13] Tryd.func30 rfl (by kernel_rfl) (by kernel_rfl) (by kernel_rfl) (by kernel_rfl) ?_
  intro X hro hn
  unfold riddlelaw23_one at h
  refine WC.rg hn [] [0, 2] [2] ⟨[(0, .p (.s (.int .u8 a0))), (2, .ptr 2 0)], [(2, .box 45 [.p (.sl .nil 0 [])])], L0, []⟩ trivial ?_
  refine WC.rg hn [] [0, 2, 3] [2, 3] ⟨[(0, .p (.s (.int .u8 a0))), (2, .ptr 2 0), (3, .ptr 3 0)], [(2, .box 45 [.p (.sl .nil 0 [])]), (3, .box 77 [.p (i6 (2)), .p (u6 (0)), .p (u6 (0)), .p (u6 (0)), .p (u6 (0)), .p (i6 (0)), .p (i6 (0)), .p (i6 (0)), .p (i6 (0)), .p (bo (false))])], L0, []⟩ trivial ?_
  refine WX.seq ?_
  obtain ⟨c3_1, h⟩ := if_some h
  obtain ⟨c3_2, h⟩ := if_some h
  refine WC.r1 hn [(4, .val (.p (u6 ((IntKind.u64.wrap (1 * 2 ^ (min ((a0.tmod 64)).toNat IntKind.u64.bits))))))), (6, .val (.ptr 3 (1 + ((IntKind.u8.wrap (a0.tdiv 64))).toNat * 1))), (7, .sto 3 (.box 77 [.p (i6 (2)), .p (u6 (((set4 0 ((IntKind.u8.wrap (a0.tdiv 64))) ((IntKind.u64.wrap (1 * 2 ^ (min ((a0.tmod 64)).toNat IntKind.u64.bits)))) 0)))), .p (u6 (((set4 1 ((IntKind.u8.wrap (a0.tdiv 64))) ((IntKind.u64.wrap (1 * 2 ^ (min ((a0.tmod 64)).toNat IntKind.u64.bits)))) 0)))), .p (u6 (((set4 2 ((IntKind.u8.wrap (a0.tdiv 64))) ((IntKind.u64.wrap (1 * 2 ^ (min ((a0.tmod 64)).toNat IntKind.u64.bits)))) 0)))), .p (u6 (((set4 3 ((IntKind.u8.wrap (a0.tdiv 64))) ((IntKind.u64.wrap (1 * 2 ^ (min ((a0.tmod 64)).toNat IntKind.u64.bits)))) 0)))), .p (i6 (0)), .p (i6 (0)), .p (i6 (0)), .p (i6 (0)), .p (bo (false))]))] [2, 3] [2, 3] ⟨[(2, .ptr 2 0), (3, .ptr 3 0)], [(2, .box 45 [.p (.sl .nil 0 [])]), (3, .box 77 [.p (i6 (2)), .p (u6 (((set4 0 ((IntKind.u8.wrap (a0.tdiv 64))) ((IntKind.u64.wrap (1 * 2 ^ (min ((a0.tmod 64)).toNat IntKind.u64.bits)))) 0)))), .p (u6 (((set4 1 ((IntKind.u8.wrap (a0.tdiv 64))) ((IntKind.u64.wrap (1 * 2 ^ (min ((a0.tmod 64)).toNat IntKind.u64.bits)))) 0)))), .p (u6 (((set4 2 ((IntKind.u8.wrap (a0.tdiv 64))) ((IntKind.u64.wrap (1 * 2 ^ (min ((a0.tmod 64)).toNat IntKind.u64.bits)))) 0)))), .p (u6 (((set4 3 ((IntKind.u8.wrap (a0.tdiv 64))) ((IntKind.u64.wrap (1 * 2 ^ (min ((a0.tmod 64)).toNat IntKind.u64.bits)))) 0)))), .p (i6 (0)), .p (i6 (0)), .p (i6 (0)), .p (i6 (0)), .p (bo (false))])], L0, []⟩ (And.intro (Shl .u64 1 ((a0.tmod 64)) c3_1) (And.intro (IxA4 3 1 ((IntKind.u8.wrap (a0.tdiv 64))) c3_2) (And.intro (StA4 3 77 [.p (i6 (2))] .u64 0 0 0 0 [.p (i6 (0)), .p (i6 (0)), .p (i6 (0)), .p (i6 (0)), .p (bo (false))] ((IntKind.u8.wrap (a0.tdiv 64))) ((IntKind.u64.wrap (1 * 2 ^ (min ((a0.tmod 64)).toNat IntKind.u64.bits)))) c3_2) (trivial)))) ?_
  refine WX.seq ?_
  obtain ⟨t4_2, h4_1, h⟩ := bind_some h
  refine WC.r1 hn [(1, .co [] [] [] [(13, rowV 77 e_api_Node t4_2.Nodes)] (.agg [.own 13]))] [2] [2, 13] ⟨[(2, .ptr 2 0)], [(2, .box 45 [.own 13]), (13, rowV 77 e_api_Node t4_2.Nodes)], L0, []⟩ (And.intro (And.intro ((riddleref05_Leaf_ok h4_1).ren 26 13 (by kernel_rfl)) (trivial)) (trivial)) ?_
  refine WX.ret ?_
  exact WC.outO (by rw [← Option.some.inj h]; kernel_rfl)
theorem riddlelaw23_one_okP {a0 : Int} {r : api_Tree} (h : riddlelaw23_one a0 = some r) : Ans Tryd.prog 30 [.s (.int .u8 a0)] (pP7 r) := AnsO.ans (args := [.s (.int .u8 a0)]) (riddlelaw23_one_ok h) (by kernel_rfl)
def riddleref05_placed_l0 (a0 : (List api_Node)) (a1 : api_Tree) (J4 : List api_Node → Option ((List api_Node))) : Nat → (List api_Node × Int) → Option ((List api_Node))
  | 0, _ => none
  | k + 1, (x33_1_1, x33_1_2) => (if (decide (x33_1_2 < (a1.Nodes.length : Int))) = true then (at_ a1.Nodes x33_1_2).bind fun t62_2 => jn (fun (v64 : Int) => jn (fun (v68 : Int) => (if okApp 80 (x33_1_1.length + ([(api_Node.mk t62_2.Kind t62_2.Class v68 v64 t62_2.Least t62_2.Most t62_2.Lazy)]).length) then riddleref05_placed_l0 a0 a1 J4 k (x33_1_1 ++ ([(api_Node.mk t62_2.Kind t62_2.Class v68 v64 t62_2.Least t62_2.Most t62_2.Lazy)]), (IntKind.i64.wrap (x33_1_2 + 1))) else none)) fun J68 => (if (((t62_2.Kind == 3)) || ((((t62_2.Kind == 4)) || ((t62_2.Kind == 5))))) = true then J68 ((IntKind.i64.wrap (t62_2.A + (a0.length : Int)))) else J68 t62_2.A)) fun J64 => (if (((t62_2.Kind == 3)) || ((t62_2.Kind == 4))) = true then J64 ((IntKind.i64.wrap (t62_2.B + (a0.length : Int)))) else J64 t62_2.B) else J4 x33_1_1)
def riddleref05_placed (k : Nat) (a0 : (List api_Node)) (a1 : api_Tree) : Option ((List api_Node)) :=
  jn (fun (v4 : List api_Node) => some v4) fun J4 => riddleref05_placed_l0 a0 a1 J4 k (a0, 0)
theorem riddleref05_placed_ok {k : Nat} {a0 : (List api_Node)} {a1 : api_Tree} {r : (List api_Node)} (h : riddleref05_placed k a0 a1 = some r) : AnsO Tryd.prog 64 [(1000, rowV 77 e_api_Node a0)] [.own 1000, .p (pP7 a1)] [(56, rowV 77 e_api_Node r)] (.own 56) := by
  refine W_fnO [56] Tryd.func64 rfl (by kernel_rfl) (by kernel_rfl) (by kernel_rfl) (by kernel_rfl) ?_
  intro X hro hn
  unfold riddleref05_placed at h
  refine WC.rg hn [] [0, 3] [3, 1000] ⟨[(0, .own 1000), (3, .ptr 3 0)], [(3, .box 45 (vV7 a1)), (1000, rowV 77 e_api_Node a0)], L0, []⟩ trivial ?_
  refine WC.rg hn [] [0, 3, 5] [3, 1000] ⟨[(0, .own 1000), (3, .ptr 3 0), (5, .p (i6 (((a0.length : Int)))))], [(3, .box 45 (vV7 a1)), (1000, rowV 77 e_api_Node a0)], L0, []⟩ trivial ?_
  refine WX.seq ?_
  refine WC.rg hn [] [0, 3, 5, 6] [3, 1000] ⟨[(0, .own 1000), (3, .ptr 3 0), (5, .p (i6 (((a0.length : Int))))), (6, .p (i6 (0)))], [(3, .box 45 (vV7 a1)), (1000, rowV 77 e_api_Node a0)], L0, []⟩ trivial ?_
  obtain ⟨J4, eJ4, h⟩ := jn_some h
  try dsimp only at h
  refine WC.join (α := List api_Node) (fun v4 => ⟨[(0, .own 56)], [(56, rowV 77 e_api_Node v4)], L0, []⟩) (fun v4 => J4 v4 = some r) ?_ (fun hJ4 => ?_)
  · rintro y4_1 h
    rw [eJ4] at h
    try dsimp only at h
    refine WC.rg hn [] [4] [56] ⟨[(4, .own 56)], [(56, rowV 77 e_api_Node y4_1)], L0, []⟩ trivial ?_
    refine WX.ret ?_
    exact WC.outO (by rw [← Option.some.inj h]; kernel_rfl)
  · replace hJ4 := fun y4_1 => hJ4 y4_1
    refine WX.block ?_
    refine WC.ren hn 1000 56 (by kernel_rfl) [0, 3, 5, 6] [3, 56] (st' := ⟨[(0, .own 56), (3, .ptr 3 0), (5, .p (i6 (((a0.length : Int))))), (6, .p (i6 (0)))], [(3, .box 45 (vV7 a1)), (56, rowV 77 e_api_Node a0)], L0, []⟩) (by kernel_rfl) ?_
    refine WC.loop (V := List api_Node × Int) (riddleref05_placed_l0 a0 a1 J4) r (fun v33 => ⟨[(0, .own 56), (3, .ptr 3 0), (5, .p (i6 (((a0.length : Int))))), (6, .p (i6 (v33.2)))], [(3, .box 45 (vV7 a1)), (56, rowV 77 e_api_Node v33.1)], L0, []⟩) _ (a0, 0) h (fun _ => rfl) [0, 3, 5, 6] [3, 56] (by kernel_rfl) ?_
    clear h; rintro k ⟨x33_1_1, x33_1_2⟩ h K33 hnext33 hexit33
    rw [riddleref05_placed_l0] at h
    refine WX.seq ?_
    refine WC.rg hn [] [0, 3, 5, 6, 14] [3, 56] ⟨[(0, .own 56), (3, .ptr 3 0), (5, .p (i6 (((a0.length : Int))))), (6, .p (i6 (x33_1_2))), (14, .p (bo (((decide (x33_1_2 < (a1.Nodes.length : Int)))))))], [(3, .box 45 (vV7 a1)), (56, rowV 77 e_api_Node x33_1_1)], L0, []⟩ trivial ?_
    rcases if_or h with ⟨c61, h⟩ | ⟨c61, h⟩
    · refine WC.condT c61 (by kernel_rfl) ?_
      refine WX.skip ?_
      refine WX.seq ?_
      refine WX.block ?_
      refine WX.seq ?_
      obtain ⟨t62_2, h62_1, h⟩ := bind_some h
      refine WC.r1 hn [(3, .val (.p (.rop (e_api_Node.cells t62_2 ++ encL e_api_Node (a1.Nodes.drop (x33_1_2.toNat + 1))))))] [0, 3, 5, 6, 7] [3, 7, 56] ⟨[(0, .own 56), (3, .ptr 3 0), (5, .p (i6 (((a0.length : Int))))), (6, .p (i6 (x33_1_2))), (7, .ptr 7 0)], [(3, .box 45 (vV7 a1)), (7, .box 77 (vV1 t62_2)), (56, rowV 77 e_api_Node x33_1_1)], L0, []⟩ (And.intro (Ix e_api_Node h62_1) (trivial)) ?_
      refine WX.seq ?_
      refine WX.seq ?_
      refine WC.via (α := Bool) (fun v63 => ⟨[(0, .own 56), (3, .ptr 3 0), (5, .p (i6 (((a0.length : Int))))), (6, .p (i6 (x33_1_2))), (7, .ptr 7 0), (29, .p (bo (v63)))], [(3, .box 45 (vV7 a1)), (7, .box 77 (vV1 t62_2)), (56, rowV 77 e_api_Node x33_1_1)], L0, []⟩) ((((t62_2.Kind == 3)) || ((t62_2.Kind == 4)))) (fun hk => ?_) ?_
      · rcases Bool.eq_false_or_eq_true ((t62_2.Kind == 3)) with b63_3 | b63_3
        · exact WC.reg hn [(3, .val (.p (bo (true))))] [0, 3, 5, 6, 7, 29] [3, 7, 56] ⟨[(0, .own 56), (3, .ptr 3 0), (5, .p (i6 (((a0.length : Int))))), (6, .p (i6 (x33_1_2))), (7, .ptr 7 0), (29, .p (bo (true)))], [(3, .box 45 (vV7 a1)), (7, .box 77 (vV1 t62_2)), (56, rowV 77 e_api_Node x33_1_1)], L0, []⟩ (And.intro (Bl b63_3) (trivial)) (by kernel_rfl) (hk true (by first | (rw [b63_3]; rfl) | simp [b63_3]))
        · exact WC.reg hn [(3, .val (.p (bo (false))))] [0, 3, 5, 6, 7, 29] [3, 7, 56] ⟨[(0, .own 56), (3, .ptr 3 0), (5, .p (i6 (((a0.length : Int))))), (6, .p (i6 (x33_1_2))), (7, .ptr 7 0), (29, .p (bo (((t62_2.Kind == 4)))))], [(3, .box 45 (vV7 a1)), (7, .box 77 (vV1 t62_2)), (56, rowV 77 e_api_Node x33_1_1)], L0, []⟩ (And.intro (Bl b63_3) (trivial)) (by kernel_rfl) (hk ((t62_2.Kind == 4)) (by first | (rw [b63_3]; rfl) | simp [b63_3]))
      obtain ⟨J64, eJ64, h⟩ := jn_some h
      try dsimp only at h
      refine WC.join (α := Int) (fun v64 => ⟨[(0, .own 56), (3, .ptr 3 0), (5, .p (i6 (((a0.length : Int))))), (6, .p (i6 (x33_1_2))), (7, .ptr 7 0)], [(3, .box 45 (vV7 a1)), (7, .box 77 [.p (i6 (t62_2.Kind)), .p (u6 (t62_2.Class.a0)), .p (u6 (t62_2.Class.a1)), .p (u6 (t62_2.Class.a2)), .p (u6 (t62_2.Class.a3)), .p (i6 (t62_2.A)), .p (i6 (v64)), .p (i6 (t62_2.Least)), .p (i6 (t62_2.Most)), .p (bo (t62_2.Lazy))]), (56, rowV 77 e_api_Node x33_1_1)], L0, []⟩) (fun v64 => J64 v64 = some r) ?_ (fun hJ64 => ?_)
      · rintro y64_1 h
        rw [eJ64] at h
        try dsimp only at h
        refine WX.seq ?_
        refine WX.seq ?_
        refine WC.via (α := Bool) (fun v67 => ⟨[(0, .own 56), (3, .ptr 3 0), (5, .p (i6 (((a0.length : Int))))), (6, .p (i6 (x33_1_2))), (7, .ptr 7 0), (47, .p (bo (v67)))], [(3, .box 45 (vV7 a1)), (7, .box 77 [.p (i6 (t62_2.Kind)), .p (u6 (t62_2.Class.a0)), .p (u6 (t62_2.Class.a1)), .p (u6 (t62_2.Class.a2)), .p (u6 (t62_2.Class.a3)), .p (i6 (t62_2.A)), .p (i6 (y64_1)), .p (i6 (t62_2.Least)), .p (i6 (t62_2.Most)), .p (bo (t62_2.Lazy))]), (56, rowV 77 e_api_Node x33_1_1)], L0, []⟩) ((((t62_2.Kind == 3)) || ((((t62_2.Kind == 4)) || ((t62_2.Kind == 5)))))) (fun hk => ?_) ?_
        · rcases Bool.eq_false_or_eq_true ((t62_2.Kind == 3)) with b67_3 | b67_3
          · exact WC.reg hn [(3, .val (.p (bo (true))))] [0, 3, 5, 6, 7, 47] [3, 7, 56] ⟨[(0, .own 56), (3, .ptr 3 0), (5, .p (i6 (((a0.length : Int))))), (6, .p (i6 (x33_1_2))), (7, .ptr 7 0), (47, .p (bo (true)))], [(3, .box 45 (vV7 a1)), (7, .box 77 [.p (i6 (t62_2.Kind)), .p (u6 (t62_2.Class.a0)), .p (u6 (t62_2.Class.a1)), .p (u6 (t62_2.Class.a2)), .p (u6 (t62_2.Class.a3)), .p (i6 (t62_2.A)), .p (i6 (y64_1)), .p (i6 (t62_2.Least)), .p (i6 (t62_2.Most)), .p (bo (t62_2.Lazy))]), (56, rowV 77 e_api_Node x33_1_1)], L0, []⟩ (And.intro (Bl b67_3) (trivial)) (by kernel_rfl) (hk true (by first | (rw [b67_3]; rfl) | simp [b67_3]))
          · rcases Bool.eq_false_or_eq_true ((t62_2.Kind == 4)) with b67_8 | b67_8
            · exact WC.reg hn [(3, .val (.p (bo (false)))), (8, .val (.p (bo (true))))] [0, 3, 5, 6, 7, 47] [3, 7, 56] ⟨[(0, .own 56), (3, .ptr 3 0), (5, .p (i6 (((a0.length : Int))))), (6, .p (i6 (x33_1_2))), (7, .ptr 7 0), (47, .p (bo (true)))], [(3, .box 45 (vV7 a1)), (7, .box 77 [.p (i6 (t62_2.Kind)), .p (u6 (t62_2.Class.a0)), .p (u6 (t62_2.Class.a1)), .p (u6 (t62_2.Class.a2)), .p (u6 (t62_2.Class.a3)), .p (i6 (t62_2.A)), .p (i6 (y64_1)), .p (i6 (t62_2.Least)), .p (i6 (t62_2.Most)), .p (bo (t62_2.Lazy))]), (56, rowV 77 e_api_Node x33_1_1)], L0, []⟩ (And.intro (Bl b67_3) (And.intro (Bl b67_8) (trivial))) (by kernel_rfl) (hk true (by first | (rw [b67_3, b67_8]; rfl) | simp [b67_3, b67_8]))
            · exact WC.reg hn [(3, .val (.p (bo (false)))), (8, .val (.p (bo (false))))] [0, 3, 5, 6, 7, 47] [3, 7, 56] ⟨[(0, .own 56), (3, .ptr 3 0), (5, .p (i6 (((a0.length : Int))))), (6, .p (i6 (x33_1_2))), (7, .ptr 7 0), (47, .p (bo (((t62_2.Kind == 5)))))], [(3, .box 45 (vV7 a1)), (7, .box 77 [.p (i6 (t62_2.Kind)), .p (u6 (t62_2.Class.a0)), .p (u6 (t62_2.Class.a1)), .p (u6 (t62_2.Class.a2)), .p (u6 (t62_2.Class.a3)), .p (i6 (t62_2.A)), .p (i6 (y64_1)), .p (i6 (t62_2.Least)), .p (i6 (t62_2.Most)), .p (bo (t62_2.Lazy))]), (56, rowV 77 e_api_Node x33_1_1)], L0, []⟩ (And.intro (Bl b67_3) (And.intro (Bl b67_8) (trivial))) (by kernel_rfl) (hk ((t62_2.Kind == 5)) (by first | (rw [b67_3, b67_8]; rfl) | simp [b67_3, b67_8]))
        obtain ⟨J68, eJ68, h⟩ := jn_some h
        try dsimp only at h
        refine WC.join (α := Int) (fun v68 => ⟨[(0, .own 56), (3, .ptr 3 0), (5, .p (i6 (((a0.length : Int))))), (6, .p (i6 (x33_1_2))), (7, .ptr 7 0)], [(3, .box 45 (vV7 a1)), (7, .box 77 [.p (i6 (t62_2.Kind)), .p (u6 (t62_2.Class.a0)), .p (u6 (t62_2.Class.a1)), .p (u6 (t62_2.Class.a2)), .p (u6 (t62_2.Class.a3)), .p (i6 (v68)), .p (i6 (y64_1)), .p (i6 (t62_2.Least)), .p (i6 (t62_2.Most)), .p (bo (t62_2.Lazy))]), (56, rowV 77 e_api_Node x33_1_1)], L0, []⟩) (fun v68 => J68 v68 = some r) ?_ (fun hJ68 => ?_)
        · rintro y68_1 h
          rw [eJ68] at h
          try dsimp only at h
          obtain ⟨c71_1, h⟩ := if_some h
          refine WC.r1 hn [(3, .app (some 56) (rowV 77 e_api_Node (x33_1_1 ++ ([(api_Node.mk t62_2.Kind t62_2.Class y68_1 y64_1 t62_2.Least t62_2.Most t62_2.Lazy)]))))] [0, 3, 5, 6] [3, 56] ⟨[(0, .own 56), (3, .ptr 3 0), (5, .p (i6 (((a0.length : Int))))), (6, .p (i6 (x33_1_2)))], [(3, .box 45 (vV7 a1)), (56, rowV 77 e_api_Node (x33_1_1 ++ ([(api_Node.mk t62_2.Kind t62_2.Class y68_1 y64_1 t62_2.Least t62_2.Most t62_2.Lazy)])))], L0, []⟩ (And.intro (Ap e_api_Node (some 56) 77 80 10 x33_1_1 ([(api_Node.mk t62_2.Kind t62_2.Class y68_1 y64_1 t62_2.Least t62_2.Most t62_2.Lazy)]) c71_1) (trivial)) ?_
          refine WX.popBlk ?_
          refine WC.r1 hn [] [0, 3, 5, 6] [3, 56] ⟨[(0, .own 56), (3, .ptr 3 0), (5, .p (i6 (((a0.length : Int))))), (6, .p (i6 (((IntKind.i64.wrap (x33_1_2 + 1))))))], [(3, .box 45 (vV7 a1)), (56, rowV 77 e_api_Node (x33_1_1 ++ ([(api_Node.mk t62_2.Kind t62_2.Class y68_1 y64_1 t62_2.Least t62_2.Most t62_2.Lazy)])))], L0, []⟩ trivial ?_
          exact WC.next [0, 3, 5, 6] [3, 56] (by kernel_rfl) (hnext33 (x33_1_1 ++ ([(api_Node.mk t62_2.Kind t62_2.Class y68_1 y64_1 t62_2.Least t62_2.Most t62_2.Lazy)]), (IntKind.i64.wrap (x33_1_2 + 1))) h)
        · replace hJ68 := fun y68_1 => hJ68 y68_1
          rcases if_or h with ⟨c73, h⟩ | ⟨c73, h⟩
          · refine WC.condT c73 (by kernel_rfl) ?_
            refine WC.r1 hn [] [0, 3, 5, 6, 7] [3, 7, 56] ⟨[(0, .own 56), (3, .ptr 3 0), (5, .p (i6 (((a0.length : Int))))), (6, .p (i6 (x33_1_2))), (7, .ptr 7 0)], [(3, .box 45 (vV7 a1)), (7, .box 77 [.p (i6 (t62_2.Kind)), .p (u6 (t62_2.Class.a0)), .p (u6 (t62_2.Class.a1)), .p (u6 (t62_2.Class.a2)), .p (u6 (t62_2.Class.a3)), .p (i6 (((IntKind.i64.wrap (t62_2.A + (a0.length : Int)))))), .p (i6 (y64_1)), .p (i6 (t62_2.Least)), .p (i6 (t62_2.Most)), .p (bo (t62_2.Lazy))]), (56, rowV 77 e_api_Node x33_1_1)], L0, []⟩ trivial ?_
            exact WC.keep [0, 3, 5, 6, 7] [3, 7, 56] (by kernel_rfl) (hJ68 ((IntKind.i64.wrap (t62_2.A + (a0.length : Int)))) h)
          · refine WC.condF c73 (by kernel_rfl) ?_
            refine WX.skip ?_
            exact WC.keep [0, 3, 5, 6, 7] [3, 7, 56] (by kernel_rfl) (hJ68 t62_2.A h)
      · replace hJ64 := fun y64_1 => hJ64 y64_1
        rcases if_or h with ⟨c75, h⟩ | ⟨c75, h⟩
        · refine WC.condT c75 (by kernel_rfl) ?_
          refine WC.r1 hn [] [0, 3, 5, 6, 7] [3, 7, 56] ⟨[(0, .own 56), (3, .ptr 3 0), (5, .p (i6 (((a0.length : Int))))), (6, .p (i6 (x33_1_2))), (7, .ptr 7 0)], [(3, .box 45 (vV7 a1)), (7, .box 77 [.p (i6 (t62_2.Kind)), .p (u6 (t62_2.Class.a0)), .p (u6 (t62_2.Class.a1)), .p (u6 (t62_2.Class.a2)), .p (u6 (t62_2.Class.a3)), .p (i6 (t62_2.A)), .p (i6 (((IntKind.i64.wrap (t62_2.B + (a0.length : Int)))))), .p (i6 (t62_2.Least)), .p (i6 (t62_2.Most)), .p (bo (t62_2.Lazy))]), (56, rowV 77 e_api_Node x33_1_1)], L0, []⟩ trivial ?_
          exact WC.keep [0, 3, 5, 6, 7] [3, 7, 56] (by kernel_rfl) (hJ64 ((IntKind.i64.wrap (t62_2.B + (a0.length : Int)))) h)
        · refine WC.condF c75 (by kernel_rfl) ?_
          refine WX.skip ?_
          exact WC.keep [0, 3, 5, 6, 7] [3, 7, 56] (by kernel_rfl) (hJ64 t62_2.B h)
    · refine WC.condF c61 (by kernel_rfl) ?_
      refine WX.exit ?_
      refine WX.popCodeExit ?_
      refine WC.exit_nil (hexit33 _ _ (by simp) ?_)
      refine WX.popBlkHit ?_
      exact WC.keep [0] [56] (by kernel_rfl) (hJ4 x33_1_1 h)
def riddleref05_may (k : Nat) (a0 : api_Tree) : Option (api_Tree) :=
  (riddleref05_May k a0).bind fun t2_2 => (if (!t2_2) = true then (riddleref05_Empty).bind fun t4_2 => some t4_2 else some a0)
theorem riddleref05_may_ok {k : Nat} {a0 : api_Tree} {r : api_Tree} (h : riddleref05_may k a0 = some r) : Ans Tryd.prog 65 [pP7 a0] (pP7 r) := by
  refine W_fn Tryd.func65 rfl (by kernel_rfl) (by kernel_rfl) ?_
  intro X hro hn
  unfold riddleref05_may at h
  refine WC.rg hn [] [1, 2] [1, 2] ⟨[(1, .ptr 1 0), (2, .ptr 2 0)], [(1, .box 45 (vV7 a0)), (2, .box 45 [.p (.sl .nil 0 [])])], L0, []⟩ trivial ?_
  refine WX.seq ?_
  refine WX.seq ?_
  obtain ⟨t2_2, h2_1, h⟩ := bind_some h
  refine WC.r1 hn [(1, .resP (bo (t2_2)))] [1, 2, 5] [1, 2] ⟨[(1, .ptr 1 0), (2, .ptr 2 0), (5, .p (bo (((!t2_2)))))], [(1, .box 45 (vV7 a0)), (2, .box 45 [.p (.sl .nil 0 [])])], L0, []⟩ (And.intro ((riddleref05_May_ok h2_1)) (trivial)) ?_
  rcases if_or h with ⟨c3, h⟩ | ⟨c3, h⟩
  · refine WC.condT c3 (by kernel_rfl) ?_
    refine WX.seq ?_
    obtain ⟨t4_2, h4_1, h⟩ := bind_some h
    refine WC.r1 hn [(0, .co [] [] [] [(6, rowV 77 e_api_Node t4_2.Nodes)] (.agg [.own 6]))] [2] [2, 6] ⟨[(2, .ptr 2 0)], [(2, .box 45 [.own 6]), (6, rowV 77 e_api_Node t4_2.Nodes)], L0, []⟩ (And.intro (And.intro ((riddleref05_Empty_ok h4_1).ren 2 6 (by kernel_rfl)) (trivial)) (trivial)) ?_
    refine WX.ret ?_
    exact WC.outP (by rw [← Option.some.inj h]; kernel_rfl)
  · refine WC.condF c3 (by kernel_rfl) ?_
    refine WX.skip ?_
    refine WC.rg hn [] [2] [2] ⟨[(2, .ptr 2 0)], [(2, .box 45 (vV7 a0))], L0, []⟩ trivial ?_
    refine WX.ret ?_
    exact WC.outP (by rw [← Option.some.inj h]; kernel_rfl)
def riddleref05_Join (k : Nat) (a0 : Int) (a1 : api_Tree) (a2 : api_Tree) : Option (api_Tree) :=
  (if (((a0 != 3)) && ((a0 != 4))) = true then (riddleref05_Empty).bind fun t4_2 => some t4_2 else (riddleref05_may k a1).bind fun t5_2 => (riddleref05_placed k ([]) t5_2).bind fun t5_4 => (riddleref05_may k a2).bind fun t7_2 => (riddleref05_placed k t5_4 t7_2).bind fun t7_4 => (if okApp 80 (t7_4.length + ([(api_Node.mk a0 ((Arr4.mk 0 0 0 0)) ((IntKind.i64.wrap ((t5_4.length : Int) - 1))) ((IntKind.i64.wrap ((t7_4.length : Int) - 1))) 0 0 false)]).length) then some ((api_Tree.mk (t7_4 ++ ([(api_Node.mk a0 ((Arr4.mk 0 0 0 0)) ((IntKind.i64.wrap ((t5_4.length : Int) - 1))) ((IntKind.i64.wrap ((t7_4.length : Int) - 1))) 0 0 false)])))) else none))
theorem riddleref05_Join_ok {k : Nat} {a0 : Int} {a1 : api_Tree} {a2 : api_Tree} {r : api_Tree} (h : riddleref05_Join k a0 a1 a2 = some r) : AnsO Tryd.prog 31 [] [.p (i6 (a0)), .p (pP7 a1), .p (pP7 a2)] [(15, rowV 77 e_api_Node r.Nodes)] (.agg [.own 15]) := by
  refine W_fnO [15] Tryd.func31 rfl (by kernel_rfl) (by kernel_rfl) (by kernel_rfl) (by kernel_rfl) ?_
  intro X hro hn
  unfold riddleref05_Join at h
  refine WC.rg hn [] [0, 4, 5, 6] [4, 5, 6] ⟨[(0, .p (i6 (a0))), (4, .ptr 4 0), (5, .ptr 5 0), (6, .ptr 6 0)], [(4, .box 45 (vV7 a1)), (5, .box 45 (vV7 a2)), (6, .box 45 [.p (.sl .nil 0 [])])], L0, []⟩ trivial ?_
  refine WX.seq ?_
  refine WX.seq ?_
  refine WC.via (α := Bool) (fun v2 => ⟨[(0, .p (i6 (a0))), (4, .ptr 4 0), (5, .ptr 5 0), (6, .ptr 6 0), (14, .p (bo (v2)))], [(4, .box 45 (vV7 a1)), (5, .box 45 (vV7 a2)), (6, .box 45 [.p (.sl .nil 0 [])])], L0, []⟩) ((((a0 != 3)) && ((a0 != 4)))) (fun hk => ?_) ?_
  · rcases Bool.eq_false_or_eq_true ((a0 != 3)) with b2_2 | b2_2
    · exact WC.reg hn [(2, .val (.p (bo (true))))] [0, 4, 5, 6, 14] [4, 5, 6] ⟨[(0, .p (i6 (a0))), (4, .ptr 4 0), (5, .ptr 5 0), (6, .ptr 6 0), (14, .p (bo (((a0 != 4)))))], [(4, .box 45 (vV7 a1)), (5, .box 45 (vV7 a2)), (6, .box 45 [.p (.sl .nil 0 [])])], L0, []⟩ (And.intro (Bl b2_2) (trivial)) (by kernel_rfl) (hk ((a0 != 4)) (by first | (rw [b2_2]; rfl) | simp [b2_2]))
    · exact WC.reg hn [(2, .val (.p (bo (false))))] [0, 4, 5, 6, 14] [4, 5, 6] ⟨[(0, .p (i6 (a0))), (4, .ptr 4 0), (5, .ptr 5 0), (6, .ptr 6 0), (14, .p (bo (false)))], [(4, .box 45 (vV7 a1)), (5, .box 45 (vV7 a2)), (6, .box 45 [.p (.sl .nil 0 [])])], L0, []⟩ (And.intro (Bl b2_2) (trivial)) (by kernel_rfl) (hk false (by first | (rw [b2_2]; rfl) | simp [b2_2]))
  rcases if_or h with ⟨c3, h⟩ | ⟨c3, h⟩
  · refine WC.condT c3 (by kernel_rfl) ?_
    refine WX.seq ?_
    obtain ⟨t4_2, h4_1, h⟩ := bind_some h
    refine WC.r1 hn [(0, .co [] [] [] [(15, rowV 77 e_api_Node t4_2.Nodes)] (.agg [.own 15]))] [6] [6, 15] ⟨[(6, .ptr 6 0)], [(6, .box 45 [.own 15]), (15, rowV 77 e_api_Node t4_2.Nodes)], L0, []⟩ (And.intro (And.intro ((riddleref05_Empty_ok h4_1).ren 2 15 (by kernel_rfl)) (trivial)) (trivial)) ?_
    refine WX.ret ?_
    exact WC.outO (by rw [← Option.some.inj h]; kernel_rfl)
  · refine WC.condF c3 (by kernel_rfl) ?_
    refine WX.skip ?_
    refine WX.seq ?_
    obtain ⟨t5_2, h5_1, h⟩ := bind_some h
    obtain ⟨t5_4, h5_3, h⟩ := bind_some h
    refine WC.r1 hn [(1, .resP (pP7 t5_2)), (2, .co [0] [] [] [(18, rowV 77 e_api_Node t5_4)] (.own 18))] [0, 5, 6, 7] [5, 6, 18] ⟨[(0, .p (i6 (a0))), (5, .ptr 5 0), (6, .ptr 6 0), (7, .own 18)], [(5, .box 45 (vV7 a2)), (6, .box 45 [.p (.sl .nil 0 [])]), (18, rowV 77 e_api_Node t5_4)], L0, []⟩ (And.intro ((riddleref05_may_ok h5_1)) (And.intro (And.intro (((riddleref05_placed_ok h5_3).nil 1000 (by kernel_rfl)).ren 56 18 (by kernel_rfl)) (trivial)) (trivial))) ?_
    refine WC.rg hn [] [0, 5, 6, 7, 8] [5, 6, 18] ⟨[(0, .p (i6 (a0))), (5, .ptr 5 0), (6, .ptr 6 0), (7, .own 18), (8, .p (i6 (((IntKind.i64.wrap ((t5_4.length : Int) - 1))))))], [(5, .box 45 (vV7 a2)), (6, .box 45 [.p (.sl .nil 0 [])]), (18, rowV 77 e_api_Node t5_4)], L0, []⟩ trivial ?_
    refine WX.seq ?_
    obtain ⟨t7_2, h7_1, h⟩ := bind_some h
    obtain ⟨t7_4, h7_3, h⟩ := bind_some h
    refine WC.r1 hn [(2, .resP (pP7 t7_2)), (3, .co [] [18] [] [(25, rowV 77 e_api_Node t7_4)] (.own 25))] [0, 6, 7, 8] [6, 25] ⟨[(0, .p (i6 (a0))), (6, .ptr 6 0), (7, .own 25), (8, .p (i6 (((IntKind.i64.wrap ((t5_4.length : Int) - 1))))))], [(6, .box 45 [.p (.sl .nil 0 [])]), (25, rowV 77 e_api_Node t7_4)], L0, []⟩ (And.intro ((riddleref05_may_ok h7_1)) (And.intro (And.intro (((riddleref05_placed_ok h7_3).ren 1000 18 (by kernel_rfl)).ren 56 25 (by kernel_rfl)) (trivial)) (trivial))) ?_
    refine WX.seq ?_
    obtain ⟨c8_1, h⟩ := if_some h
    refine WC.r1 hn [(8, .app (some 25) (rowV 77 e_api_Node (t7_4 ++ ([(api_Node.mk a0 ((Arr4.mk 0 0 0 0)) ((IntKind.i64.wrap ((t5_4.length : Int) - 1))) ((IntKind.i64.wrap ((t7_4.length : Int) - 1))) 0 0 false)]))))] [6] [6, 34] ⟨[(6, .ptr 6 0)], [(6, .box 45 [.own 34]), (34, rowV 77 e_api_Node (t7_4 ++ ([(api_Node.mk a0 ((Arr4.mk 0 0 0 0)) ((IntKind.i64.wrap ((t5_4.length : Int) - 1))) ((IntKind.i64.wrap ((t7_4.length : Int) - 1))) 0 0 false)])))], L0, []⟩ (And.intro (Ap e_api_Node (some 25) 77 80 10 t7_4 ([(api_Node.mk a0 ((Arr4.mk 0 0 0 0)) ((IntKind.i64.wrap ((t5_4.length : Int) - 1))) ((IntKind.i64.wrap ((t7_4.length : Int) - 1))) 0 0 false)]) c8_1) (trivial)) ?_
    refine WX.ret ?_
    refine WC.ren hn 34 15 (by kernel_rfl) [6] [6, 15] (st' := ⟨[(6, .ptr 6 0)], [(6, .box 45 [.own 15]), (15, rowV 77 e_api_Node (t7_4 ++ ([(api_Node.mk a0 ((Arr4.mk 0 0 0 0)) ((IntKind.i64.wrap ((t5_4.length : Int) - 1))) ((IntKind.i64.wrap ((t7_4.length : Int) - 1))) 0 0 false)])))], L0, []⟩) (by kernel_rfl) ?_
    exact WC.outO (by rw [← Option.some.inj h]; kernel_rfl)
theorem riddleref05_Join_okP {k : Nat} {a0 : Int} {a1 : api_Tree} {a2 : api_Tree} {r : api_Tree} (h : riddleref05_Join k a0 a1 a2 = some r) : Ans Tryd.prog 31 [i6 (a0), pP7 a1, pP7 a2] (pP7 r) := AnsO.ans (args := [i6 (a0), pP7 a1, pP7 a2]) (riddleref05_Join_ok h) (by kernel_rfl)
def riddleref05_Repeat (k : Nat) (a0 : api_Tree) (a1 : Int) (a2 : Int) (a3 : Bool) : Option (api_Tree) :=
  (riddleref05_may k a0).bind fun t2_2 => (riddleref05_placed k ([]) t2_2).bind fun t2_4 => (if okApp 80 (t2_4.length + ([(api_Node.mk 5 ((Arr4.mk 0 0 0 0)) ((IntKind.i64.wrap ((t2_4.length : Int) - 1))) 0 a1 a2 a3)]).length) then some ((api_Tree.mk (t2_4 ++ ([(api_Node.mk 5 ((Arr4.mk 0 0 0 0)) ((IntKind.i64.wrap ((t2_4.length : Int) - 1))) 0 a1 a2 a3)])))) else none)
theorem riddleref05_Repeat_ok {k : Nat} {a0 : api_Tree} {a1 : Int} {a2 : Int} {a3 : Bool} {r : api_Tree} (h : riddleref05_Repeat k a0 a1 a2 a3 = some r) : AnsO Tryd.prog 32 [] [.p (pP7 a0), .p (i6 (a1)), .p (i6 (a2)), .p (bo (a3))] [(22, rowV 77 e_api_Node r.Nodes)] (.agg [.own 22]) := by
  refine W_fnO [22] Tryd.func32 rfl (by kernel_rfl) (by kernel_rfl) (by kernel_rfl) (by kernel_rfl) ?_
  intro X hro hn
  unfold riddleref05_Repeat at h
  refine WC.rg hn [] [1, 2, 3, 4, 8] [4, 8] ⟨[(1, .p (i6 (a1))), (2, .p (i6 (a2))), (3, .p (bo (a3))), (4, .ptr 4 0), (8, .ptr 8 0)], [(4, .box 45 (vV7 a0)), (8, .box 45 [.p (.sl .nil 0 [])])], L0, []⟩ trivial ?_
  refine WX.seq ?_
  obtain ⟨t2_2, h2_1, h⟩ := bind_some h
  obtain ⟨t2_4, h2_3, h⟩ := bind_some h
  refine WC.r1 hn [(1, .resP (pP7 t2_2)), (2, .co [0] [] [] [(12, rowV 77 e_api_Node t2_4)] (.own 12))] [1, 2, 3, 8, 9] [8, 12] ⟨[(1, .p (i6 (a1))), (2, .p (i6 (a2))), (3, .p (bo (a3))), (8, .ptr 8 0), (9, .own 12)], [(8, .box 45 [.p (.sl .nil 0 [])]), (12, rowV 77 e_api_Node t2_4)], L0, []⟩ (And.intro ((riddleref05_may_ok h2_1)) (And.intro (And.intro (((riddleref05_placed_ok h2_3).nil 1000 (by kernel_rfl)).ren 56 12 (by kernel_rfl)) (trivial)) (trivial))) ?_
  refine WX.seq ?_
  obtain ⟨c3_1, h⟩ := if_some h
  refine WC.r1 hn [(9, .app (some 12) (rowV 77 e_api_Node (t2_4 ++ ([(api_Node.mk 5 ((Arr4.mk 0 0 0 0)) ((IntKind.i64.wrap ((t2_4.length : Int) - 1))) 0 a1 a2 a3)]))))] [8] [8, 22] ⟨[(8, .ptr 8 0)], [(8, .box 45 [.own 22]), (22, rowV 77 e_api_Node (t2_4 ++ ([(api_Node.mk 5 ((Arr4.mk 0 0 0 0)) ((IntKind.i64.wrap ((t2_4.length : Int) - 1))) 0 a1 a2 a3)])))], L0, []⟩ (And.intro (Ap e_api_Node (some 12) 77 80 10 t2_4 ([(api_Node.mk 5 ((Arr4.mk 0 0 0 0)) ((IntKind.i64.wrap ((t2_4.length : Int) - 1))) 0 a1 a2 a3)]) c3_1) (trivial)) ?_
  refine WX.ret ?_
  exact WC.outO (by rw [← Option.some.inj h]; kernel_rfl)
theorem riddleref05_Repeat_okP {k : Nat} {a0 : api_Tree} {a1 : Int} {a2 : Int} {a3 : Bool} {r : api_Tree} (h : riddleref05_Repeat k a0 a1 a2 a3 = some r) : Ans Tryd.prog 32 [pP7 a0, i6 (a1), i6 (a2), bo (a3)] (pP7 r) := AnsO.ans (args := [pP7 a0, i6 (a1), i6 (a2), bo (a3)]) (riddleref05_Repeat_ok h) (by kernel_rfl)
def riddlelaw23_live (k : Nat)  : Option (Bool) :=
  (riddlelaw23_one 97).bind fun t2_2 => (riddleref05_Repeat k t2_2 0 ((-1)) false).bind fun t4_2 => (riddleref05_Join k 3 t2_2 t4_2).bind fun t4_4 => (riddlelaw23_one 98).bind fun t4_6 => (riddleref05_Join k 3 t4_4 t4_6).bind fun t4_8 => (riddleref10_Of k t4_8).bind fun t4_10 => ((if (t4_10.2 == 0) = true then (riddlelaw23_events k t4_10.1 ([120, 97, 97, 97, 98]) false false).bind fun t5_2 => (slices_Equal_riddle_riddleref23_Event_riddle_riddleref23_Event k t5_2 ([(riddleref23_Event.mk 5 1)])).bind fun t5_4 => some t5_4 else some false) : Option (Bool)).bind fun v5 => some v5
theorem riddlelaw23_live_ok {k : Nat}  {r : Bool} (h : riddlelaw23_live k = some r) : Ans Tryd.prog 7 [] (bo (r)) := by
  refine W_fn Tryd.func7 rfl (by kernel_rfl) (by kernel_rfl) ?_
  intro X hro hn
  unfold riddlelaw23_live at h
  refine WC.rg hn [] [] [] ⟨[], [], L0, []⟩ trivial ?_
  refine WX.seq ?_
  obtain ⟨t2_2, h2_1, h⟩ := bind_some h
  refine WC.r1 hn [(0, .co [] [] [] [(4, rowV 77 e_api_Node t2_2.Nodes)] (.agg [.own 4]))] [1] [1, 4] ⟨[(1, .ptr 1 0)], [(1, .box 45 [.own 4]), (4, rowV 77 e_api_Node t2_2.Nodes)], L0, []⟩ (And.intro (And.intro ((riddlelaw23_one_ok h2_1).ren 13 4 (by kernel_rfl)) (trivial)) (trivial)) ?_
  refine WX.seq ?_
  refine WC.frz 4 (st' := ⟨[(1, .ptr 1 0)], [(1, .box 45 (vV7 t2_2))], L0, []⟩) (by kernel_rfl) ?_
  obtain ⟨t4_2, h4_1, h⟩ := bind_some h
  obtain ⟨t4_4, h4_3, h⟩ := bind_some h
  obtain ⟨t4_6, h4_5, h⟩ := bind_some h
  obtain ⟨t4_8, h4_7, h⟩ := bind_some h
  obtain ⟨t4_10, h4_9, h⟩ := bind_some h
  refine WC.drw hn [(11, [9])] [2] [(2, .resP (pP7 t4_2)), (3, .resP (pP7 t4_4)), (4, .resP (pP7 t4_6)), (5, .resP (pP7 t4_8)), (6, .resP (.tup [pP2 t4_10.1, i6 (t4_10.2)]))] [2, 3] [2] ⟨[(2, .ptr 2 0), (3, .p (i6 (t4_10.2)))], [(2, .box 28 (vV2 t4_10.1))], L0, []⟩ (And.intro ((riddleref05_Repeat_okP h4_1)) (And.intro ((riddleref05_Join_okP h4_3)) (And.intro ((riddlelaw23_one_okP h4_5)) (And.intro ((riddleref05_Join_okP h4_7)) (And.intro ((riddleref10_Of_ok h4_9)) (And.intro (And.intro (Eq.refl (some (.p (i6 (t4_10.2)) : AV))) (trivial)) (trivial))))))) (by kernel_rfl) (by kernel_rfl) (by kernel_rfl) (by kernel_rfl) ?_
  refine WX.seq ?_
  obtain ⟨m5_1, g5, h⟩ := bind_some h
  refine WC.via (α := Bool) (fun v5 => ⟨[(0, .p (bo (v5)))], [], L0, []⟩) m5_1 (fun hk => ?_) ?_
  · rcases if_or g5 with ⟨b5_2, g5⟩ | ⟨b5_2, g5⟩
    · obtain ⟨t5_2, h5_1, g5⟩ := bind_some g5
      obtain ⟨t5_4, h5_3, g5⟩ := bind_some g5
      exact WC.reg hn [(2, .val (.p (bo (true)))), (6, .co [] [] [] [(21, rowV 38 e_riddleref23_Event t5_2)] (.own 21)), (9, .res (bo (t5_4)))] [0] [] ⟨[(0, .p (bo (t5_4)))], [], L0, []⟩ (And.intro (Bl b5_2) (And.intro (And.intro ((riddlelaw23_events_ok h5_1).ren 28 21 (by kernel_rfl)) (trivial)) (And.intro (And.intro (slices_Equal_riddle_riddleref23_Event_riddle_riddleref23_Event_ok h5_3) (rfl : (bo (t5_4) : PV).flat = true)) (trivial)))) (by kernel_rfl) (hk t5_4 (Option.some.inj g5))
    · exact WC.reg hn [(2, .val (.p (bo (false))))] [0] [] ⟨[(0, .p (bo (false)))], [], L0, []⟩ (And.intro (Bl b5_2) (trivial)) (by kernel_rfl) (hk false (Option.some.inj g5))
  refine WX.ret ?_
  exact WC.outP (by rw [← Option.some.inj h]; kernel_rfl)
def riddleref23_may (k : Nat) (a0 : api_Nfa) : Option (api_Nfa) :=
  (riddleref10_Check k a0).bind fun t2_2 => (if (t2_2 != 0) = true then some ((api_Nfa.mk ([]) ((api_Bits.mk 0 ([]))) ((api_Bits.mk 0 ([]))) ([]) false)) else some a0)
theorem riddleref23_may_ok {k : Nat} {a0 : api_Nfa} {r : api_Nfa} (h : riddleref23_may k a0 = some r) : Ans Tryd.prog 34 [pP2 a0] (pP2 r) := by
  refine W_fn Tryd.func34 rfl (by kernel_rfl) (by kernel_rfl) ?_
  intro X hro hn
  unfold riddleref23_may at h
  refine WC.rg hn [] [1, 2] [1, 2] ⟨[(1, .ptr 1 0), (2, .ptr 2 0)], [(1, .box 28 (vV2 a0)), (2, .box 28 [.p (.sl .nil 0 []), .p (i6 (0)), .p (.sl .nil 0 []), .p (i6 (0)), .p (.sl .nil 0 []), .p (.sl .nil 0 []), .p (bo (false))])], L0, []⟩ trivial ?_
  refine WX.seq ?_
  refine WX.seq ?_
  obtain ⟨t2_2, h2_1, h⟩ := bind_some h
  refine WC.r1 hn [(1, .resP (i6 (t2_2)))] [1, 2, 5] [1, 2] ⟨[(1, .ptr 1 0), (2, .ptr 2 0), (5, .p (bo (((t2_2 != 0)))))], [(1, .box 28 (vV2 a0)), (2, .box 28 [.p (.sl .nil 0 []), .p (i6 (0)), .p (.sl .nil 0 []), .p (i6 (0)), .p (.sl .nil 0 []), .p (.sl .nil 0 []), .p (bo (false))])], L0, []⟩ (And.intro ((riddleref10_Check_ok h2_1)) (trivial)) ?_
  rcases if_or h with ⟨c3, h⟩ | ⟨c3, h⟩
  · refine WC.condT c3 (by kernel_rfl) ?_
    refine WC.rg hn [] [2] [2] ⟨[(2, .ptr 2 0)], [(2, .box 28 [.p (.sl .nil 0 []), .p (i6 (0)), .p (.sl .nil 0 []), .p (i6 (0)), .p (.sl .nil 0 []), .p (.sl .nil 0 []), .p (bo (false))])], L0, []⟩ trivial ?_
    refine WX.ret ?_
    exact WC.outP (by rw [← Option.some.inj h]; kernel_rfl)
  · refine WC.condF c3 (by kernel_rfl) ?_
    refine WX.skip ?_
    refine WC.rg hn [] [2] [2] ⟨[(2, .ptr 2 0)], [(2, .box 28 (vV2 a0))], L0, []⟩ trivial ?_
    refine WX.ret ?_
    exact WC.outP (by rw [← Option.some.inj h]; kernel_rfl)
def riddleref23_None_l0 (t2_2 : api_Nfa) (J5 : List Int → Option ((List Int))) : Nat → (List Int × Int) → Option ((List Int))
  | 0, _ => none
  | k + 1, (x16_1_1, x16_1_2) => (if (decide (x16_1_2 < (t2_2.Classes.length : Int))) = true then (if okApp 8 (x16_1_1.length + ([(-1)]).length) then riddleref23_None_l0 t2_2 J5 k (x16_1_1 ++ ([(-1)]), (IntKind.i64.wrap (x16_1_2 + 1))) else none) else J5 x16_1_1)
def riddleref23_None (k : Nat) (a0 : api_Nfa) : Option ((List Int)) :=
  (riddleref23_may k a0).bind fun t2_2 => jn (fun (v5 : List Int) => some v5) fun J5 => riddleref23_None_l0 t2_2 J5 k (([] : List Int), 0)
theorem riddleref23_None_ok {k : Nat} {a0 : api_Nfa} {r : (List Int)} (h : riddleref23_None k a0 = some r) : AnsO Tryd.prog 22 [] [.p (pP2 a0)] [(16, rI 2 r)] (.own 16) := by
  refine W_fnO [16] Tryd.func22 rfl (by kernel_rfl) (by kernel_rfl) (by kernel_rfl) (by kernel_rfl) ?_
  intro X hro hn
  unfold riddleref23_None at h
  refine WC.rg hn [] [1] [1] ⟨[(1, .ptr 1 0)], [(1, .box 28 (vV2 a0))], L0, []⟩ trivial ?_
  refine WX.seq ?_
  obtain ⟨t2_2, h2_1, h⟩ := bind_some h
  refine WC.r1 hn [(1, .resP (pP2 t2_2))] [1] [1] ⟨[(1, .ptr 1 0)], [(1, .box 28 (vV2 t2_2))], L0, []⟩ (And.intro ((riddleref23_may_ok h2_1)) (trivial)) ?_
  refine WC.rg hn [] [1, 3] [1] ⟨[(1, .ptr 1 0), (3, .p (.sl .nil 0 []))], [(1, .box 28 (vV2 t2_2))], L0, []⟩ trivial ?_
  refine WX.seq ?_
  refine WC.rg hn [] [1, 3, 4] [1] ⟨[(1, .ptr 1 0), (3, .p (.sl .nil 0 [])), (4, .p (i6 (0)))], [(1, .box 28 (vV2 t2_2))], L0, []⟩ trivial ?_
  obtain ⟨J5, eJ5, h⟩ := jn_some h
  try dsimp only at h
  refine WC.join (α := List Int) (fun v5 => ⟨[(3, .own 16)], [(16, rI 2 v5)], L0, []⟩) (fun v5 => J5 v5 = some r) ?_ (fun hJ5 => ?_)
  · rintro y5_1 h
    rw [eJ5] at h
    try dsimp only at h
    refine WC.rg hn [] [2] [16] ⟨[(2, .own 16)], [(16, rI 2 y5_1)], L0, []⟩ trivial ?_
    refine WX.ret ?_
    exact WC.outO (by rw [← Option.some.inj h]; kernel_rfl)
  · replace hJ5 := fun y5_1 => hJ5 y5_1
    refine WX.block ?_
    refine WC.nil hn [3] none 16 2 1 (by kernel_rfl) [1, 3, 4] [1, 16] (st' := ⟨[(1, .ptr 1 0), (3, .own 16), (4, .p (i6 (0)))], [(1, .box 28 (vV2 t2_2)), (16, rI 2 (([] : List Int)))], L0, []⟩) (by kernel_rfl) ?_
    refine WC.loop (V := List Int × Int) (riddleref23_None_l0 t2_2 J5) r (fun v16 => ⟨[(1, .ptr 1 0), (3, .own 16), (4, .p (i6 (v16.2)))], [(1, .box 28 (vV2 t2_2)), (16, rI 2 v16.1)], L0, []⟩) _ (([] : List Int), 0) h (fun _ => rfl) [1, 3, 4] [1, 16] (by kernel_rfl) ?_
    clear h; rintro k ⟨x16_1_1, x16_1_2⟩ h K16 hnext16 hexit16
    rw [riddleref23_None_l0] at h
    refine WX.seq ?_
    refine WC.rg hn [] [1, 3, 4, 11] [1, 16] ⟨[(1, .ptr 1 0), (3, .own 16), (4, .p (i6 (x16_1_2))), (11, .p (bo (((decide (x16_1_2 < (t2_2.Classes.length : Int)))))))], [(1, .box 28 (vV2 t2_2)), (16, rI 2 x16_1_1)], L0, []⟩ trivial ?_
    rcases if_or h with ⟨c26, h⟩ | ⟨c26, h⟩
    · refine WC.condT c26 (by kernel_rfl) ?_
      refine WX.skip ?_
      refine WX.seq ?_
      refine WX.block ?_
      obtain ⟨c27_1, h⟩ := if_some h
      refine WC.r1 hn [(2, .app (some 16) (rI 2 (x16_1_1 ++ ([(-1)]))))] [1, 3, 4] [1, 16] ⟨[(1, .ptr 1 0), (3, .own 16), (4, .p (i6 (x16_1_2)))], [(1, .box 28 (vV2 t2_2)), (16, rI 2 (x16_1_1 ++ ([(-1)])))], L0, []⟩ (And.intro (Ap (eI .i64) (some 16) 2 8 1 x16_1_1 ([(-1)]) c27_1) (trivial)) ?_
      refine WX.popBlk ?_
      refine WC.r1 hn [] [1, 3, 4] [1, 16] ⟨[(1, .ptr 1 0), (3, .own 16), (4, .p (i6 (((IntKind.i64.wrap (x16_1_2 + 1))))))], [(1, .box 28 (vV2 t2_2)), (16, rI 2 (x16_1_1 ++ ([(-1)])))], L0, []⟩ trivial ?_
      exact WC.next [1, 3, 4] [1, 16] (by kernel_rfl) (hnext16 (x16_1_1 ++ ([(-1)]), (IntKind.i64.wrap (x16_1_2 + 1))) h)
    · refine WC.condF c26 (by kernel_rfl) ?_
      refine WX.exit ?_
      refine WX.popCodeExit ?_
      refine WC.exit_nil (hexit16 _ _ (by simp) ?_)
      refine WX.popBlkHit ?_
      exact WC.keep [3] [16] (by kernel_rfl) (hJ5 x16_1_1 h)
theorem riddleref23_None_okP {k : Nat} {a0 : api_Nfa} {r : (List Int)} (h : riddleref23_None k a0 = some r) : Ans Tryd.prog 22 [pP2 a0] (sI r) := AnsO.ans (args := [pP2 a0]) (riddleref23_None_ok h) (by kernel_rfl)
def riddleref23_Check_l0 (a1 : (List Int)) (J6 : Unit → Option (Int)) : Nat → Int → Option (Int)
  | 0, _ => none
  | k + 1, x21_1_1 => (if (decide (x21_1_1 < (a1.length : Int))) = true then (at_ a1 x21_1_1).bind fun t36_2 => (if (((decide (t36_2 < (-1)))) || ((decide (t36_2 > 4611686018427387904)))) = true then some 1 else riddleref23_Check_l0 a1 J6 k ((IntKind.i64.wrap (x21_1_1 + 1)))) else J6 ())
def riddleref23_Check (k : Nat) (a0 : api_Nfa) (a1 : (List Int)) : Option (Int) :=
  (riddleref23_may k a0).bind fun t2_2 => (if ((a1.length : Int) != (t2_2.Classes.length : Int)) = true then some 1 else jn (fun (v6 : Unit) => some 0) fun J6 => riddleref23_Check_l0 a1 J6 k 0)
theorem riddleref23_Check_ok {k : Nat} {a0 : api_Nfa} {a1 : (List Int)} {r : Int} (h : riddleref23_Check k a0 a1 = some r) : Ans Tryd.prog 20 [pP2 a0, sI a1] (i6 (r)) := by
  refine W_fn Tryd.func20 rfl (by kernel_rfl) (by kernel_rfl) ?_
  intro X hro hn
  unfold riddleref23_Check at h
  refine WC.rg hn [] [1, 2] [2] ⟨[(1, .p (sI a1)), (2, .ptr 2 0)], [(2, .box 28 (vV2 a0))], L0, []⟩ trivial ?_
  refine WX.seq ?_
  refine WX.seq ?_
  obtain ⟨t2_2, h2_1, h⟩ := bind_some h
  refine WC.r1 hn [(3, .resP (pP2 t2_2))] [1, 12] [] ⟨[(1, .p (sI a1)), (12, .p (bo ((((a1.length : Int) != (t2_2.Classes.length : Int))))))], [], L0, []⟩ (And.intro ((riddleref23_may_ok h2_1)) (trivial)) ?_
  rcases if_or h with ⟨c3, h⟩ | ⟨c3, h⟩
  · refine WC.condT c3 (by kernel_rfl) ?_
    refine WC.rg hn [] [4] [] ⟨[(4, .p (i6 (1)))], [], L0, []⟩ trivial ?_
    refine WX.ret ?_
    exact WC.outP (by rw [← Option.some.inj h]; kernel_rfl)
  · refine WC.condF c3 (by kernel_rfl) ?_
    refine WX.skip ?_
    refine WX.seq ?_
    refine WC.rg hn [] [1, 5] [] ⟨[(1, .p (sI a1)), (5, .p (i6 (0)))], [], L0, []⟩ trivial ?_
    obtain ⟨J6, eJ6, h⟩ := jn_some h
    try dsimp only at h
    refine WC.join (α := Unit) (fun v6 => ⟨[], [], L0, []⟩) (fun v6 => J6 v6 = some r) ?_ (fun hJ6 => ?_)
    · rintro _ h
      rw [eJ6] at h
      try dsimp only at h
      refine WC.rg hn [] [4] [] ⟨[(4, .p (i6 (0)))], [], L0, []⟩ trivial ?_
      refine WX.ret ?_
      exact WC.outP (by rw [← Option.some.inj h]; kernel_rfl)
    · skip
      refine WX.block ?_
      refine WC.loop (V := Int) (riddleref23_Check_l0 a1 J6) r (fun v21 => ⟨[(1, .p (sI a1)), (5, .p (i6 (v21)))], [], L0, []⟩) _ 0 h (fun _ => rfl) [1, 5] [] (by kernel_rfl) ?_
      clear h; rintro k x21_1_1 h K21 hnext21 hexit21
      rw [riddleref23_Check_l0] at h
      refine WX.seq ?_
      refine WC.rg hn [] [1, 5, 16] [] ⟨[(1, .p (sI a1)), (5, .p (i6 (x21_1_1))), (16, .p (bo (((decide (x21_1_1 < (a1.length : Int)))))))], [], L0, []⟩ trivial ?_
      rcases if_or h with ⟨c35, h⟩ | ⟨c35, h⟩
      · refine WC.condT c35 (by kernel_rfl) ?_
        refine WX.skip ?_
        refine WX.seq ?_
        refine WX.block ?_
        refine WX.seq ?_
        obtain ⟨t36_2, h36_1, h⟩ := bind_some h
        refine WC.via (α := Bool) (fun v36 => ⟨[(1, .p (sI a1)), (5, .p (i6 (x21_1_1))), (30, .p (bo (v36)))], [], L0, []⟩) ((((decide (t36_2 < (-1)))) || ((decide (t36_2 > 4611686018427387904))))) (fun hk => ?_) ?_
        · rcases Bool.eq_false_or_eq_true ((decide (t36_2 < (-1)))) with b36_5 | b36_5
          · exact WC.reg hn [(2, .val (.p (.rop ((eI .i64).cells t36_2 ++ encL (eI .i64) (a1.drop (x21_1_1.toNat + 1)))))), (5, .val (.p (bo (true))))] [1, 5, 30] [] ⟨[(1, .p (sI a1)), (5, .p (i6 (x21_1_1))), (30, .p (bo (true)))], [], L0, []⟩ (And.intro (Ix (eI .i64) h36_1) (And.intro (Bl b36_5) (trivial))) (by kernel_rfl) (hk true (by first | (rw [b36_5]; rfl) | simp [b36_5]))
          · exact WC.reg hn [(2, .val (.p (.rop ((eI .i64).cells t36_2 ++ encL (eI .i64) (a1.drop (x21_1_1.toNat + 1)))))), (5, .val (.p (bo (false)))), (8, .val (.p (.rop ((eI .i64).cells t36_2 ++ encL (eI .i64) (a1.drop (x21_1_1.toNat + 1))))))] [1, 5, 30] [] ⟨[(1, .p (sI a1)), (5, .p (i6 (x21_1_1))), (30, .p (bo (((decide (t36_2 > 4611686018427387904))))))], [], L0, []⟩ (And.intro (Ix (eI .i64) h36_1) (And.intro (Bl b36_5) (And.intro (Ix (eI .i64) h36_1) (trivial)))) (by kernel_rfl) (hk ((decide (t36_2 > 4611686018427387904))) (by first | (rw [b36_5]; rfl) | simp [b36_5]))
        rcases if_or h with ⟨c37, h⟩ | ⟨c37, h⟩
        · refine WC.condT c37 (by kernel_rfl) ?_
          refine WC.rg hn [] [4] [] ⟨[(4, .p (i6 (1)))], [], L0, []⟩ trivial ?_
          refine WX.ret ?_
          refine WC.ret_all (hexit21 _ _ (by simp) ?_)
          exact WC.outP (by rw [← Option.some.inj h]; kernel_rfl)
        · refine WC.condF c37 (by kernel_rfl) ?_
          refine WX.skip ?_
          refine WX.popBlk ?_
          refine WC.r1 hn [] [1, 5] [] ⟨[(1, .p (sI a1)), (5, .p (i6 (((IntKind.i64.wrap (x21_1_1 + 1))))))], [], L0, []⟩ trivial ?_
          exact WC.next [1, 5] [] (by kernel_rfl) (hnext21 ((IntKind.i64.wrap (x21_1_1 + 1))) h)
      · refine WC.condF c35 (by kernel_rfl) ?_
        refine WX.exit ?_
        refine WX.popCodeExit ?_
        refine WC.exit_nil (hexit21 _ _ (by simp) ?_)
        refine WX.popBlkHit ?_
        exact WC.keep [] [] (by kernel_rfl) (hJ6 () h)
def riddleref23_state (k : Nat) (a0 : api_Nfa) (a1 : (List Int)) : Option ((List Int)) :=
  (riddleref23_Check k a0 a1).bind fun t2_2 => (if (t2_2 != 0) = true then (riddleref23_None k a0).bind fun t4_2 => some t4_2 else some a1)
theorem riddleref23_state_ok {k : Nat} {a0 : api_Nfa} {a1 : (List Int)} {r : (List Int)} (h : riddleref23_state k a0 a1 = some r) : Ans Tryd.prog 51 [pP2 a0, sI a1] (sI r) := by
  refine W_fn Tryd.func51 rfl (by kernel_rfl) (by kernel_rfl) ?_
  intro X hro hn
  unfold riddleref23_state at h
  refine WC.rg hn [] [1, 2] [2] ⟨[(1, .p (sI a1)), (2, .ptr 2 0)], [(2, .box 28 (vV2 a0))], L0, []⟩ trivial ?_
  refine WX.seq ?_
  refine WX.seq ?_
  obtain ⟨t2_2, h2_1, h⟩ := bind_some h
  refine WC.r1 hn [(2, .resP (i6 (t2_2)))] [1, 2, 8] [2] ⟨[(1, .p (sI a1)), (2, .ptr 2 0), (8, .p (bo (((t2_2 != 0)))))], [(2, .box 28 (vV2 a0))], L0, []⟩ (And.intro ((riddleref23_Check_ok h2_1)) (trivial)) ?_
  rcases if_or h with ⟨c3, h⟩ | ⟨c3, h⟩
  · refine WC.condT c3 (by kernel_rfl) ?_
    refine WX.seq ?_
    obtain ⟨t4_2, h4_1, h⟩ := bind_some h
    refine WC.r1 hn [(1, .co [] [] [] [(10, rI 2 t4_2)] (.own 10))] [4] [10] ⟨[(4, .own 10)], [(10, rI 2 t4_2)], L0, []⟩ (And.intro (And.intro ((riddleref23_None_ok h4_1).ren 16 10 (by kernel_rfl)) (trivial)) (trivial)) ?_
    refine WX.ret ?_
    exact WC.outP (by rw [← Option.some.inj h]; kernel_rfl)
  · refine WC.condF c3 (by kernel_rfl) ?_
    refine WX.skip ?_
    refine WC.rg hn [] [4] [] ⟨[(4, .p (sI a1))], [], L0, []⟩ trivial ?_
    refine WX.ret ?_
    exact WC.outP (by rw [← Option.some.inj h]; kernel_rfl)
def riddleref02_Has (a0 : (Arr4 Int)) (a1 : Int) : Option (Bool) :=
  (if 0 ≤ (IntKind.u8.wrap (a1.tdiv 64)) ∧ (IntKind.u8.wrap (a1.tdiv 64)) < 4 then (if ¬ (a1.tmod 64) < 0 then some (((((((get4 a0.a0 a0.a1 a0.a2 a0.a3 ((IntKind.u8.wrap (a1.tdiv 64))))).fdiv (2 ^ (min ((a1.tmod 64)).toNat IntKind.u64.bits)))).tmod 2) == 1)) else none) else none)
theorem riddleref02_Has_ok {a0 : (Arr4 Int)} {a1 : Int} {r : Bool} (h : riddleref02_Has a0 a1 = some r) : Ans Tryd.prog 52 [.agg [u6 (a0.a0), u6 (a0.a1), u6 (a0.a2), u6 (a0.a3)], .s (.int .u8 a1)] (bo (r)) := by
  refine W_fn Tryd.func52 rfl (by kernel_rfl) (by kernel_rfl) ?_
  intro X hro hn
  unfold riddleref02_Has at h
  refine WC.rg hn [] [1, 2] [2] ⟨[(1, .p (.s (.int .u8 a1))), (2, .ptr 2 0)], [(2, .box 75 [.p (u6 (a0.a0)), .p (u6 (a0.a1)), .p (u6 (a0.a2)), .p (u6 (a0.a3))])], L0, []⟩ trivial ?_
  refine WX.seq ?_
  obtain ⟨c2_1, h⟩ := if_some h
  obtain ⟨c2_2, h⟩ := if_some h
  refine WC.r1 hn [(2, .val (.ptr 2 (0 + ((IntKind.u8.wrap (a1.tdiv 64))).toNat * 1))), (3, .val (.p (u6 (((get4 a0.a0 a0.a1 a0.a2 a0.a3 ((IntKind.u8.wrap (a1.tdiv 64))))))))), (6, .val (.p (u6 ((((get4 a0.a0 a0.a1 a0.a2 a0.a3 ((IntKind.u8.wrap (a1.tdiv 64))))).fdiv (2 ^ (min ((a1.tmod 64)).toNat IntKind.u64.bits)))))))] [4] [] ⟨[(4, .p (bo ((((((((get4 a0.a0 a0.a1 a0.a2 a0.a3 ((IntKind.u8.wrap (a1.tdiv 64))))).fdiv (2 ^ (min ((a1.tmod 64)).toNat IntKind.u64.bits)))).tmod 2) == 1)))))], [], L0, []⟩ (And.intro (IxA4 2 0 ((IntKind.u8.wrap (a1.tdiv 64))) c2_1) (And.intro (LdA4 Tryd.prog 73 [] .u64 a0.a0 a0.a1 a0.a2 a0.a3 [] ((IntKind.u8.wrap (a1.tdiv 64))) c2_1 rfl rfl) (And.intro (Shr .u64 ((get4 a0.a0 a0.a1 a0.a2 a0.a3 ((IntKind.u8.wrap (a1.tdiv 64))))) ((a1.tmod 64)) c2_2) (trivial)))) ?_
  refine WX.ret ?_
  exact WC.outP (by rw [← Option.some.inj h]; kernel_rfl)
def riddleref23_less (a0 : Int) (a1 : Int) : Option (Int) :=
  (if (((decide (a0 < 0))) || ((((decide (a1 ≥ 0))) && ((decide (a1 < a0)))))) = true then some a1 else some a0)
theorem riddleref23_less_ok {a0 : Int} {a1 : Int} {r : Int} (h : riddleref23_less a0 a1 = some r) : Ans Tryd.prog 54 [i6 (a0), i6 (a1)] (i6 (r)) := by
  refine W_fn Tryd.func54 rfl (by kernel_rfl) (by kernel_rfl) ?_
  intro X hro hn
  unfold riddleref23_less at h
  refine WC.rg hn [] [0, 1] [] ⟨[(0, .p (i6 (a0))), (1, .p (i6 (a1)))], [], L0, []⟩ trivial ?_
  refine WX.seq ?_
  refine WX.seq ?_
  refine WC.via (α := Bool) (fun v2 => ⟨[(0, .p (i6 (a0))), (1, .p (i6 (a1))), (15, .p (bo (v2)))], [], L0, []⟩) ((((decide (a0 < 0))) || ((((decide (a1 ≥ 0))) && ((decide (a1 < a0))))))) (fun hk => ?_) ?_
  · rcases Bool.eq_false_or_eq_true ((decide (a0 < 0))) with b2_2 | b2_2
    · exact WC.reg hn [(2, .val (.p (bo (true))))] [0, 1, 15] [] ⟨[(0, .p (i6 (a0))), (1, .p (i6 (a1))), (15, .p (bo (true)))], [], L0, []⟩ (And.intro (Bl b2_2) (trivial)) (by kernel_rfl) (hk true (by first | (rw [b2_2]; rfl) | simp [b2_2]))
    · rcases Bool.eq_false_or_eq_true ((decide (a1 ≥ 0))) with b2_5 | b2_5
      · exact WC.reg hn [(2, .val (.p (bo (false)))), (5, .val (.p (bo (true))))] [0, 1, 15] [] ⟨[(0, .p (i6 (a0))), (1, .p (i6 (a1))), (15, .p (bo (((decide (a1 < a0))))))], [], L0, []⟩ (And.intro (Bl b2_2) (And.intro (Bl b2_5) (trivial))) (by kernel_rfl) (hk ((decide (a1 < a0))) (by first | (rw [b2_2, b2_5]; rfl) | simp [b2_2, b2_5]))
      · exact WC.reg hn [(2, .val (.p (bo (false)))), (5, .val (.p (bo (false))))] [0, 1, 15] [] ⟨[(0, .p (i6 (a0))), (1, .p (i6 (a1))), (15, .p (bo (false)))], [], L0, []⟩ (And.intro (Bl b2_2) (And.intro (Bl b2_5) (trivial))) (by kernel_rfl) (hk false (by first | (rw [b2_2, b2_5]; rfl) | simp [b2_2, b2_5]))
  rcases if_or h with ⟨c3, h⟩ | ⟨c3, h⟩
  · refine WC.condT c3 (by kernel_rfl) ?_
    refine WC.rg hn [] [4] [] ⟨[(4, .p (i6 (a1)))], [], L0, []⟩ trivial ?_
    refine WX.ret ?_
    exact WC.outP (by rw [← Option.some.inj h]; kernel_rfl)
  · refine WC.condF c3 (by kernel_rfl) ?_
    refine WX.skip ?_
    refine WC.rg hn [] [4] [] ⟨[(4, .p (i6 (a0)))], [], L0, []⟩ trivial ?_
    refine WX.ret ?_
    exact WC.outP (by rw [← Option.some.inj h]; kernel_rfl)
def riddleref23_Next_l1 (t2_2 : api_Nfa) (t3_2 : (List Int)) (x63_1_2 : Int) (J152 : List Int → Option ((List Int))) : Nat → (List Int × Int) → Option ((List Int))
  | 0, _ => none
  | k + 1, (x168_1_1, x168_1_2) => (if (decide (x168_1_2 < (t3_2.length : Int))) = true then (at_ t3_2 x168_1_2).bind fun t185_2 => ((if (decide (t185_2 ≥ 0)) = true then (at_ t2_2.Follow x168_1_2).bind fun t185_4 => (riddleref01_Has k t185_4 x63_1_2).bind fun t185_6 => some t185_6 else some false) : Option (Bool)).bind fun v185 => (if v185 = true then (at_ x168_1_1 x63_1_2).bind fun t187_2 => (at_ t3_2 x168_1_2).bind fun t187_4 => (riddleref23_less t187_2 t187_4).bind fun t187_6 => riddleref23_Next_l1 t2_2 t3_2 x63_1_2 J152 k (x168_1_1.set x63_1_2.toNat t187_6, (IntKind.i64.wrap (x168_1_2 + 1))) else riddleref23_Next_l1 t2_2 t3_2 x63_1_2 J152 k (x168_1_1, (IntKind.i64.wrap (x168_1_2 + 1)))) else J152 x168_1_1)
def riddleref23_Next_l0 (a2 : Int) (a3 : Int) (t2_2 : api_Nfa) (t3_2 : (List Int)) (J6 : List Int → Option ((List Int))) : Nat → (List Int × Int) → Option ((List Int))
  | 0, _ => none
  | k + 1, (x63_1_1, x63_1_2) => (if (decide (x63_1_2 < (x63_1_1.length : Int))) = true then jn (fun (v120 : List Int) => riddleref23_Next_l0 a2 a3 t2_2 t3_2 J6 k (v120, (IntKind.i64.wrap (x63_1_2 + 1)))) fun J120 => (at_ t2_2.Classes x63_1_2).bind fun t145_2 => (riddleref02_Has t145_2 a3).bind fun t145_4 => (if (!t145_4) = true then J120 x63_1_1 else ((if (decide (a2 ≥ 0)) = true then (if (decide (a2 ≤ 4611686018427387904)) = true then (riddleref01_Has k t2_2.First x63_1_2).bind fun t147_2 => some t147_2 else some false) else some false) : Option (Bool)).bind fun v147 => jn (fun (v148 : List Int) => jn (fun (v152 : List Int) => J120 v152) fun J152 => riddleref23_Next_l1 t2_2 t3_2 x63_1_2 J152 k (v148, 0)) fun J148 => (if v147 = true then (at_ x63_1_1 x63_1_2).bind fun t191_2 => J148 (x63_1_1.set x63_1_2.toNat a2) else J148 x63_1_1)) else J6 x63_1_1)
def riddleref23_Next (k : Nat) (a0 : api_Nfa) (a1 : (List Int)) (a2 : Int) (a3 : Int) : Option ((List Int)) :=
  (riddleref23_may k a0).bind fun t2_2 => (riddleref23_state k t2_2 a1).bind fun t3_2 => (riddleref23_None k t2_2).bind fun t4_2 => jn (fun (v6 : List Int) => some v6) fun J6 => riddleref23_Next_l0 a2 a3 t2_2 t3_2 J6 k (t4_2, 0)
theorem riddleref23_Next_ok {k : Nat} {a0 : api_Nfa} {a1 : (List Int)} {a2 : Int} {a3 : Int} {r : (List Int)} (h : riddleref23_Next k a0 a1 a2 a3 = some r) : AnsO Tryd.prog 18 [] [.p (pP2 a0), .p (sI a1), .p (i6 (a2)), .p (.s (.int .u8 a3))] [(18, rI 2 r)] (.own 18) := by
  refine W_fnO [18] Tryd.func18 rfl (by kernel_rfl) (by kernel_rfl) (by kernel_rfl) (by kernel_rfl) ?_
  intro X hro hn
  unfold riddleref23_Next at h
  refine WC.rg hn [] [1, 2, 3, 4] [4] ⟨[(1, .p (sI a1)), (2, .p (i6 (a2))), (3, .p (.s (.int .u8 a3))), (4, .ptr 4 0)], [(4, .box 28 (vV2 a0))], L0, []⟩ trivial ?_
  refine WX.seq ?_
  obtain ⟨t2_2, h2_1, h⟩ := bind_some h
  refine WC.r1 hn [(1, .resP (pP2 t2_2))] [1, 2, 3, 4] [4] ⟨[(1, .p (sI a1)), (2, .p (i6 (a2))), (3, .p (.s (.int .u8 a3))), (4, .ptr 4 0)], [(4, .box 28 (vV2 t2_2))], L0, []⟩ (And.intro ((riddleref23_may_ok h2_1)) (trivial)) ?_
  refine WX.seq ?_
  obtain ⟨t3_2, h3_1, h⟩ := bind_some h
  refine WC.r1 hn [(2, .resP (sI t3_2))] [1, 2, 3, 4] [4] ⟨[(1, .p (sI t3_2)), (2, .p (i6 (a2))), (3, .p (.s (.int .u8 a3))), (4, .ptr 4 0)], [(4, .box 28 (vV2 t2_2))], L0, []⟩ (And.intro ((riddleref23_state_ok h3_1)) (trivial)) ?_
  refine WX.seq ?_
  obtain ⟨t4_2, h4_1, h⟩ := bind_some h
  refine WC.r1 hn [(1, .co [] [] [] [(18, rI 2 t4_2)] (.own 18))] [1, 2, 3, 4, 9] [4, 18] ⟨[(1, .p (sI t3_2)), (2, .p (i6 (a2))), (3, .p (.s (.int .u8 a3))), (4, .ptr 4 0), (9, .own 18)], [(4, .box 28 (vV2 t2_2)), (18, rI 2 t4_2)], L0, []⟩ (And.intro (And.intro ((riddleref23_None_ok h4_1).ren 16 18 (by kernel_rfl)) (trivial)) (trivial)) ?_
  refine WX.seq ?_
  refine WC.rg hn [] [1, 2, 3, 4, 9, 10] [4, 18] ⟨[(1, .p (sI t3_2)), (2, .p (i6 (a2))), (3, .p (.s (.int .u8 a3))), (4, .ptr 4 0), (9, .own 18), (10, .p (i6 (0)))], [(4, .box 28 (vV2 t2_2)), (18, rI 2 t4_2)], L0, []⟩ trivial ?_
  obtain ⟨J6, eJ6, h⟩ := jn_some h
  try dsimp only at h
  refine WC.join (α := List Int) (fun v6 => ⟨[(9, .own 18)], [(18, rI 2 v6)], L0, []⟩) (fun v6 => J6 v6 = some r) ?_ (fun hJ6 => ?_)
  · rintro y6_1 h
    rw [eJ6] at h
    try dsimp only at h
    refine WC.rg hn [] [8] [18] ⟨[(8, .own 18)], [(18, rI 2 y6_1)], L0, []⟩ trivial ?_
    refine WX.ret ?_
    exact WC.outO (by rw [← Option.some.inj h]; kernel_rfl)
  · replace hJ6 := fun y6_1 => hJ6 y6_1
    refine WX.block ?_
    refine WC.loop (V := List Int × Int) (riddleref23_Next_l0 a2 a3 t2_2 t3_2 J6) r (fun v63 => ⟨[(1, .p (sI t3_2)), (2, .p (i6 (a2))), (3, .p (.s (.int .u8 a3))), (4, .ptr 4 0), (9, .own 18), (10, .p (i6 (v63.2)))], [(4, .box 28 (vV2 t2_2)), (18, rI 2 v63.1)], L0, []⟩) _ (t4_2, 0) h (fun _ => rfl) [1, 2, 3, 4, 9, 10] [4, 18] (by kernel_rfl) ?_
    clear h; rintro k ⟨x63_1_1, x63_1_2⟩ h K63 hnext63 hexit63
    rw [riddleref23_Next_l0] at h
    refine WX.seq ?_
    refine WC.rg hn [] [1, 2, 3, 4, 9, 10, 22] [4, 18] ⟨[(1, .p (sI t3_2)), (2, .p (i6 (a2))), (3, .p (.s (.int .u8 a3))), (4, .ptr 4 0), (9, .own 18), (10, .p (i6 (x63_1_2))), (22, .p (bo (((decide (x63_1_2 < (x63_1_1.length : Int)))))))], [(4, .box 28 (vV2 t2_2)), (18, rI 2 x63_1_1)], L0, []⟩ trivial ?_
    rcases if_or h with ⟨c119, h⟩ | ⟨c119, h⟩
    · refine WC.condT c119 (by kernel_rfl) ?_
      refine WX.skip ?_
      refine WX.seq ?_
      obtain ⟨J120, eJ120, h⟩ := jn_some h
      try dsimp only at h
      refine WC.join (α := List Int) (fun v120 => ⟨[(1, .p (sI t3_2)), (2, .p (i6 (a2))), (3, .p (.s (.int .u8 a3))), (4, .ptr 4 0), (9, .own 18), (10, .p (i6 (x63_1_2)))], [(4, .box 28 (vV2 t2_2)), (18, rI 2 v120)], L0, []⟩) (fun v120 => J120 v120 = some r) ?_ (fun hJ120 => ?_)
      · rintro y120_1 h
        rw [eJ120] at h
        try dsimp only at h
        refine WC.r1 hn [] [1, 2, 3, 4, 9, 10] [4, 18] ⟨[(1, .p (sI t3_2)), (2, .p (i6 (a2))), (3, .p (.s (.int .u8 a3))), (4, .ptr 4 0), (9, .own 18), (10, .p (i6 (((IntKind.i64.wrap (x63_1_2 + 1))))))], [(4, .box 28 (vV2 t2_2)), (18, rI 2 y120_1)], L0, []⟩ trivial ?_
        exact WC.next [1, 2, 3, 4, 9, 10] [4, 18] (by kernel_rfl) (hnext63 (y120_1, (IntKind.i64.wrap (x63_1_2 + 1))) h)
      · replace hJ120 := fun y120_1 => hJ120 y120_1
        refine WX.block ?_
        refine WX.seq ?_
        refine WX.seq ?_
        obtain ⟨t145_2, h145_1, h⟩ := bind_some h
        obtain ⟨t145_4, h145_3, h⟩ := bind_some h
        refine WC.r1 hn [(3, .val (.p (.rop ((e4 (eI .u64)).cells t145_2 ++ encL (e4 (eI .u64)) (t2_2.Classes.drop (x63_1_2.toNat + 1)))))), (6, .resP (bo (t145_4)))] [1, 2, 3, 4, 9, 10, 32] [4, 18] ⟨[(1, .p (sI t3_2)), (2, .p (i6 (a2))), (3, .p (.s (.int .u8 a3))), (4, .ptr 4 0), (9, .own 18), (10, .p (i6 (x63_1_2))), (32, .p (bo (((!t145_4)))))], [(4, .box 28 (vV2 t2_2)), (18, rI 2 x63_1_1)], L0, []⟩ (And.intro (Ix (e4 (eI .u64)) h145_1) (And.intro ((riddleref02_Has_ok h145_3)) (trivial))) ?_
        rcases if_or h with ⟨c146, h⟩ | ⟨c146, h⟩
        · refine WC.condT c146 (by kernel_rfl) ?_
          refine WX.exit ?_
          refine WX.popCodeExit ?_
          refine WX.popBlkHit ?_
          exact WC.keep [1, 2, 3, 4, 9, 10] [4, 18] (by kernel_rfl) (hJ120 x63_1_1 h)
        · refine WC.condF c146 (by kernel_rfl) ?_
          refine WX.skip ?_
          refine WX.seq ?_
          refine WX.seq ?_
          obtain ⟨m147_1, g147, h⟩ := bind_some h
          refine WC.via (α := Bool) (fun v147 => ⟨[(1, .p (sI t3_2)), (2, .p (i6 (a2))), (3, .p (.s (.int .u8 a3))), (4, .ptr 4 0), (9, .own 18), (10, .p (i6 (x63_1_2))), (44, .p (bo (v147)))], [(4, .box 28 (vV2 t2_2)), (18, rI 2 x63_1_1)], L0, []⟩) m147_1 (fun hk => ?_) ?_
          · rcases if_or g147 with ⟨b147_2, g147⟩ | ⟨b147_2, g147⟩
            · rcases if_or g147 with ⟨b147_6, g147⟩ | ⟨b147_6, g147⟩
              · obtain ⟨t147_2, h147_1, g147⟩ := bind_some g147
                exact WC.reg hn [(2, .val (.p (bo (true)))), (6, .val (.p (bo (true)))), (10, .resP (bo (t147_2)))] [1, 2, 3, 4, 9, 10, 44] [4, 18] ⟨[(1, .p (sI t3_2)), (2, .p (i6 (a2))), (3, .p (.s (.int .u8 a3))), (4, .ptr 4 0), (9, .own 18), (10, .p (i6 (x63_1_2))), (44, .p (bo (t147_2)))], [(4, .box 28 (vV2 t2_2)), (18, rI 2 x63_1_1)], L0, []⟩ (And.intro (Bl b147_2) (And.intro (Bl b147_6) (And.intro ((riddleref01_Has_ok h147_1)) (trivial)))) (by kernel_rfl) (hk t147_2 (Option.some.inj g147))
              · exact WC.reg hn [(2, .val (.p (bo (true)))), (6, .val (.p (bo (false))))] [1, 2, 3, 4, 9, 10, 44] [4, 18] ⟨[(1, .p (sI t3_2)), (2, .p (i6 (a2))), (3, .p (.s (.int .u8 a3))), (4, .ptr 4 0), (9, .own 18), (10, .p (i6 (x63_1_2))), (44, .p (bo (false)))], [(4, .box 28 (vV2 t2_2)), (18, rI 2 x63_1_1)], L0, []⟩ (And.intro (Bl b147_2) (And.intro (Bl b147_6) (trivial))) (by kernel_rfl) (hk false (Option.some.inj g147))
            · exact WC.reg hn [(2, .val (.p (bo (false))))] [1, 2, 3, 4, 9, 10, 44] [4, 18] ⟨[(1, .p (sI t3_2)), (2, .p (i6 (a2))), (3, .p (.s (.int .u8 a3))), (4, .ptr 4 0), (9, .own 18), (10, .p (i6 (x63_1_2))), (44, .p (bo (false)))], [(4, .box 28 (vV2 t2_2)), (18, rI 2 x63_1_1)], L0, []⟩ (And.intro (Bl b147_2) (trivial)) (by kernel_rfl) (hk false (Option.some.inj g147))
          obtain ⟨J148, eJ148, h⟩ := jn_some h
          try dsimp only at h
          refine WC.join (α := List Int) (fun v148 => ⟨[(1, .p (sI t3_2)), (2, .p (i6 (a2))), (3, .p (.s (.int .u8 a3))), (4, .ptr 4 0), (9, .own 18), (10, .p (i6 (x63_1_2)))], [(4, .box 28 (vV2 t2_2)), (18, rI 2 v148)], L0, []⟩) (fun v148 => J148 v148 = some r) ?_ (fun hJ148 => ?_)
          · rintro y148_1 h
            rw [eJ148] at h
            try dsimp only at h
            refine WC.rg hn [] [1, 2, 3, 4, 9, 10, 11] [4, 18] ⟨[(1, .p (sI t3_2)), (2, .p (i6 (a2))), (3, .p (.s (.int .u8 a3))), (4, .ptr 4 0), (9, .own 18), (10, .p (i6 (x63_1_2))), (11, .p (i6 (0)))], [(4, .box 28 (vV2 t2_2)), (18, rI 2 y148_1)], L0, []⟩ trivial ?_
            obtain ⟨J152, eJ152, h⟩ := jn_some h
            try dsimp only at h
            refine WC.join (α := List Int) (fun v152 => ⟨[(1, .p (sI t3_2)), (2, .p (i6 (a2))), (3, .p (.s (.int .u8 a3))), (4, .ptr 4 0), (9, .own 18), (10, .p (i6 (x63_1_2)))], [(4, .box 28 (vV2 t2_2)), (18, rI 2 v152)], L0, []⟩) (fun v152 => J152 v152 = some r) ?_ (fun hJ152 => ?_)
            · rintro y152_1 h
              rw [eJ152] at h
              try dsimp only at h
              refine WX.popBlk ?_
              exact WC.keep [1, 2, 3, 4, 9, 10] [4, 18] (by kernel_rfl) (hJ120 y152_1 h)
            · replace hJ152 := fun y152_1 => hJ152 y152_1
              refine WX.block ?_
              refine WC.loop (V := List Int × Int) (riddleref23_Next_l1 t2_2 t3_2 x63_1_2 J152) r (fun v168 => ⟨[(1, .p (sI t3_2)), (2, .p (i6 (a2))), (3, .p (.s (.int .u8 a3))), (4, .ptr 4 0), (9, .own 18), (10, .p (i6 (x63_1_2))), (11, .p (i6 (v168.2)))], [(4, .box 28 (vV2 t2_2)), (18, rI 2 v168.1)], L0, []⟩) _ (y148_1, 0) h (fun _ => rfl) [1, 2, 3, 4, 9, 10, 11] [4, 18] (by kernel_rfl) ?_
              clear h; rintro k ⟨x168_1_1, x168_1_2⟩ h K168 hnext168 hexit168
              rw [riddleref23_Next_l1] at h
              refine WX.seq ?_
              refine WC.rg hn [] [1, 2, 3, 4, 9, 10, 11, 52] [4, 18] ⟨[(1, .p (sI t3_2)), (2, .p (i6 (a2))), (3, .p (.s (.int .u8 a3))), (4, .ptr 4 0), (9, .own 18), (10, .p (i6 (x63_1_2))), (11, .p (i6 (x168_1_2))), (52, .p (bo (((decide (x168_1_2 < (t3_2.length : Int)))))))], [(4, .box 28 (vV2 t2_2)), (18, rI 2 x168_1_1)], L0, []⟩ trivial ?_
              rcases if_or h with ⟨c184, h⟩ | ⟨c184, h⟩
              · refine WC.condT c184 (by kernel_rfl) ?_
                refine WX.skip ?_
                refine WX.seq ?_
                refine WX.block ?_
                refine WX.seq ?_
                obtain ⟨t185_2, h185_1, h⟩ := bind_some h
                obtain ⟨m185_1, g185, h⟩ := bind_some h
                refine WC.via (α := Bool) (fun v185 => ⟨[(1, .p (sI t3_2)), (2, .p (i6 (a2))), (3, .p (.s (.int .u8 a3))), (4, .ptr 4 0), (9, .own 18), (10, .p (i6 (x63_1_2))), (11, .p (i6 (x168_1_2))), (68, .p (bo (v185)))], [(4, .box 28 (vV2 t2_2)), (18, rI 2 x168_1_1)], L0, []⟩) m185_1 (fun hk => ?_) ?_
                · rcases if_or g185 with ⟨b185_5, g185⟩ | ⟨b185_5, g185⟩
                  · obtain ⟨t185_4, h185_3, g185⟩ := bind_some g185
                    obtain ⟨t185_6, h185_5, g185⟩ := bind_some g185
                    exact WC.reg hn [(2, .val (.p (.rop ((eI .i64).cells t185_2 ++ encL (eI .i64) (t3_2.drop (x168_1_2.toNat + 1)))))), (5, .val (.p (bo (true)))), (9, .val (.p (.rop (e_api_Bits.cells t185_4 ++ encL e_api_Bits (t2_2.Follow.drop (x168_1_2.toNat + 1)))))), (12, .resP (bo (t185_6)))] [1, 2, 3, 4, 9, 10, 11, 68] [4, 18] ⟨[(1, .p (sI t3_2)), (2, .p (i6 (a2))), (3, .p (.s (.int .u8 a3))), (4, .ptr 4 0), (9, .own 18), (10, .p (i6 (x63_1_2))), (11, .p (i6 (x168_1_2))), (68, .p (bo (t185_6)))], [(4, .box 28 (vV2 t2_2)), (18, rI 2 x168_1_1)], L0, []⟩ (And.intro (Ix (eI .i64) h185_1) (And.intro (Bl b185_5) (And.intro (Ix e_api_Bits h185_3) (And.intro ((riddleref01_Has_ok h185_5)) (trivial))))) (by kernel_rfl) (hk t185_6 (Option.some.inj g185))
                  · exact WC.reg hn [(2, .val (.p (.rop ((eI .i64).cells t185_2 ++ encL (eI .i64) (t3_2.drop (x168_1_2.toNat + 1)))))), (5, .val (.p (bo (false))))] [1, 2, 3, 4, 9, 10, 11, 68] [4, 18] ⟨[(1, .p (sI t3_2)), (2, .p (i6 (a2))), (3, .p (.s (.int .u8 a3))), (4, .ptr 4 0), (9, .own 18), (10, .p (i6 (x63_1_2))), (11, .p (i6 (x168_1_2))), (68, .p (bo (false)))], [(4, .box 28 (vV2 t2_2)), (18, rI 2 x168_1_1)], L0, []⟩ (And.intro (Ix (eI .i64) h185_1) (And.intro (Bl b185_5) (trivial))) (by kernel_rfl) (hk false (Option.some.inj g185))
                rcases if_or h with ⟨c186, h⟩ | ⟨c186, h⟩
                · refine WC.condT c186 (by kernel_rfl) ?_
                  obtain ⟨t187_2, h187_1, h⟩ := bind_some h
                  obtain ⟨t187_4, h187_3, h⟩ := bind_some h
                  obtain ⟨t187_6, h187_5, h⟩ := bind_some h
                  refine WC.drw hn [(12, [])] [] [(4, .val (.ptr 18 (x63_1_2.toNat * 1))), (5, .val (.p (i6 (t187_2)))), (8, .val (.p (.rop ((eI .i64).cells t187_4 ++ encL (eI .i64) (t3_2.drop (x168_1_2.toNat + 1)))))), (10, .resP (i6 (t187_6))), (11, .val (.ptr 18 (x63_1_2.toNat * 1))), (12, .sto 18 (rI 2 (x168_1_1.set x63_1_2.toNat t187_6)))] [1, 2, 3, 4, 9, 10, 11] [4, 18] ⟨[(1, .p (sI t3_2)), (2, .p (i6 (a2))), (3, .p (.s (.int .u8 a3))), (4, .ptr 4 0), (9, .own 18), (10, .p (i6 (x63_1_2))), (11, .p (i6 (x168_1_2)))], [(4, .box 28 (vV2 t2_2)), (18, rI 2 (x168_1_1.set x63_1_2.toNat t187_6))], L0, []⟩ (And.intro (IxO 18 1 h187_1) (And.intro (LdO0 Tryd.prog (eI .i64) 2 h187_1) (And.intro (Ix (eI .i64) h187_3) (And.intro ((riddleref23_less_ok h187_5)) (And.intro (IxO 18 1 h187_1) (And.intro (StO0 (eI .i64) 18 2 1 1 [i6 (t187_6)] t187_6 h187_1 rfl rfl (by decide)) (trivial))))))) (by kernel_rfl) (by kernel_rfl) (by kernel_rfl) (by kernel_rfl) ?_
                  refine WX.popBlk ?_
                  refine WC.r1 hn [] [1, 2, 3, 4, 9, 10, 11] [4, 18] ⟨[(1, .p (sI t3_2)), (2, .p (i6 (a2))), (3, .p (.s (.int .u8 a3))), (4, .ptr 4 0), (9, .own 18), (10, .p (i6 (x63_1_2))), (11, .p (i6 (((IntKind.i64.wrap (x168_1_2 + 1))))))], [(4, .box 28 (vV2 t2_2)), (18, rI 2 (x168_1_1.set x63_1_2.toNat t187_6))], L0, []⟩ trivial ?_
                  exact WC.next [1, 2, 3, 4, 9, 10, 11] [4, 18] (by kernel_rfl) (hnext168 (x168_1_1.set x63_1_2.toNat t187_6, (IntKind.i64.wrap (x168_1_2 + 1))) h)
                · refine WC.condF c186 (by kernel_rfl) ?_
                  refine WX.skip ?_
                  refine WX.popBlk ?_
                  refine WC.r1 hn [] [1, 2, 3, 4, 9, 10, 11] [4, 18] ⟨[(1, .p (sI t3_2)), (2, .p (i6 (a2))), (3, .p (.s (.int .u8 a3))), (4, .ptr 4 0), (9, .own 18), (10, .p (i6 (x63_1_2))), (11, .p (i6 (((IntKind.i64.wrap (x168_1_2 + 1))))))], [(4, .box 28 (vV2 t2_2)), (18, rI 2 x168_1_1)], L0, []⟩ trivial ?_
                  exact WC.next [1, 2, 3, 4, 9, 10, 11] [4, 18] (by kernel_rfl) (hnext168 (x168_1_1, (IntKind.i64.wrap (x168_1_2 + 1))) h)
              · refine WC.condF c184 (by kernel_rfl) ?_
                refine WX.exit ?_
                refine WX.popCodeExit ?_
                refine WC.exit_nil (hexit168 _ _ (by simp) ?_)
                refine WX.popBlkHit ?_
                exact WC.keep [1, 2, 3, 4, 9, 10] [4, 18] (by kernel_rfl) (hJ152 x168_1_1 h)
          · replace hJ148 := fun y148_1 => hJ148 y148_1
            rcases if_or h with ⟨c190, h⟩ | ⟨c190, h⟩
            · refine WC.condT c190 (by kernel_rfl) ?_
              obtain ⟨t191_2, h191_1, h⟩ := bind_some h
              refine WC.r1 hn [(3, .val (.ptr 18 (x63_1_2.toNat * 1))), (4, .sto 18 (rI 2 (x63_1_1.set x63_1_2.toNat a2)))] [1, 2, 3, 4, 9, 10] [4, 18] ⟨[(1, .p (sI t3_2)), (2, .p (i6 (a2))), (3, .p (.s (.int .u8 a3))), (4, .ptr 4 0), (9, .own 18), (10, .p (i6 (x63_1_2)))], [(4, .box 28 (vV2 t2_2)), (18, rI 2 (x63_1_1.set x63_1_2.toNat a2))], L0, []⟩ (And.intro (IxO 18 1 h191_1) (And.intro (StO0 (eI .i64) 18 2 1 1 [i6 (a2)] a2 h191_1 rfl rfl (by decide)) (trivial))) ?_
              exact WC.keep [1, 2, 3, 4, 9, 10] [4, 18] (by kernel_rfl) (hJ148 (x63_1_1.set x63_1_2.toNat a2) h)
            · refine WC.condF c190 (by kernel_rfl) ?_
              refine WX.skip ?_
              exact WC.keep [1, 2, 3, 4, 9, 10] [4, 18] (by kernel_rfl) (hJ148 x63_1_1 h)
    · refine WC.condF c119 (by kernel_rfl) ?_
      refine WX.exit ?_
      refine WX.popCodeExit ?_
      refine WC.exit_nil (hexit63 _ _ (by simp) ?_)
      refine WX.popBlkHit ?_
      exact WC.keep [9] [18] (by kernel_rfl) (hJ6 x63_1_1 h)
theorem riddleref23_Next_okP {k : Nat} {a0 : api_Nfa} {a1 : (List Int)} {a2 : Int} {a3 : Int} {r : (List Int)} (h : riddleref23_Next k a0 a1 a2 a3 = some r) : Ans Tryd.prog 18 [pP2 a0, sI a1, i6 (a2), .s (.int .u8 a3)] (sI r) := AnsO.ans (args := [pP2 a0, sI a1, i6 (a2), .s (.int .u8 a3)]) (riddleref23_Next_ok h) (by kernel_rfl)
def riddleref23_Least_l0 (t2_2 : api_Nfa) (t3_2 : (List Int)) (J6 : Int → Option (Int)) : Nat → (Int × Int) → Option (Int)
  | 0, _ => none
  | k + 1, (x23_1_1, x23_1_2) => (if (decide (x23_1_2 < (t3_2.length : Int))) = true then (at_ t3_2 x23_1_2).bind fun t40_2 => ((if (decide (t40_2 ≥ 0)) = true then (riddleref01_Has k t2_2.Last x23_1_2).bind fun t40_4 => some t40_4 else some false) : Option (Bool)).bind fun v40 => (if v40 = true then (at_ t3_2 x23_1_2).bind fun t42_2 => (riddleref23_less x23_1_1 t42_2).bind fun t42_4 => riddleref23_Least_l0 t2_2 t3_2 J6 k (t42_4, (IntKind.i64.wrap (x23_1_2 + 1))) else riddleref23_Least_l0 t2_2 t3_2 J6 k (x23_1_1, (IntKind.i64.wrap (x23_1_2 + 1)))) else J6 x23_1_1)
def riddleref23_Least (k : Nat) (a0 : api_Nfa) (a1 : (List Int)) : Option (Int) :=
  (riddleref23_may k a0).bind fun t2_2 => (riddleref23_state k t2_2 a1).bind fun t3_2 => jn (fun (v6 : Int) => some v6) fun J6 => riddleref23_Least_l0 t2_2 t3_2 J6 k ((-1), 0)
theorem riddleref23_Least_ok {k : Nat} {a0 : api_Nfa} {a1 : (List Int)} {r : Int} (h : riddleref23_Least k a0 a1 = some r) : Ans Tryd.prog 24 [pP2 a0, sI a1] (i6 (r)) := by
  refine W_fn Tryd.func24 rfl (by kernel_rfl) (by kernel_rfl) ?_
  intro X hro hn
  unfold riddleref23_Least at h
  refine WC.rg hn [] [1, 2] [2] ⟨[(1, .p (sI a1)), (2, .ptr 2 0)], [(2, .box 28 (vV2 a0))], L0, []⟩ trivial ?_
  refine WX.seq ?_
  obtain ⟨t2_2, h2_1, h⟩ := bind_some h
  refine WC.r1 hn [(1, .resP (pP2 t2_2))] [1, 2] [2] ⟨[(1, .p (sI a1)), (2, .ptr 2 0)], [(2, .box 28 (vV2 t2_2))], L0, []⟩ (And.intro ((riddleref23_may_ok h2_1)) (trivial)) ?_
  refine WX.seq ?_
  obtain ⟨t3_2, h3_1, h⟩ := bind_some h
  refine WC.r1 hn [(2, .resP (sI t3_2))] [1, 2] [2] ⟨[(1, .p (sI t3_2)), (2, .ptr 2 0)], [(2, .box 28 (vV2 t2_2))], L0, []⟩ (And.intro ((riddleref23_state_ok h3_1)) (trivial)) ?_
  refine WC.rg hn [] [1, 2, 5] [2] ⟨[(1, .p (sI t3_2)), (2, .ptr 2 0), (5, .p (i6 (((-1)))))], [(2, .box 28 (vV2 t2_2))], L0, []⟩ trivial ?_
  refine WX.seq ?_
  refine WC.rg hn [] [1, 2, 5, 6] [2] ⟨[(1, .p (sI t3_2)), (2, .ptr 2 0), (5, .p (i6 (((-1))))), (6, .p (i6 (0)))], [(2, .box 28 (vV2 t2_2))], L0, []⟩ trivial ?_
  obtain ⟨J6, eJ6, h⟩ := jn_some h
  try dsimp only at h
  refine WC.join (α := Int) (fun v6 => ⟨[(5, .p (i6 (v6)))], [], L0, []⟩) (fun v6 => J6 v6 = some r) ?_ (fun hJ6 => ?_)
  · rintro y6_1 h
    rw [eJ6] at h
    try dsimp only at h
    refine WC.rg hn [] [4] [] ⟨[(4, .p (i6 (y6_1)))], [], L0, []⟩ trivial ?_
    refine WX.ret ?_
    exact WC.outP (by rw [← Option.some.inj h]; kernel_rfl)
  · replace hJ6 := fun y6_1 => hJ6 y6_1
    refine WX.block ?_
    refine WC.loop (V := Int × Int) (riddleref23_Least_l0 t2_2 t3_2 J6) r (fun v23 => ⟨[(1, .p (sI t3_2)), (2, .ptr 2 0), (5, .p (i6 (v23.1))), (6, .p (i6 (v23.2)))], [(2, .box 28 (vV2 t2_2))], L0, []⟩) _ ((-1), 0) h (fun _ => rfl) [1, 2, 5, 6] [2] (by kernel_rfl) ?_
    clear h; rintro k ⟨x23_1_1, x23_1_2⟩ h K23 hnext23 hexit23
    rw [riddleref23_Least_l0] at h
    refine WX.seq ?_
    refine WC.rg hn [] [1, 2, 5, 6, 15] [2] ⟨[(1, .p (sI t3_2)), (2, .ptr 2 0), (5, .p (i6 (x23_1_1))), (6, .p (i6 (x23_1_2))), (15, .p (bo (((decide (x23_1_2 < (t3_2.length : Int)))))))], [(2, .box 28 (vV2 t2_2))], L0, []⟩ trivial ?_
    rcases if_or h with ⟨c39, h⟩ | ⟨c39, h⟩
    · refine WC.condT c39 (by kernel_rfl) ?_
      refine WX.skip ?_
      refine WX.seq ?_
      refine WX.block ?_
      refine WX.seq ?_
      obtain ⟨t40_2, h40_1, h⟩ := bind_some h
      obtain ⟨m40_1, g40, h⟩ := bind_some h
      refine WC.via (α := Bool) (fun v40 => ⟨[(1, .p (sI t3_2)), (2, .ptr 2 0), (5, .p (i6 (x23_1_1))), (6, .p (i6 (x23_1_2))), (28, .p (bo (v40)))], [(2, .box 28 (vV2 t2_2))], L0, []⟩) m40_1 (fun hk => ?_) ?_
      · rcases if_or g40 with ⟨b40_5, g40⟩ | ⟨b40_5, g40⟩
        · obtain ⟨t40_4, h40_3, g40⟩ := bind_some g40
          exact WC.reg hn [(2, .val (.p (.rop ((eI .i64).cells t40_2 ++ encL (eI .i64) (t3_2.drop (x23_1_2.toNat + 1)))))), (5, .val (.p (bo (true)))), (9, .resP (bo (t40_4)))] [1, 2, 5, 6, 28] [2] ⟨[(1, .p (sI t3_2)), (2, .ptr 2 0), (5, .p (i6 (x23_1_1))), (6, .p (i6 (x23_1_2))), (28, .p (bo (t40_4)))], [(2, .box 28 (vV2 t2_2))], L0, []⟩ (And.intro (Ix (eI .i64) h40_1) (And.intro (Bl b40_5) (And.intro ((riddleref01_Has_ok h40_3)) (trivial)))) (by kernel_rfl) (hk t40_4 (Option.some.inj g40))
        · exact WC.reg hn [(2, .val (.p (.rop ((eI .i64).cells t40_2 ++ encL (eI .i64) (t3_2.drop (x23_1_2.toNat + 1)))))), (5, .val (.p (bo (false))))] [1, 2, 5, 6, 28] [2] ⟨[(1, .p (sI t3_2)), (2, .ptr 2 0), (5, .p (i6 (x23_1_1))), (6, .p (i6 (x23_1_2))), (28, .p (bo (false)))], [(2, .box 28 (vV2 t2_2))], L0, []⟩ (And.intro (Ix (eI .i64) h40_1) (And.intro (Bl b40_5) (trivial))) (by kernel_rfl) (hk false (Option.some.inj g40))
      rcases if_or h with ⟨c41, h⟩ | ⟨c41, h⟩
      · refine WC.condT c41 (by kernel_rfl) ?_
        obtain ⟨t42_2, h42_1, h⟩ := bind_some h
        obtain ⟨t42_4, h42_3, h⟩ := bind_some h
        refine WC.r1 hn [(3, .val (.p (.rop ((eI .i64).cells t42_2 ++ encL (eI .i64) (t3_2.drop (x23_1_2.toNat + 1)))))), (5, .resP (i6 (t42_4)))] [1, 2, 5, 6] [2] ⟨[(1, .p (sI t3_2)), (2, .ptr 2 0), (5, .p (i6 (t42_4))), (6, .p (i6 (x23_1_2)))], [(2, .box 28 (vV2 t2_2))], L0, []⟩ (And.intro (Ix (eI .i64) h42_1) (And.intro ((riddleref23_less_ok h42_3)) (trivial))) ?_
        refine WX.popBlk ?_
        refine WC.r1 hn [] [1, 2, 5, 6] [2] ⟨[(1, .p (sI t3_2)), (2, .ptr 2 0), (5, .p (i6 (t42_4))), (6, .p (i6 (((IntKind.i64.wrap (x23_1_2 + 1))))))], [(2, .box 28 (vV2 t2_2))], L0, []⟩ trivial ?_
        exact WC.next [1, 2, 5, 6] [2] (by kernel_rfl) (hnext23 (t42_4, (IntKind.i64.wrap (x23_1_2 + 1))) h)
      · refine WC.condF c41 (by kernel_rfl) ?_
        refine WX.skip ?_
        refine WX.popBlk ?_
        refine WC.r1 hn [] [1, 2, 5, 6] [2] ⟨[(1, .p (sI t3_2)), (2, .ptr 2 0), (5, .p (i6 (x23_1_1))), (6, .p (i6 (((IntKind.i64.wrap (x23_1_2 + 1))))))], [(2, .box 28 (vV2 t2_2))], L0, []⟩ trivial ?_
        exact WC.next [1, 2, 5, 6] [2] (by kernel_rfl) (hnext23 (x23_1_1, (IntKind.i64.wrap (x23_1_2 + 1))) h)
    · refine WC.condF c39 (by kernel_rfl) ?_
      refine WX.exit ?_
      refine WX.popCodeExit ?_
      refine WC.exit_nil (hexit23 _ _ (by simp) ?_)
      refine WX.popBlkHit ?_
      exact WC.keep [5] [] (by kernel_rfl) (hJ6 x23_1_1 h)
def riddleref23_Events_l0 (a1 : (List Int)) (a2 : Bool) (a3 : Bool) (t2_2 : api_Nfa) (J6 : List riddleref23_Event → Option ((List riddleref23_Event))) : Nat → (List riddleref23_Event × List Int × Int) → Option ((List riddleref23_Event))
  | 0, _ => none
  | k + 1, (x36_1_1, x36_1_2, x36_1_3) => (if (decide (x36_1_3 < (a1.length : Int))) = true then ((if (!a2) = true then some true else (if (x36_1_3 == 0) = true then some true else (if a3 = true then (at_ a1 ((IntKind.i64.wrap (x36_1_3 - 1)))).bind fun t67_2 => some ((t67_2 == 10)) else some false))) : Option (Bool)).bind fun v67 => jn (fun (v68 : Int) => (at_ a1 x36_1_3).bind fun t71_2 => (riddleref23_Next k t2_2 x36_1_2 v68 t71_2).bind fun t71_4 => (riddleref23_Least k t2_2 t71_4).bind fun t72_2 => (if (decide (t72_2 ≥ 0)) = true then (if okApp 16 (x36_1_1.length + ([(riddleref23_Event.mk ((IntKind.i64.wrap (x36_1_3 + 1))) t72_2)]).length) then riddleref23_Events_l0 a1 a2 a3 t2_2 J6 k (x36_1_1 ++ ([(riddleref23_Event.mk ((IntKind.i64.wrap (x36_1_3 + 1))) t72_2)]), t71_4, (IntKind.i64.wrap (x36_1_3 + 1))) else none) else riddleref23_Events_l0 a1 a2 a3 t2_2 J6 k (x36_1_1, t71_4, (IntKind.i64.wrap (x36_1_3 + 1))))) fun J68 => (if v67 = true then J68 x36_1_3 else J68 ((-1))) else J6 x36_1_1)
def riddleref23_Events (k : Nat) (a0 : api_Nfa) (a1 : (List Int)) (a2 : Bool) (a3 : Bool) : Option ((List riddleref23_Event)) :=
  (riddleref23_may k a0).bind fun t2_2 => (riddleref23_None k t2_2).bind fun t4_2 => jn (fun (v6 : List riddleref23_Event) => some v6) fun J6 => riddleref23_Events_l0 a1 a2 a3 t2_2 J6 k (([] : List riddleref23_Event), t4_2, 0)
theorem riddleref23_Events_ok {k : Nat} {a0 : api_Nfa} {a1 : (List Int)} {a2 : Bool} {a3 : Bool} {r : (List riddleref23_Event)} (h : riddleref23_Events k a0 a1 a2 a3 = some r) : AnsO Tryd.prog 10 [] [.p (pP2 a0), .p (slV (eI .u8) a1), .p (bo (a2)), .p (bo (a3))] [(61, rowV 38 e_riddleref23_Event r)] (.own 61) := by
  refine W_fnO [61] Tryd.func10 rfl (by kernel_rfl) (by kernel_rfl) (by kernel_rfl) (by kernel_rfl) ?_
  intro X hro hn
  unfold riddleref23_Events at h
  refine WC.rg hn [] [1, 2, 3, 4] [4] ⟨[(1, .p (slV (eI .u8) a1)), (2, .p (bo (a2))), (3, .p (bo (a3))), (4, .ptr 4 0)], [(4, .box 28 (vV2 a0))], L0, []⟩ trivial ?_
  refine WX.seq ?_
  obtain ⟨t2_2, h2_1, h⟩ := bind_some h
  refine WC.r1 hn [(1, .resP (pP2 t2_2))] [1, 2, 3, 4] [4] ⟨[(1, .p (slV (eI .u8) a1)), (2, .p (bo (a2))), (3, .p (bo (a3))), (4, .ptr 4 0)], [(4, .box 28 (vV2 t2_2))], L0, []⟩ (And.intro ((riddleref23_may_ok h2_1)) (trivial)) ?_
  refine WC.rg hn [] [1, 2, 3, 4, 9] [4] ⟨[(1, .p (slV (eI .u8) a1)), (2, .p (bo (a2))), (3, .p (bo (a3))), (4, .ptr 4 0), (9, .p (.sl .nil 0 []))], [(4, .box 28 (vV2 t2_2))], L0, []⟩ trivial ?_
  refine WX.seq ?_
  obtain ⟨t4_2, h4_1, h⟩ := bind_some h
  refine WC.r1 hn [(1, .co [] [] [] [(17, rI 2 t4_2)] (.own 17))] [1, 2, 3, 4, 9, 10] [4, 17] ⟨[(1, .p (slV (eI .u8) a1)), (2, .p (bo (a2))), (3, .p (bo (a3))), (4, .ptr 4 0), (9, .p (.sl .nil 0 [])), (10, .own 17)], [(4, .box 28 (vV2 t2_2)), (17, rI 2 t4_2)], L0, []⟩ (And.intro (And.intro ((riddleref23_None_ok h4_1).ren 16 17 (by kernel_rfl)) (trivial)) (trivial)) ?_
  refine WX.seq ?_
  refine WC.rg hn [] [1, 2, 3, 4, 9, 10, 11] [4, 17] ⟨[(1, .p (slV (eI .u8) a1)), (2, .p (bo (a2))), (3, .p (bo (a3))), (4, .ptr 4 0), (9, .p (.sl .nil 0 [])), (10, .own 17), (11, .p (i6 (0)))], [(4, .box 28 (vV2 t2_2)), (17, rI 2 t4_2)], L0, []⟩ trivial ?_
  obtain ⟨J6, eJ6, h⟩ := jn_some h
  try dsimp only at h
  refine WC.join (α := List riddleref23_Event) (fun v6 => ⟨[(9, .own 61)], [(61, rowV 38 e_riddleref23_Event v6)], L0, []⟩) (fun v6 => J6 v6 = some r) ?_ (fun hJ6 => ?_)
  · rintro y6_1 h
    rw [eJ6] at h
    try dsimp only at h
    refine WC.rg hn [] [8] [61] ⟨[(8, .own 61)], [(61, rowV 38 e_riddleref23_Event y6_1)], L0, []⟩ trivial ?_
    refine WX.ret ?_
    exact WC.outO (by rw [← Option.some.inj h]; kernel_rfl)
  · replace hJ6 := fun y6_1 => hJ6 y6_1
    refine WX.block ?_
    refine WC.nil hn [9] none 61 38 2 (by kernel_rfl) [1, 2, 3, 4, 9, 10, 11] [4, 17, 61] (st' := ⟨[(1, .p (slV (eI .u8) a1)), (2, .p (bo (a2))), (3, .p (bo (a3))), (4, .ptr 4 0), (9, .own 61), (10, .own 17), (11, .p (i6 (0)))], [(4, .box 28 (vV2 t2_2)), (17, rI 2 t4_2), (61, rowV 38 e_riddleref23_Event (([] : List riddleref23_Event)))], L0, []⟩) (by kernel_rfl) ?_
    refine WC.frz 17 (st' := ⟨[(1, .p (slV (eI .u8) a1)), (2, .p (bo (a2))), (3, .p (bo (a3))), (4, .ptr 4 0), (9, .own 61), (10, .p (sI t4_2)), (11, .p (i6 (0)))], [(4, .box 28 (vV2 t2_2)), (61, rowV 38 e_riddleref23_Event (([] : List riddleref23_Event)))], L0, []⟩) (by kernel_rfl) ?_
    refine WC.loop (V := List riddleref23_Event × List Int × Int) (riddleref23_Events_l0 a1 a2 a3 t2_2 J6) r (fun v36 => ⟨[(1, .p (slV (eI .u8) a1)), (2, .p (bo (a2))), (3, .p (bo (a3))), (4, .ptr 4 0), (9, .own 61), (10, .p (sI v36.2.1)), (11, .p (i6 (v36.2.2)))], [(4, .box 28 (vV2 t2_2)), (61, rowV 38 e_riddleref23_Event v36.1)], L0, []⟩) _ (([] : List riddleref23_Event), t4_2, 0) h (fun _ => rfl) [1, 2, 3, 4, 9, 10, 11] [4, 61] (by kernel_rfl) ?_
    clear h; rintro k ⟨x36_1_1, x36_1_2, x36_1_3⟩ h K36 hnext36 hexit36
    rw [riddleref23_Events_l0] at h
    refine WX.seq ?_
    refine WC.rg hn [] [1, 2, 3, 4, 9, 10, 11, 21] [4, 61] ⟨[(1, .p (slV (eI .u8) a1)), (2, .p (bo (a2))), (3, .p (bo (a3))), (4, .ptr 4 0), (9, .own 61), (10, .p (sI x36_1_2)), (11, .p (i6 (x36_1_3))), (21, .p (bo (((decide (x36_1_3 < (a1.length : Int)))))))], [(4, .box 28 (vV2 t2_2)), (61, rowV 38 e_riddleref23_Event x36_1_1)], L0, []⟩ trivial ?_
    rcases if_or h with ⟨c65, h⟩ | ⟨c65, h⟩
    · refine WC.condT c65 (by kernel_rfl) ?_
      refine WX.skip ?_
      refine WX.seq ?_
      refine WX.block ?_
      refine WC.rg hn [] [1, 2, 3, 4, 9, 10, 11, 12] [4, 61] ⟨[(1, .p (slV (eI .u8) a1)), (2, .p (bo (a2))), (3, .p (bo (a3))), (4, .ptr 4 0), (9, .own 61), (10, .p (sI x36_1_2)), (11, .p (i6 (x36_1_3))), (12, .p (i6 (((-1)))))], [(4, .box 28 (vV2 t2_2)), (61, rowV 38 e_riddleref23_Event x36_1_1)], L0, []⟩ trivial ?_
      refine WX.seq ?_
      refine WX.seq ?_
      obtain ⟨m67_1, g67, h⟩ := bind_some h
      refine WC.via (α := Bool) (fun v67 => ⟨[(1, .p (slV (eI .u8) a1)), (2, .p (bo (a2))), (3, .p (bo (a3))), (4, .ptr 4 0), (9, .own 61), (10, .p (sI x36_1_2)), (11, .p (i6 (x36_1_3))), (12, .p (i6 (((-1))))), (40, .p (bo (v67)))], [(4, .box 28 (vV2 t2_2)), (61, rowV 38 e_riddleref23_Event x36_1_1)], L0, []⟩) m67_1 (fun hk => ?_) ?_
      · rcases if_or g67 with ⟨b67_2, g67⟩ | ⟨b67_2, g67⟩
        · exact WC.reg hn [(2, .val (.p (bo (true))))] [1, 2, 3, 4, 9, 10, 11, 12, 40] [4, 61] ⟨[(1, .p (slV (eI .u8) a1)), (2, .p (bo (a2))), (3, .p (bo (a3))), (4, .ptr 4 0), (9, .own 61), (10, .p (sI x36_1_2)), (11, .p (i6 (x36_1_3))), (12, .p (i6 (((-1))))), (40, .p (bo (true)))], [(4, .box 28 (vV2 t2_2)), (61, rowV 38 e_riddleref23_Event x36_1_1)], L0, []⟩ (And.intro (Bl b67_2) (trivial)) (by kernel_rfl) (hk true (Option.some.inj g67))
        · rcases if_or g67 with ⟨b67_6, g67⟩ | ⟨b67_6, g67⟩
          · exact WC.reg hn [(2, .val (.p (bo (false)))), (6, .val (.p (bo (true))))] [1, 2, 3, 4, 9, 10, 11, 12, 40] [4, 61] ⟨[(1, .p (slV (eI .u8) a1)), (2, .p (bo (a2))), (3, .p (bo (a3))), (4, .ptr 4 0), (9, .own 61), (10, .p (sI x36_1_2)), (11, .p (i6 (x36_1_3))), (12, .p (i6 (((-1))))), (40, .p (bo (true)))], [(4, .box 28 (vV2 t2_2)), (61, rowV 38 e_riddleref23_Event x36_1_1)], L0, []⟩ (And.intro (Bl b67_2) (And.intro (Bl b67_6) (trivial))) (by kernel_rfl) (hk true (Option.some.inj g67))
          · rcases if_or g67 with ⟨b67_8, g67⟩ | ⟨b67_8, g67⟩
            · obtain ⟨t67_2, h67_1, g67⟩ := bind_some g67
              exact WC.reg hn [(2, .val (.p (bo (false)))), (6, .val (.p (bo (false)))), (8, .val (.p (bo (true)))), (12, .val (.p (.rop ((eI .u8).cells t67_2 ++ encL (eI .u8) (a1.drop (((IntKind.i64.wrap (x36_1_3 - 1))).toNat + 1))))))] [1, 2, 3, 4, 9, 10, 11, 12, 40] [4, 61] ⟨[(1, .p (slV (eI .u8) a1)), (2, .p (bo (a2))), (3, .p (bo (a3))), (4, .ptr 4 0), (9, .own 61), (10, .p (sI x36_1_2)), (11, .p (i6 (x36_1_3))), (12, .p (i6 (((-1))))), (40, .p (bo (((t67_2 == 10)))))], [(4, .box 28 (vV2 t2_2)), (61, rowV 38 e_riddleref23_Event x36_1_1)], L0, []⟩ (And.intro (Bl b67_2) (And.intro (Bl b67_6) (And.intro (Bl b67_8) (And.intro (Ix (eI .u8) h67_1) (trivial))))) (by kernel_rfl) (hk ((t67_2 == 10)) (Option.some.inj g67))
            · exact WC.reg hn [(2, .val (.p (bo (false)))), (6, .val (.p (bo (false)))), (8, .val (.p (bo (false))))] [1, 2, 3, 4, 9, 10, 11, 12, 40] [4, 61] ⟨[(1, .p (slV (eI .u8) a1)), (2, .p (bo (a2))), (3, .p (bo (a3))), (4, .ptr 4 0), (9, .own 61), (10, .p (sI x36_1_2)), (11, .p (i6 (x36_1_3))), (12, .p (i6 (((-1))))), (40, .p (bo (false)))], [(4, .box 28 (vV2 t2_2)), (61, rowV 38 e_riddleref23_Event x36_1_1)], L0, []⟩ (And.intro (Bl b67_2) (And.intro (Bl b67_6) (And.intro (Bl b67_8) (trivial)))) (by kernel_rfl) (hk false (Option.some.inj g67))
      obtain ⟨J68, eJ68, h⟩ := jn_some h
      try dsimp only at h
      refine WC.join (α := Int) (fun v68 => ⟨[(1, .p (slV (eI .u8) a1)), (2, .p (bo (a2))), (3, .p (bo (a3))), (4, .ptr 4 0), (9, .own 61), (10, .p (sI x36_1_2)), (11, .p (i6 (x36_1_3))), (12, .p (i6 (v68)))], [(4, .box 28 (vV2 t2_2)), (61, rowV 38 e_riddleref23_Event x36_1_1)], L0, []⟩) (fun v68 => J68 v68 = some r) ?_ (fun hJ68 => ?_)
      · rintro y68_1 h
        rw [eJ68] at h
        try dsimp only at h
        refine WX.seq ?_
        obtain ⟨t71_2, h71_1, h⟩ := bind_some h
        obtain ⟨t71_4, h71_3, h⟩ := bind_some h
        refine WC.drw hn [] [] [(5, .val (.p (.rop ((eI .u8).cells t71_2 ++ encL (eI .u8) (a1.drop (x36_1_3.toNat + 1)))))), (7, .resP (sI t71_4))] [1, 2, 3, 4, 9, 10, 11] [4, 61] ⟨[(1, .p (slV (eI .u8) a1)), (2, .p (bo (a2))), (3, .p (bo (a3))), (4, .ptr 4 0), (9, .own 61), (10, .p (sI t71_4)), (11, .p (i6 (x36_1_3)))], [(4, .box 28 (vV2 t2_2)), (61, rowV 38 e_riddleref23_Event x36_1_1)], L0, []⟩ (And.intro (Ix (eI .u8) h71_1) (And.intro ((riddleref23_Next_okP h71_3)) (trivial))) (by kernel_rfl) (by kernel_rfl) (by kernel_rfl) (by kernel_rfl) ?_
        refine WX.seq ?_
        obtain ⟨t72_2, h72_1, h⟩ := bind_some h
        refine WC.r1 hn [(2, .resP (i6 (t72_2)))] [1, 2, 3, 4, 9, 10, 11, 13] [4, 61] ⟨[(1, .p (slV (eI .u8) a1)), (2, .p (bo (a2))), (3, .p (bo (a3))), (4, .ptr 4 0), (9, .own 61), (10, .p (sI t71_4)), (11, .p (i6 (x36_1_3))), (13, .p (i6 (t72_2)))], [(4, .box 28 (vV2 t2_2)), (61, rowV 38 e_riddleref23_Event x36_1_1)], L0, []⟩ (And.intro ((riddleref23_Least_ok h72_1)) (trivial)) ?_
        refine WC.rg hn [] [1, 2, 3, 4, 9, 10, 11, 13, 54] [4, 61] ⟨[(1, .p (slV (eI .u8) a1)), (2, .p (bo (a2))), (3, .p (bo (a3))), (4, .ptr 4 0), (9, .own 61), (10, .p (sI t71_4)), (11, .p (i6 (x36_1_3))), (13, .p (i6 (t72_2))), (54, .p (bo (((decide (t72_2 ≥ 0))))))], [(4, .box 28 (vV2 t2_2)), (61, rowV 38 e_riddleref23_Event x36_1_1)], L0, []⟩ trivial ?_
        rcases if_or h with ⟨c74, h⟩ | ⟨c74, h⟩
        · refine WC.condT c74 (by kernel_rfl) ?_
          obtain ⟨c75_1, h⟩ := if_some h
          refine WC.r1 hn [(6, .app (some 61) (rowV 38 e_riddleref23_Event (x36_1_1 ++ ([(riddleref23_Event.mk ((IntKind.i64.wrap (x36_1_3 + 1))) t72_2)]))))] [1, 2, 3, 4, 9, 10, 11] [4, 61] ⟨[(1, .p (slV (eI .u8) a1)), (2, .p (bo (a2))), (3, .p (bo (a3))), (4, .ptr 4 0), (9, .own 61), (10, .p (sI t71_4)), (11, .p (i6 (x36_1_3)))], [(4, .box 28 (vV2 t2_2)), (61, rowV 38 e_riddleref23_Event (x36_1_1 ++ ([(riddleref23_Event.mk ((IntKind.i64.wrap (x36_1_3 + 1))) t72_2)])))], L0, []⟩ (And.intro (Ap e_riddleref23_Event (some 61) 38 16 2 x36_1_1 ([(riddleref23_Event.mk ((IntKind.i64.wrap (x36_1_3 + 1))) t72_2)]) c75_1) (trivial)) ?_
          refine WX.popBlk ?_
          refine WC.r1 hn [] [1, 2, 3, 4, 9, 10, 11] [4, 61] ⟨[(1, .p (slV (eI .u8) a1)), (2, .p (bo (a2))), (3, .p (bo (a3))), (4, .ptr 4 0), (9, .own 61), (10, .p (sI t71_4)), (11, .p (i6 (((IntKind.i64.wrap (x36_1_3 + 1))))))], [(4, .box 28 (vV2 t2_2)), (61, rowV 38 e_riddleref23_Event (x36_1_1 ++ ([(riddleref23_Event.mk ((IntKind.i64.wrap (x36_1_3 + 1))) t72_2)])))], L0, []⟩ trivial ?_
          exact WC.next [1, 2, 3, 4, 9, 10, 11] [4, 61] (by kernel_rfl) (hnext36 (x36_1_1 ++ ([(riddleref23_Event.mk ((IntKind.i64.wrap (x36_1_3 + 1))) t72_2)]), t71_4, (IntKind.i64.wrap (x36_1_3 + 1))) h)
        · refine WC.condF c74 (by kernel_rfl) ?_
          refine WX.skip ?_
          refine WX.popBlk ?_
          refine WC.r1 hn [] [1, 2, 3, 4, 9, 10, 11] [4, 61] ⟨[(1, .p (slV (eI .u8) a1)), (2, .p (bo (a2))), (3, .p (bo (a3))), (4, .ptr 4 0), (9, .own 61), (10, .p (sI t71_4)), (11, .p (i6 (((IntKind.i64.wrap (x36_1_3 + 1))))))], [(4, .box 28 (vV2 t2_2)), (61, rowV 38 e_riddleref23_Event x36_1_1)], L0, []⟩ trivial ?_
          exact WC.next [1, 2, 3, 4, 9, 10, 11] [4, 61] (by kernel_rfl) (hnext36 (x36_1_1, t71_4, (IntKind.i64.wrap (x36_1_3 + 1))) h)
      · replace hJ68 := fun y68_1 => hJ68 y68_1
        rcases if_or h with ⟨c78, h⟩ | ⟨c78, h⟩
        · refine WC.condT c78 (by kernel_rfl) ?_
          refine WC.r1 hn [] [1, 2, 3, 4, 9, 10, 11, 12] [4, 61] ⟨[(1, .p (slV (eI .u8) a1)), (2, .p (bo (a2))), (3, .p (bo (a3))), (4, .ptr 4 0), (9, .own 61), (10, .p (sI x36_1_2)), (11, .p (i6 (x36_1_3))), (12, .p (i6 (x36_1_3)))], [(4, .box 28 (vV2 t2_2)), (61, rowV 38 e_riddleref23_Event x36_1_1)], L0, []⟩ trivial ?_
          exact WC.keep [1, 2, 3, 4, 9, 10, 11, 12] [4, 61] (by kernel_rfl) (hJ68 x36_1_3 h)
        · refine WC.condF c78 (by kernel_rfl) ?_
          refine WX.skip ?_
          exact WC.keep [1, 2, 3, 4, 9, 10, 11, 12] [4, 61] (by kernel_rfl) (hJ68 ((-1)) h)
    · refine WC.condF c65 (by kernel_rfl) ?_
      refine WX.exit ?_
      refine WX.popCodeExit ?_
      refine WC.exit_nil (hexit36 _ _ (by simp) ?_)
      refine WX.popBlkHit ?_
      exact WC.keep [9] [61] (by kernel_rfl) (hJ6 x36_1_1 h)
theorem riddleref23_Events_okP {k : Nat} {a0 : api_Nfa} {a1 : (List Int)} {a2 : Bool} {a3 : Bool} {r : (List riddleref23_Event)} (h : riddleref23_Events k a0 a1 a2 a3 = some r) : Ans Tryd.prog 10 [pP2 a0, slV (eI .u8) a1, bo (a2), bo (a3)] (slV e_riddleref23_Event r) := AnsO.ans (args := [pP2 a0, slV (eI .u8) a1, bo (a2), bo (a3)]) (riddleref23_Events_ok h) (by kernel_rfl)
def slices_Equal_int_int_l0 (a0 : (List Int)) (a1 : (List Int)) (J6 : Unit → Option (Bool)) : Nat → Int → Option (Bool)
  | 0, _ => none
  | k + 1, x23_1_1 => (if (decide (x23_1_1 < (a0.length : Int))) = true then (at_ a0 x23_1_1).bind fun t41_2 => (at_ a1 x23_1_1).bind fun t41_4 => (if (t41_2 != t41_4) = true then some false else slices_Equal_int_int_l0 a0 a1 J6 k ((IntKind.i64.wrap (x23_1_1 + 1)))) else J6 ())
def slices_Equal_int_int (k : Nat) (a0 : (List Int)) (a1 : (List Int)) : Option (Bool) :=
  (if ((a0.length : Int) != (a1.length : Int)) = true then some false else jn (fun (v6 : Unit) => some true) fun J6 => slices_Equal_int_int_l0 a0 a1 J6 k 0)
theorem slices_Equal_int_int_ok {k : Nat} {a0 : (List Int)} {a1 : (List Int)} {r : Bool} (h : slices_Equal_int_int k a0 a1 = some r) : Ans Tryd.prog 11 [sI a0, sI a1] (bo (r)) := by
  refine W_fn Tryd.func11 rfl (by kernel_rfl) (by kernel_rfl) ?_
  intro X hro hn
  unfold slices_Equal_int_int at h
  refine WC.rg hn [] [0, 1] [] ⟨[(0, .p (sI a0)), (1, .p (sI a1))], [], L0, []⟩ trivial ?_
  refine WX.seq ?_
  refine WC.rg hn [] [0, 1, 10] [] ⟨[(0, .p (sI a0)), (1, .p (sI a1)), (10, .p (bo ((((a0.length : Int) != (a1.length : Int))))))], [], L0, []⟩ trivial ?_
  rcases if_or h with ⟨c3, h⟩ | ⟨c3, h⟩
  · refine WC.condT c3 (by kernel_rfl) ?_
    refine WC.rg hn [] [4] [] ⟨[(4, .p (bo (false)))], [], L0, []⟩ trivial ?_
    refine WX.ret ?_
    exact WC.outP (by rw [← Option.some.inj h]; kernel_rfl)
  · refine WC.condF c3 (by kernel_rfl) ?_
    refine WX.skip ?_
    refine WX.seq ?_
    refine WC.rg hn [] [0, 1, 12, 13] [] ⟨[(0, .p (sI a0)), (1, .p (sI a1)), (12, .p (i6 (((a0.length : Int))))), (13, .p (i6 (0)))], [], L0, []⟩ trivial ?_
    obtain ⟨J6, eJ6, h⟩ := jn_some h
    try dsimp only at h
    refine WC.join (α := Unit) (fun v6 => ⟨[], [], L0, []⟩) (fun v6 => J6 v6 = some r) ?_ (fun hJ6 => ?_)
    · rintro _ h
      rw [eJ6] at h
      try dsimp only at h
      refine WC.rg hn [] [4] [] ⟨[(4, .p (bo (true)))], [], L0, []⟩ trivial ?_
      refine WX.ret ?_
      exact WC.outP (by rw [← Option.some.inj h]; kernel_rfl)
    · skip
      refine WX.block ?_
      refine WC.loop (V := Int) (slices_Equal_int_int_l0 a0 a1 J6) r (fun v23 => ⟨[(0, .p (sI a0)), (1, .p (sI a1)), (12, .p (i6 (((a0.length : Int))))), (13, .p (i6 (v23)))], [], L0, []⟩) _ 0 h (fun _ => rfl) [0, 1, 12, 13] [] (by kernel_rfl) ?_
      clear h; rintro k x23_1_1 h K23 hnext23 hexit23
      rw [slices_Equal_int_int_l0] at h
      refine WC.rg hn [] [0, 1, 12, 13, 14] [] ⟨[(0, .p (sI a0)), (1, .p (sI a1)), (12, .p (i6 (((a0.length : Int))))), (13, .p (i6 (x23_1_1))), (14, .p (bo (((decide (x23_1_1 < (a0.length : Int)))))))], [], L0, []⟩ trivial ?_
      refine WX.seq ?_
      rcases if_or h with ⟨c39, h⟩ | ⟨c39, h⟩
      · refine WC.condT c39 (by kernel_rfl) ?_
        refine WX.skip ?_
        refine WX.seq ?_
        refine WX.block ?_
        refine WC.rg hn [] [0, 1, 5, 12, 13] [] ⟨[(0, .p (sI a0)), (1, .p (sI a1)), (5, .p (i6 (x23_1_1))), (12, .p (i6 (((a0.length : Int))))), (13, .p (i6 (x23_1_1)))], [], L0, []⟩ trivial ?_
        refine WX.seq ?_
        obtain ⟨t41_2, h41_1, h⟩ := bind_some h
        obtain ⟨t41_4, h41_3, h⟩ := bind_some h
        refine WC.drw hn [] [] [(2, .val (.p (.rop ((eI .i64).cells t41_2 ++ encL (eI .i64) (a0.drop (x23_1_1.toNat + 1)))))), (6, .val (.p (.rop ((eI .i64).cells t41_4 ++ encL (eI .i64) (a1.drop (x23_1_1.toNat + 1))))))] [0, 1, 12, 13, 24] [] ⟨[(0, .p (sI a0)), (1, .p (sI a1)), (12, .p (i6 (((a0.length : Int))))), (13, .p (i6 (x23_1_1))), (24, .p (bo (((t41_2 != t41_4)))))], [], L0, []⟩ (And.intro (Ix (eI .i64) h41_1) (And.intro (Ix (eI .i64) h41_3) (trivial))) (by kernel_rfl) (by kernel_rfl) (by kernel_rfl) (by kernel_rfl) ?_
        rcases if_or h with ⟨c42, h⟩ | ⟨c42, h⟩
        · refine WC.condT c42 (by kernel_rfl) ?_
          refine WC.rg hn [] [4] [] ⟨[(4, .p (bo (false)))], [], L0, []⟩ trivial ?_
          refine WX.ret ?_
          refine WC.ret_all (hexit23 _ _ (by simp) ?_)
          exact WC.outP (by rw [← Option.some.inj h]; kernel_rfl)
        · refine WC.condF c42 (by kernel_rfl) ?_
          refine WX.skip ?_
          refine WX.popBlk ?_
          refine WC.r1 hn [] [0, 1, 12, 13] [] ⟨[(0, .p (sI a0)), (1, .p (sI a1)), (12, .p (i6 (((a0.length : Int))))), (13, .p (i6 (((IntKind.i64.wrap (x23_1_1 + 1))))))], [], L0, []⟩ trivial ?_
          exact WC.next [0, 1, 12, 13] [] (by kernel_rfl) (hnext23 ((IntKind.i64.wrap (x23_1_1 + 1))) h)
      · refine WC.condF c39 (by kernel_rfl) ?_
        refine WX.exit ?_
        refine WX.popCodeExit ?_
        refine WC.exit_nil (hexit23 _ _ (by simp) ?_)
        refine WX.popBlkHit ?_
        exact WC.keep [] [] (by kernel_rfl) (hJ6 () h)
def riddleref11_may (k : Nat) (a0 : api_Nfa) : Option (api_Nfa) :=
  (riddleref10_Check k a0).bind fun t2_2 => (if (t2_2 != 0) = true then some ((api_Nfa.mk ([]) ((api_Bits.mk 0 ([]))) ((api_Bits.mk 0 ([]))) ([]) false)) else some a0)
theorem riddleref11_may_ok {k : Nat} {a0 : api_Nfa} {r : api_Nfa} (h : riddleref11_may k a0 = some r) : Ans Tryd.prog 35 [pP2 a0] (pP2 r) := by
  refine W_fn Tryd.func35 rfl (by kernel_rfl) (by kernel_rfl) ?_
  intro X hro hn
  unfold riddleref11_may at h
  refine WC.rg hn [] [1, 2] [1, 2] ⟨[(1, .ptr 1 0), (2, .ptr 2 0)], [(1, .box 28 (vV2 a0)), (2, .box 28 [.p (.sl .nil 0 []), .p (i6 (0)), .p (.sl .nil 0 []), .p (i6 (0)), .p (.sl .nil 0 []), .p (.sl .nil 0 []), .p (bo (false))])], L0, []⟩ trivial ?_
  refine WX.seq ?_
  refine WX.seq ?_
  obtain ⟨t2_2, h2_1, h⟩ := bind_some h
  refine WC.r1 hn [(1, .resP (i6 (t2_2)))] [1, 2, 5] [1, 2] ⟨[(1, .ptr 1 0), (2, .ptr 2 0), (5, .p (bo (((t2_2 != 0)))))], [(1, .box 28 (vV2 a0)), (2, .box 28 [.p (.sl .nil 0 []), .p (i6 (0)), .p (.sl .nil 0 []), .p (i6 (0)), .p (.sl .nil 0 []), .p (.sl .nil 0 []), .p (bo (false))])], L0, []⟩ (And.intro ((riddleref10_Check_ok h2_1)) (trivial)) ?_
  rcases if_or h with ⟨c3, h⟩ | ⟨c3, h⟩
  · refine WC.condT c3 (by kernel_rfl) ?_
    refine WC.rg hn [] [2] [2] ⟨[(2, .ptr 2 0)], [(2, .box 28 [.p (.sl .nil 0 []), .p (i6 (0)), .p (.sl .nil 0 []), .p (i6 (0)), .p (.sl .nil 0 []), .p (.sl .nil 0 []), .p (bo (false))])], L0, []⟩ trivial ?_
    refine WX.ret ?_
    exact WC.outP (by rw [← Option.some.inj h]; kernel_rfl)
  · refine WC.condF c3 (by kernel_rfl) ?_
    refine WX.skip ?_
    refine WC.rg hn [] [2] [2] ⟨[(2, .ptr 2 0)], [(2, .box 28 (vV2 a0))], L0, []⟩ trivial ?_
    refine WX.ret ?_
    exact WC.outP (by rw [← Option.some.inj h]; kernel_rfl)
def riddleref11_None (k : Nat) (a0 : api_Nfa) : Option (api_Bits) :=
  (riddleref11_may k a0).bind fun t2_2 => (riddleref01_Zero ((t2_2.Classes.length : Int))).bind fun t2_4 => some t2_4
theorem riddleref11_None_ok {k : Nat} {a0 : api_Nfa} {r : api_Bits} (h : riddleref11_None k a0 = some r) : AnsO Tryd.prog 36 [] [.p (pP2 a0)] [(7, rW 73 r.Words)] (.agg [.p (i6 (r.N)), .own 7]) := by
  refine W_fnO [7] Tryd.func36 rfl (by kernel_rfl) (by kernel_rfl) (by kernel_rfl) (by kernel_rfl) ?_
  intro X hro hn
  unfold riddleref11_None at h
  refine WC.rg hn [] [1, 2] [1, 2] ⟨[(1, .ptr 1 0), (2, .ptr 2 0)], [(1, .box 28 (vV2 a0)), (2, .box 25 [.p (i6 (0)), .p (.sl .nil 0 [])])], L0, []⟩ trivial ?_
  refine WX.seq ?_
  obtain ⟨t2_2, h2_1, h⟩ := bind_some h
  obtain ⟨t2_4, h2_3, h⟩ := bind_some h
  refine WC.r1 hn [(1, .resP (pP2 t2_2)), (4, .co [] [] [] [(7, rW 73 t2_4.Words)] (.agg [.p (i6 (t2_4.N)), .own 7]))] [2] [2, 7] ⟨[(2, .ptr 2 0)], [(2, .box 25 [.p (i6 (t2_4.N)), .own 7]), (7, rW 73 t2_4.Words)], L0, []⟩ (And.intro ((riddleref11_may_ok h2_1)) (And.intro (And.intro (riddleref01_Zero_ok h2_3) (trivial)) (trivial))) ?_
  refine WX.ret ?_
  exact WC.outO (by rw [← Option.some.inj h]; kernel_rfl)
theorem riddleref11_None_okP {k : Nat} {a0 : api_Nfa} {r : api_Bits} (h : riddleref11_None k a0 = some r) : Ans Tryd.prog 36 [pP2 a0] (pP5 r) := AnsO.ans (args := [pP2 a0]) (riddleref11_None_ok h) (by kernel_rfl)
def riddleref11_state (k : Nat) (a0 : api_Nfa) (a1 : api_Bits) : Option (api_Bits) :=
  (riddleref01_Check k a1).bind fun t2_2 => (if (((t2_2 != 0)) || ((a1.N != (a0.Classes.length : Int)))) = true then (riddleref11_None k a0).bind fun t4_2 => some t4_2 else some a1)
theorem riddleref11_state_ok {k : Nat} {a0 : api_Nfa} {a1 : api_Bits} {r : api_Bits} (h : riddleref11_state k a0 a1 = some r) : Ans Tryd.prog 61 [pP2 a0, pP5 a1] (pP5 r) := by
  refine W_fn Tryd.func61 rfl (by kernel_rfl) (by kernel_rfl) ?_
  intro X hro hn
  unfold riddleref11_state at h
  refine WC.rg hn [] [2, 3, 4] [2, 3, 4] ⟨[(2, .ptr 2 0), (3, .ptr 3 0), (4, .ptr 4 0)], [(2, .box 28 (vV2 a0)), (3, .box 25 (vV5 a1)), (4, .box 25 [.p (i6 (0)), .p (.sl .nil 0 [])])], L0, []⟩ trivial ?_
  refine WX.seq ?_
  refine WX.seq ?_
  obtain ⟨t2_2, h2_1, h⟩ := bind_some h
  refine WC.via (α := Bool) (fun v2 => ⟨[(2, .ptr 2 0), (3, .ptr 3 0), (4, .ptr 4 0), (15, .p (bo (v2)))], [(2, .box 28 (vV2 a0)), (3, .box 25 (vV5 a1)), (4, .box 25 [.p (i6 (0)), .p (.sl .nil 0 [])])], L0, []⟩) ((((t2_2 != 0)) || ((a1.N != (a0.Classes.length : Int))))) (fun hk => ?_) ?_
  · rcases Bool.eq_false_or_eq_true ((t2_2 != 0)) with b2_3 | b2_3
    · exact WC.reg hn [(1, .resP (i6 (t2_2))), (3, .val (.p (bo (true))))] [2, 3, 4, 15] [2, 3, 4] ⟨[(2, .ptr 2 0), (3, .ptr 3 0), (4, .ptr 4 0), (15, .p (bo (true)))], [(2, .box 28 (vV2 a0)), (3, .box 25 (vV5 a1)), (4, .box 25 [.p (i6 (0)), .p (.sl .nil 0 [])])], L0, []⟩ (And.intro ((riddleref01_Check_ok h2_1)) (And.intro (Bl b2_3) (trivial))) (by kernel_rfl) (hk true (by first | (rw [b2_3]; rfl) | simp [b2_3]))
    · exact WC.reg hn [(1, .resP (i6 (t2_2))), (3, .val (.p (bo (false))))] [2, 3, 4, 15] [2, 3, 4] ⟨[(2, .ptr 2 0), (3, .ptr 3 0), (4, .ptr 4 0), (15, .p (bo (((a1.N != (a0.Classes.length : Int))))))], [(2, .box 28 (vV2 a0)), (3, .box 25 (vV5 a1)), (4, .box 25 [.p (i6 (0)), .p (.sl .nil 0 [])])], L0, []⟩ (And.intro ((riddleref01_Check_ok h2_1)) (And.intro (Bl b2_3) (trivial))) (by kernel_rfl) (hk ((a1.N != (a0.Classes.length : Int))) (by first | (rw [b2_3]; rfl) | simp [b2_3]))
  rcases if_or h with ⟨c3, h⟩ | ⟨c3, h⟩
  · refine WC.condT c3 (by kernel_rfl) ?_
    refine WX.seq ?_
    obtain ⟨t4_2, h4_1, h⟩ := bind_some h
    refine WC.r1 hn [(1, .co [] [] [] [(17, rW 73 t4_2.Words)] (.agg [.p (i6 (t4_2.N)), .own 17]))] [4] [4, 17] ⟨[(4, .ptr 4 0)], [(4, .box 25 [.p (i6 (t4_2.N)), .own 17]), (17, rW 73 t4_2.Words)], L0, []⟩ (And.intro (And.intro ((riddleref11_None_ok h4_1).ren 7 17 (by kernel_rfl)) (trivial)) (trivial)) ?_
    refine WX.ret ?_
    exact WC.outP (by rw [← Option.some.inj h]; kernel_rfl)
  · refine WC.condF c3 (by kernel_rfl) ?_
    refine WX.skip ?_
    refine WC.rg hn [] [4] [4] ⟨[(4, .ptr 4 0)], [(4, .box 25 (vV5 a1))], L0, []⟩ trivial ?_
    refine WX.ret ?_
    exact WC.outP (by rw [← Option.some.inj h]; kernel_rfl)
def riddleref11_Next_l1 (t2_2 : api_Nfa) (t3_2 : api_Bits) (x48_1_2 : Int) (J91 : Bool → Option (api_Bits)) : Nat → (Bool × Int) → Option (api_Bits)
  | 0, _ => none
  | k + 1, (x106_1_1, x106_1_2) => (if (decide (x106_1_2 < (t2_2.Follow.length : Int))) = true then ((if x106_1_1 = true then some true else (riddleref01_Has k t3_2 x106_1_2).bind fun t117_2 => (if t117_2 = true then (at_ t2_2.Follow x106_1_2).bind fun t117_4 => (riddleref01_Has k t117_4 x48_1_2).bind fun t117_6 => some t117_6 else some false)) : Option (Bool)).bind fun v117 => riddleref11_Next_l1 t2_2 t3_2 x48_1_2 J91 k (v117, (IntKind.i64.wrap (x106_1_2 + 1))) else J91 x106_1_1)
def riddleref11_Next_l0 (a2 : Bool) (a3 : Int) (t2_2 : api_Nfa) (t3_2 : api_Bits) (J6 : List Int → Option (api_Bits)) : Nat → (List Int × Int) → Option (api_Bits)
  | 0, _ => none
  | k + 1, (x48_1_1, x48_1_2) => (if (decide (x48_1_2 < (t2_2.Classes.length : Int))) = true then ((if a2 = true then (riddleref01_Has k t2_2.First x48_1_2).bind fun t89_2 => some t89_2 else some false) : Option (Bool)).bind fun v89 => jn (fun (v91 : Bool) => ((if v91 = true then (at_ t2_2.Classes x48_1_2).bind fun t101_2 => (riddleref02_Has t101_2 a3).bind fun t101_4 => some t101_4 else some false) : Option (Bool)).bind fun v101 => (if v101 = true then (if okApp 8 (x48_1_1.length + ([x48_1_2]).length) then riddleref11_Next_l0 a2 a3 t2_2 t3_2 J6 k (x48_1_1 ++ ([x48_1_2]), (IntKind.i64.wrap (x48_1_2 + 1))) else none) else riddleref11_Next_l0 a2 a3 t2_2 t3_2 J6 k (x48_1_1, (IntKind.i64.wrap (x48_1_2 + 1))))) fun J91 => riddleref11_Next_l1 t2_2 t3_2 x48_1_2 J91 k (v89, 0) else J6 x48_1_1)
def riddleref11_Next (k : Nat) (a0 : api_Nfa) (a1 : api_Bits) (a2 : Bool) (a3 : Int) : Option (api_Bits) :=
  (riddleref11_may k a0).bind fun t2_2 => (riddleref11_state k t2_2 a1).bind fun t3_2 => jn (fun (v6 : List Int) => (riddleref01_New k ((t2_2.Classes.length : Int)) v6).bind fun t46_2 => some t46_2.1) fun J6 => riddleref11_Next_l0 a2 a3 t2_2 t3_2 J6 k (([] : List Int), 0)
theorem riddleref11_Next_ok {k : Nat} {a0 : api_Nfa} {a1 : api_Bits} {a2 : Bool} {a3 : Int} {r : api_Bits} (h : riddleref11_Next k a0 a1 a2 a3 = some r) : AnsO Tryd.prog 29 [] [.p (pP2 a0), .p (pP5 a1), .p (bo (a2)), .p (.s (.int .u8 a3))] [(75, rW 73 r.Words)] (.agg [.p (i6 (r.N)), .own 75]) := by
  refine W_fnO [75] Tryd.func29 rfl (by kernel_rfl) (by kernel_rfl) (by kernel_rfl) (by kernel_rfl) ?_
  intro X hro hn
  unfold riddleref11_Next at h
  refine WC.rg hn [] [2, 3, 4, 5, 8] [4, 5, 8] ⟨[(2, .p (bo (a2))), (3, .p (.s (.int .u8 a3))), (4, .ptr 4 0), (5, .ptr 5 0), (8, .ptr 8 0)], [(4, .box 28 (vV2 a0)), (5, .box 25 (vV5 a1)), (8, .box 25 [.p (i6 (0)), .p (.sl .nil 0 [])])], L0, []⟩ trivial ?_
  refine WX.seq ?_
  obtain ⟨t2_2, h2_1, h⟩ := bind_some h
  refine WC.r1 hn [(1, .resP (pP2 t2_2))] [2, 3, 4, 5, 8] [4, 5, 8] ⟨[(2, .p (bo (a2))), (3, .p (.s (.int .u8 a3))), (4, .ptr 4 0), (5, .ptr 5 0), (8, .ptr 8 0)], [(4, .box 28 (vV2 t2_2)), (5, .box 25 (vV5 a1)), (8, .box 25 [.p (i6 (0)), .p (.sl .nil 0 [])])], L0, []⟩ (And.intro ((riddleref11_may_ok h2_1)) (trivial)) ?_
  refine WX.seq ?_
  obtain ⟨t3_2, h3_1, h⟩ := bind_some h
  refine WC.r1 hn [(2, .resP (pP5 t3_2))] [2, 3, 4, 5, 8] [4, 5, 8] ⟨[(2, .p (bo (a2))), (3, .p (.s (.int .u8 a3))), (4, .ptr 4 0), (5, .ptr 5 0), (8, .ptr 8 0)], [(4, .box 28 (vV2 t2_2)), (5, .box 25 (vV5 t3_2)), (8, .box 25 [.p (i6 (0)), .p (.sl .nil 0 [])])], L0, []⟩ (And.intro ((riddleref11_state_ok h3_1)) (trivial)) ?_
  refine WC.rg hn [] [2, 3, 4, 5, 8, 9] [4, 5, 8] ⟨[(2, .p (bo (a2))), (3, .p (.s (.int .u8 a3))), (4, .ptr 4 0), (5, .ptr 5 0), (8, .ptr 8 0), (9, .p (.sl .nil 0 []))], [(4, .box 28 (vV2 t2_2)), (5, .box 25 (vV5 t3_2)), (8, .box 25 [.p (i6 (0)), .p (.sl .nil 0 [])])], L0, []⟩ trivial ?_
  refine WX.seq ?_
  refine WC.rg hn [] [2, 3, 4, 5, 8, 9, 10] [4, 5, 8] ⟨[(2, .p (bo (a2))), (3, .p (.s (.int .u8 a3))), (4, .ptr 4 0), (5, .ptr 5 0), (8, .ptr 8 0), (9, .p (.sl .nil 0 [])), (10, .p (i6 (0)))], [(4, .box 28 (vV2 t2_2)), (5, .box 25 (vV5 t3_2)), (8, .box 25 [.p (i6 (0)), .p (.sl .nil 0 [])])], L0, []⟩ trivial ?_
  obtain ⟨J6, eJ6, h⟩ := jn_some h
  try dsimp only at h
  refine WC.join (α := List Int) (fun v6 => ⟨[(4, .ptr 4 0), (8, .ptr 8 0), (9, .own 69)], [(4, .box 28 (vV2 t2_2)), (8, .box 25 [.p (i6 (0)), .p (.sl .nil 0 [])]), (69, rI 3 v6)], L0, []⟩) (fun v6 => J6 v6 = some r) ?_ (fun hJ6 => ?_)
  · rintro y6_1 h
    rw [eJ6] at h
    try dsimp only at h
    refine WX.seq ?_
    obtain ⟨t46_2, h46_1, h⟩ := bind_some h
    refine WC.r1 hn [(4, .co [] [] [69] [(75, rW 73 t46_2.1.Words)] (.tup [.agg [.p (i6 (t46_2.1.N)), .own 75], .p (i6 (t46_2.2))]))] [8, 13] [8, 13, 75] ⟨[(8, .ptr 8 0), (13, .ptr 13 0)], [(8, .box 25 [.p (i6 (0)), .p (.sl .nil 0 [])]), (13, .box 25 [.p (i6 (t46_2.1.N)), .own 75]), (75, rW 73 t46_2.1.Words)], L0, []⟩ (And.intro (And.intro ((riddleref01_New_ok h46_1).ren 16 75 (by kernel_rfl)) (And.intro (rfl : (.tup [.agg [.p (i6 (t46_2.1.N)), .own 75], .p (i6 (t46_2.2))] : AV).flat = true) (And.intro (flats_encL (eI .u64) (fun _ => rfl) t46_2.1.Words) (trivial)))) (trivial)) ?_
    refine WC.rg hn [] [8] [8, 75] ⟨[(8, .ptr 8 0)], [(8, .box 25 [.p (i6 (t46_2.1.N)), .own 75]), (75, rW 73 t46_2.1.Words)], L0, []⟩ trivial ?_
    refine WX.ret ?_
    exact WC.outO (by rw [← Option.some.inj h]; kernel_rfl)
  · replace hJ6 := fun y6_1 => hJ6 y6_1
    refine WX.block ?_
    refine WC.nil hn [9] none 69 3 1 (by kernel_rfl) [2, 3, 4, 5, 8, 9, 10] [4, 5, 8, 69] (st' := ⟨[(2, .p (bo (a2))), (3, .p (.s (.int .u8 a3))), (4, .ptr 4 0), (5, .ptr 5 0), (8, .ptr 8 0), (9, .own 69), (10, .p (i6 (0)))], [(4, .box 28 (vV2 t2_2)), (5, .box 25 (vV5 t3_2)), (8, .box 25 [.p (i6 (0)), .p (.sl .nil 0 [])]), (69, rI 3 (([] : List Int)))], L0, []⟩) (by kernel_rfl) ?_
    refine WC.loop (V := List Int × Int) (riddleref11_Next_l0 a2 a3 t2_2 t3_2 J6) r (fun v48 => ⟨[(2, .p (bo (a2))), (3, .p (.s (.int .u8 a3))), (4, .ptr 4 0), (5, .ptr 5 0), (8, .ptr 8 0), (9, .own 69), (10, .p (i6 (v48.2)))], [(4, .box 28 (vV2 t2_2)), (5, .box 25 (vV5 t3_2)), (8, .box 25 [.p (i6 (0)), .p (.sl .nil 0 [])]), (69, rI 3 v48.1)], L0, []⟩) _ (([] : List Int), 0) h (fun _ => rfl) [2, 3, 4, 5, 8, 9, 10] [4, 5, 8, 69] (by kernel_rfl) ?_
    clear h; rintro k ⟨x48_1_1, x48_1_2⟩ h K48 hnext48 hexit48
    rw [riddleref11_Next_l0] at h
    refine WX.seq ?_
    refine WC.rg hn [] [2, 3, 4, 5, 8, 9, 10, 24] [4, 5, 8, 69] ⟨[(2, .p (bo (a2))), (3, .p (.s (.int .u8 a3))), (4, .ptr 4 0), (5, .ptr 5 0), (8, .ptr 8 0), (9, .own 69), (10, .p (i6 (x48_1_2))), (24, .p (bo (((decide (x48_1_2 < (t2_2.Classes.length : Int)))))))], [(4, .box 28 (vV2 t2_2)), (5, .box 25 (vV5 t3_2)), (8, .box 25 [.p (i6 (0)), .p (.sl .nil 0 [])]), (69, rI 3 x48_1_1)], L0, []⟩ trivial ?_
    rcases if_or h with ⟨c88, h⟩ | ⟨c88, h⟩
    · refine WC.condT c88 (by kernel_rfl) ?_
      refine WX.skip ?_
      refine WX.seq ?_
      refine WX.block ?_
      refine WX.seq ?_
      obtain ⟨m89_1, g89, h⟩ := bind_some h
      refine WC.via (α := Bool) (fun v89 => ⟨[(2, .p (bo (a2))), (3, .p (.s (.int .u8 a3))), (4, .ptr 4 0), (5, .ptr 5 0), (8, .ptr 8 0), (9, .own 69), (10, .p (i6 (x48_1_2))), (11, .p (bo (v89)))], [(4, .box 28 (vV2 t2_2)), (5, .box 25 (vV5 t3_2)), (8, .box 25 [.p (i6 (0)), .p (.sl .nil 0 [])]), (69, rI 3 x48_1_1)], L0, []⟩) m89_1 (fun hk => ?_) ?_
      · rcases if_or g89 with ⟨b89_1, g89⟩ | ⟨b89_1, g89⟩
        · obtain ⟨t89_2, h89_1, g89⟩ := bind_some g89
          exact WC.reg hn [(1, .val (.p (bo (true)))), (5, .resP (bo (t89_2)))] [2, 3, 4, 5, 8, 9, 10, 11] [4, 5, 8, 69] ⟨[(2, .p (bo (a2))), (3, .p (.s (.int .u8 a3))), (4, .ptr 4 0), (5, .ptr 5 0), (8, .ptr 8 0), (9, .own 69), (10, .p (i6 (x48_1_2))), (11, .p (bo (t89_2)))], [(4, .box 28 (vV2 t2_2)), (5, .box 25 (vV5 t3_2)), (8, .box 25 [.p (i6 (0)), .p (.sl .nil 0 [])]), (69, rI 3 x48_1_1)], L0, []⟩ (And.intro (Bl b89_1) (And.intro ((riddleref01_Has_ok h89_1)) (trivial))) (by kernel_rfl) (hk t89_2 (Option.some.inj g89))
        · exact WC.reg hn [(1, .val (.p (bo (false))))] [2, 3, 4, 5, 8, 9, 10, 11] [4, 5, 8, 69] ⟨[(2, .p (bo (a2))), (3, .p (.s (.int .u8 a3))), (4, .ptr 4 0), (5, .ptr 5 0), (8, .ptr 8 0), (9, .own 69), (10, .p (i6 (x48_1_2))), (11, .p (bo (false)))], [(4, .box 28 (vV2 t2_2)), (5, .box 25 (vV5 t3_2)), (8, .box 25 [.p (i6 (0)), .p (.sl .nil 0 [])]), (69, rI 3 x48_1_1)], L0, []⟩ (And.intro (Bl b89_1) (trivial)) (by kernel_rfl) (hk false (Option.some.inj g89))
      refine WX.seq ?_
      refine WC.rg hn [] [2, 3, 4, 5, 8, 9, 10, 11, 12] [4, 5, 8, 69] ⟨[(2, .p (bo (a2))), (3, .p (.s (.int .u8 a3))), (4, .ptr 4 0), (5, .ptr 5 0), (8, .ptr 8 0), (9, .own 69), (10, .p (i6 (x48_1_2))), (11, .p (bo (m89_1))), (12, .p (i6 (0)))], [(4, .box 28 (vV2 t2_2)), (5, .box 25 (vV5 t3_2)), (8, .box 25 [.p (i6 (0)), .p (.sl .nil 0 [])]), (69, rI 3 x48_1_1)], L0, []⟩ trivial ?_
      obtain ⟨J91, eJ91, h⟩ := jn_some h
      try dsimp only at h
      refine WC.join (α := Bool) (fun v91 => ⟨[(2, .p (bo (a2))), (3, .p (.s (.int .u8 a3))), (4, .ptr 4 0), (5, .ptr 5 0), (8, .ptr 8 0), (9, .own 69), (10, .p (i6 (x48_1_2))), (11, .p (bo (v91)))], [(4, .box 28 (vV2 t2_2)), (5, .box 25 (vV5 t3_2)), (8, .box 25 [.p (i6 (0)), .p (.sl .nil 0 [])]), (69, rI 3 x48_1_1)], L0, []⟩) (fun v91 => J91 v91 = some r) ?_ (fun hJ91 => ?_)
      · rintro y91_1 h
        rw [eJ91] at h
        try dsimp only at h
        refine WX.seq ?_
        obtain ⟨m101_1, g101, h⟩ := bind_some h
        refine WC.via (α := Bool) (fun v101 => ⟨[(2, .p (bo (a2))), (3, .p (.s (.int .u8 a3))), (4, .ptr 4 0), (5, .ptr 5 0), (8, .ptr 8 0), (9, .own 69), (10, .p (i6 (x48_1_2))), (65, .p (bo (v101)))], [(4, .box 28 (vV2 t2_2)), (5, .box 25 (vV5 t3_2)), (8, .box 25 [.p (i6 (0)), .p (.sl .nil 0 [])]), (69, rI 3 x48_1_1)], L0, []⟩) m101_1 (fun hk => ?_) ?_
        · rcases if_or g101 with ⟨b101_1, g101⟩ | ⟨b101_1, g101⟩
          · obtain ⟨t101_2, h101_1, g101⟩ := bind_some g101
            obtain ⟨t101_4, h101_3, g101⟩ := bind_some g101
            exact WC.reg hn [(1, .val (.p (bo (true)))), (5, .val (.p (.rop ((e4 (eI .u64)).cells t101_2 ++ encL (e4 (eI .u64)) (t2_2.Classes.drop (x48_1_2.toNat + 1)))))), (8, .resP (bo (t101_4)))] [2, 3, 4, 5, 8, 9, 10, 65] [4, 5, 8, 69] ⟨[(2, .p (bo (a2))), (3, .p (.s (.int .u8 a3))), (4, .ptr 4 0), (5, .ptr 5 0), (8, .ptr 8 0), (9, .own 69), (10, .p (i6 (x48_1_2))), (65, .p (bo (t101_4)))], [(4, .box 28 (vV2 t2_2)), (5, .box 25 (vV5 t3_2)), (8, .box 25 [.p (i6 (0)), .p (.sl .nil 0 [])]), (69, rI 3 x48_1_1)], L0, []⟩ (And.intro (Bl b101_1) (And.intro (Ix (e4 (eI .u64)) h101_1) (And.intro ((riddleref02_Has_ok h101_3)) (trivial)))) (by kernel_rfl) (hk t101_4 (Option.some.inj g101))
          · exact WC.reg hn [(1, .val (.p (bo (false))))] [2, 3, 4, 5, 8, 9, 10, 65] [4, 5, 8, 69] ⟨[(2, .p (bo (a2))), (3, .p (.s (.int .u8 a3))), (4, .ptr 4 0), (5, .ptr 5 0), (8, .ptr 8 0), (9, .own 69), (10, .p (i6 (x48_1_2))), (65, .p (bo (false)))], [(4, .box 28 (vV2 t2_2)), (5, .box 25 (vV5 t3_2)), (8, .box 25 [.p (i6 (0)), .p (.sl .nil 0 [])]), (69, rI 3 x48_1_1)], L0, []⟩ (And.intro (Bl b101_1) (trivial)) (by kernel_rfl) (hk false (Option.some.inj g101))
        rcases if_or h with ⟨c102, h⟩ | ⟨c102, h⟩
        · refine WC.condT c102 (by kernel_rfl) ?_
          obtain ⟨c103_1, h⟩ := if_some h
          refine WC.r1 hn [(3, .app (some 69) (rI 3 (x48_1_1 ++ ([x48_1_2]))))] [2, 3, 4, 5, 8, 9, 10] [4, 5, 8, 69] ⟨[(2, .p (bo (a2))), (3, .p (.s (.int .u8 a3))), (4, .ptr 4 0), (5, .ptr 5 0), (8, .ptr 8 0), (9, .own 69), (10, .p (i6 (x48_1_2)))], [(4, .box 28 (vV2 t2_2)), (5, .box 25 (vV5 t3_2)), (8, .box 25 [.p (i6 (0)), .p (.sl .nil 0 [])]), (69, rI 3 (x48_1_1 ++ ([x48_1_2])))], L0, []⟩ (And.intro (Ap (eI .i64) (some 69) 3 8 1 x48_1_1 ([x48_1_2]) c103_1) (trivial)) ?_
          refine WX.popBlk ?_
          refine WC.r1 hn [] [2, 3, 4, 5, 8, 9, 10] [4, 5, 8, 69] ⟨[(2, .p (bo (a2))), (3, .p (.s (.int .u8 a3))), (4, .ptr 4 0), (5, .ptr 5 0), (8, .ptr 8 0), (9, .own 69), (10, .p (i6 (((IntKind.i64.wrap (x48_1_2 + 1))))))], [(4, .box 28 (vV2 t2_2)), (5, .box 25 (vV5 t3_2)), (8, .box 25 [.p (i6 (0)), .p (.sl .nil 0 [])]), (69, rI 3 (x48_1_1 ++ ([x48_1_2])))], L0, []⟩ trivial ?_
          exact WC.next [2, 3, 4, 5, 8, 9, 10] [4, 5, 8, 69] (by kernel_rfl) (hnext48 (x48_1_1 ++ ([x48_1_2]), (IntKind.i64.wrap (x48_1_2 + 1))) h)
        · refine WC.condF c102 (by kernel_rfl) ?_
          refine WX.skip ?_
          refine WX.popBlk ?_
          refine WC.r1 hn [] [2, 3, 4, 5, 8, 9, 10] [4, 5, 8, 69] ⟨[(2, .p (bo (a2))), (3, .p (.s (.int .u8 a3))), (4, .ptr 4 0), (5, .ptr 5 0), (8, .ptr 8 0), (9, .own 69), (10, .p (i6 (((IntKind.i64.wrap (x48_1_2 + 1))))))], [(4, .box 28 (vV2 t2_2)), (5, .box 25 (vV5 t3_2)), (8, .box 25 [.p (i6 (0)), .p (.sl .nil 0 [])]), (69, rI 3 x48_1_1)], L0, []⟩ trivial ?_
          exact WC.next [2, 3, 4, 5, 8, 9, 10] [4, 5, 8, 69] (by kernel_rfl) (hnext48 (x48_1_1, (IntKind.i64.wrap (x48_1_2 + 1))) h)
      · replace hJ91 := fun y91_1 => hJ91 y91_1
        refine WX.block ?_
        refine WC.loop (V := Bool × Int) (riddleref11_Next_l1 t2_2 t3_2 x48_1_2 J91) r (fun v106 => ⟨[(2, .p (bo (a2))), (3, .p (.s (.int .u8 a3))), (4, .ptr 4 0), (5, .ptr 5 0), (8, .ptr 8 0), (9, .own 69), (10, .p (i6 (x48_1_2))), (11, .p (bo (v106.1))), (12, .p (i6 (v106.2)))], [(4, .box 28 (vV2 t2_2)), (5, .box 25 (vV5 t3_2)), (8, .box 25 [.p (i6 (0)), .p (.sl .nil 0 [])]), (69, rI 3 x48_1_1)], L0, []⟩) _ (m89_1, 0) h (fun _ => rfl) [2, 3, 4, 5, 8, 9, 10, 11, 12] [4, 5, 8, 69] (by kernel_rfl) ?_
        clear h; rintro k ⟨x106_1_1, x106_1_2⟩ h K106 hnext106 hexit106
        rw [riddleref11_Next_l1] at h
        refine WX.seq ?_
        refine WC.rg hn [] [2, 3, 4, 5, 8, 9, 10, 11, 12, 38] [4, 5, 8, 69] ⟨[(2, .p (bo (a2))), (3, .p (.s (.int .u8 a3))), (4, .ptr 4 0), (5, .ptr 5 0), (8, .ptr 8 0), (9, .own 69), (10, .p (i6 (x48_1_2))), (11, .p (bo (x106_1_1))), (12, .p (i6 (x106_1_2))), (38, .p (bo (((decide (x106_1_2 < (t2_2.Follow.length : Int)))))))], [(4, .box 28 (vV2 t2_2)), (5, .box 25 (vV5 t3_2)), (8, .box 25 [.p (i6 (0)), .p (.sl .nil 0 [])]), (69, rI 3 x48_1_1)], L0, []⟩ trivial ?_
        rcases if_or h with ⟨c116, h⟩ | ⟨c116, h⟩
        · refine WC.condT c116 (by kernel_rfl) ?_
          refine WX.skip ?_
          refine WX.seq ?_
          refine WX.block ?_
          obtain ⟨m117_1, g117, h⟩ := bind_some h
          refine WC.via (α := Bool) (fun v117 => ⟨[(2, .p (bo (a2))), (3, .p (.s (.int .u8 a3))), (4, .ptr 4 0), (5, .ptr 5 0), (8, .ptr 8 0), (9, .own 69), (10, .p (i6 (x48_1_2))), (11, .p (bo (v117))), (12, .p (i6 (x106_1_2)))], [(4, .box 28 (vV2 t2_2)), (5, .box 25 (vV5 t3_2)), (8, .box 25 [.p (i6 (0)), .p (.sl .nil 0 [])]), (69, rI 3 x48_1_1)], L0, []⟩) m117_1 (fun hk => ?_) ?_
          · rcases if_or g117 with ⟨b117_1, g117⟩ | ⟨b117_1, g117⟩
            · exact WC.reg hn [(1, .val (.p (bo (true))))] [2, 3, 4, 5, 8, 9, 10, 11, 12] [4, 5, 8, 69] ⟨[(2, .p (bo (a2))), (3, .p (.s (.int .u8 a3))), (4, .ptr 4 0), (5, .ptr 5 0), (8, .ptr 8 0), (9, .own 69), (10, .p (i6 (x48_1_2))), (11, .p (bo (true))), (12, .p (i6 (x106_1_2)))], [(4, .box 28 (vV2 t2_2)), (5, .box 25 (vV5 t3_2)), (8, .box 25 [.p (i6 (0)), .p (.sl .nil 0 [])]), (69, rI 3 x48_1_1)], L0, []⟩ (And.intro (Bl b117_1) (trivial)) (by kernel_rfl) (hk true (Option.some.inj g117))
            · obtain ⟨t117_2, h117_1, g117⟩ := bind_some g117
              rcases if_or g117 with ⟨b117_5, g117⟩ | ⟨b117_5, g117⟩
              · obtain ⟨t117_4, h117_3, g117⟩ := bind_some g117
                obtain ⟨t117_6, h117_5, g117⟩ := bind_some g117
                exact WC.reg hn [(1, .val (.p (bo (false)))), (4, .resP (bo (t117_2))), (5, .val (.p (bo (true)))), (9, .val (.p (.rop (e_api_Bits.cells t117_4 ++ encL e_api_Bits (t2_2.Follow.drop (x106_1_2.toNat + 1)))))), (12, .resP (bo (t117_6)))] [2, 3, 4, 5, 8, 9, 10, 11, 12] [4, 5, 8, 69] ⟨[(2, .p (bo (a2))), (3, .p (.s (.int .u8 a3))), (4, .ptr 4 0), (5, .ptr 5 0), (8, .ptr 8 0), (9, .own 69), (10, .p (i6 (x48_1_2))), (11, .p (bo (t117_6))), (12, .p (i6 (x106_1_2)))], [(4, .box 28 (vV2 t2_2)), (5, .box 25 (vV5 t3_2)), (8, .box 25 [.p (i6 (0)), .p (.sl .nil 0 [])]), (69, rI 3 x48_1_1)], L0, []⟩ (And.intro (Bl b117_1) (And.intro ((riddleref01_Has_ok h117_1)) (And.intro (Bl b117_5) (And.intro (Ix e_api_Bits h117_3) (And.intro ((riddleref01_Has_ok h117_5)) (trivial)))))) (by kernel_rfl) (hk t117_6 (Option.some.inj g117))
              · exact WC.reg hn [(1, .val (.p (bo (false)))), (4, .resP (bo (t117_2))), (5, .val (.p (bo (false))))] [2, 3, 4, 5, 8, 9, 10, 11, 12] [4, 5, 8, 69] ⟨[(2, .p (bo (a2))), (3, .p (.s (.int .u8 a3))), (4, .ptr 4 0), (5, .ptr 5 0), (8, .ptr 8 0), (9, .own 69), (10, .p (i6 (x48_1_2))), (11, .p (bo (false))), (12, .p (i6 (x106_1_2)))], [(4, .box 28 (vV2 t2_2)), (5, .box 25 (vV5 t3_2)), (8, .box 25 [.p (i6 (0)), .p (.sl .nil 0 [])]), (69, rI 3 x48_1_1)], L0, []⟩ (And.intro (Bl b117_1) (And.intro ((riddleref01_Has_ok h117_1)) (And.intro (Bl b117_5) (trivial)))) (by kernel_rfl) (hk false (Option.some.inj g117))
          refine WX.popBlk ?_
          refine WC.r1 hn [] [2, 3, 4, 5, 8, 9, 10, 11, 12] [4, 5, 8, 69] ⟨[(2, .p (bo (a2))), (3, .p (.s (.int .u8 a3))), (4, .ptr 4 0), (5, .ptr 5 0), (8, .ptr 8 0), (9, .own 69), (10, .p (i6 (x48_1_2))), (11, .p (bo (m117_1))), (12, .p (i6 (((IntKind.i64.wrap (x106_1_2 + 1))))))], [(4, .box 28 (vV2 t2_2)), (5, .box 25 (vV5 t3_2)), (8, .box 25 [.p (i6 (0)), .p (.sl .nil 0 [])]), (69, rI 3 x48_1_1)], L0, []⟩ trivial ?_
          exact WC.next [2, 3, 4, 5, 8, 9, 10, 11, 12] [4, 5, 8, 69] (by kernel_rfl) (hnext106 (m117_1, (IntKind.i64.wrap (x106_1_2 + 1))) h)
        · refine WC.condF c116 (by kernel_rfl) ?_
          refine WX.exit ?_
          refine WX.popCodeExit ?_
          refine WC.exit_nil (hexit106 _ _ (by simp) ?_)
          refine WX.popBlkHit ?_
          exact WC.keep [2, 3, 4, 5, 8, 9, 10, 11] [4, 5, 8, 69] (by kernel_rfl) (hJ91 x106_1_1 h)
    · refine WC.condF c88 (by kernel_rfl) ?_
      refine WX.exit ?_
      refine WX.popCodeExit ?_
      refine WC.exit_nil (hexit48 _ _ (by simp) ?_)
      refine WX.popBlkHit ?_
      exact WC.keep [4, 8, 9] [4, 8, 69] (by kernel_rfl) (hJ6 x48_1_1 h)
theorem riddleref11_Next_okP {k : Nat} {a0 : api_Nfa} {a1 : api_Bits} {a2 : Bool} {a3 : Int} {r : api_Bits} (h : riddleref11_Next k a0 a1 a2 a3 = some r) : Ans Tryd.prog 29 [pP2 a0, pP5 a1, bo (a2), .s (.int .u8 a3)] (pP5 r) := AnsO.ans (args := [pP2 a0, pP5 a1, bo (a2), .s (.int .u8 a3)]) (riddleref11_Next_ok h) (by kernel_rfl)
def riddleref11_begins (a0 : (List Int)) (a1 : Int) (a2 : Bool) (a3 : Bool) : Option (Bool) :=
  ((if (!a2) = true then some true else (if (a1 == 0) = true then some true else (if a3 = true then (at_ a0 ((IntKind.i64.wrap (a1 - 1)))).bind fun t2_2 => some ((t2_2 == 10)) else some false))) : Option (Bool)).bind fun v2 => some v2
theorem riddleref11_begins_ok {a0 : (List Int)} {a1 : Int} {a2 : Bool} {a3 : Bool} {r : Bool} (h : riddleref11_begins a0 a1 a2 a3 = some r) : Ans Tryd.prog 37 [slV (eI .u8) a0, i6 (a1), bo (a2), bo (a3)] (bo (r)) := by
  refine W_fn Tryd.func37 rfl (by kernel_rfl) (by kernel_rfl) ?_
  intro X hro hn
  unfold riddleref11_begins at h
  refine WC.rg hn [] [0, 1, 2, 3] [] ⟨[(0, .p (slV (eI .u8) a0)), (1, .p (i6 (a1))), (2, .p (bo (a2))), (3, .p (bo (a3)))], [], L0, []⟩ trivial ?_
  refine WX.seq ?_
  obtain ⟨m2_1, g2, h⟩ := bind_some h
  refine WC.via (α := Bool) (fun v2 => ⟨[(8, .p (bo (v2)))], [], L0, []⟩) m2_1 (fun hk => ?_) ?_
  · rcases if_or g2 with ⟨b2_2, g2⟩ | ⟨b2_2, g2⟩
    · exact WC.reg hn [(2, .val (.p (bo (true))))] [8] [] ⟨[(8, .p (bo (true)))], [], L0, []⟩ (And.intro (Bl b2_2) (trivial)) (by kernel_rfl) (hk true (Option.some.inj g2))
    · rcases if_or g2 with ⟨b2_6, g2⟩ | ⟨b2_6, g2⟩
      · exact WC.reg hn [(2, .val (.p (bo (false)))), (6, .val (.p (bo (true))))] [8] [] ⟨[(8, .p (bo (true)))], [], L0, []⟩ (And.intro (Bl b2_2) (And.intro (Bl b2_6) (trivial))) (by kernel_rfl) (hk true (Option.some.inj g2))
      · rcases if_or g2 with ⟨b2_8, g2⟩ | ⟨b2_8, g2⟩
        · obtain ⟨t2_2, h2_1, g2⟩ := bind_some g2
          exact WC.reg hn [(2, .val (.p (bo (false)))), (6, .val (.p (bo (false)))), (8, .val (.p (bo (true)))), (12, .val (.p (.rop ((eI .u8).cells t2_2 ++ encL (eI .u8) (a0.drop (((IntKind.i64.wrap (a1 - 1))).toNat + 1))))))] [8] [] ⟨[(8, .p (bo (((t2_2 == 10)))))], [], L0, []⟩ (And.intro (Bl b2_2) (And.intro (Bl b2_6) (And.intro (Bl b2_8) (And.intro (Ix (eI .u8) h2_1) (trivial))))) (by kernel_rfl) (hk ((t2_2 == 10)) (Option.some.inj g2))
        · exact WC.reg hn [(2, .val (.p (bo (false)))), (6, .val (.p (bo (false)))), (8, .val (.p (bo (false))))] [8] [] ⟨[(8, .p (bo (false)))], [], L0, []⟩ (And.intro (Bl b2_2) (And.intro (Bl b2_6) (And.intro (Bl b2_8) (trivial)))) (by kernel_rfl) (hk false (Option.some.inj g2))
  refine WX.ret ?_
  exact WC.outP (by rw [← Option.some.inj h]; kernel_rfl)
def riddleref01_List_l0 (a0 : api_Bits) (J4 : List Int → Option ((List Int))) : Nat → (List Int × Int) → Option ((List Int))
  | 0, _ => none
  | k + 1, (x21_1_1, x21_1_2) => (riddleref01_may k a0).bind fun t36_2 => (if (decide (x21_1_2 < t36_2.N)) = true then (riddleref01_Has k a0 x21_1_2).bind fun t38_2 => (if t38_2 = true then (if okApp 8 (x21_1_1.length + ([x21_1_2]).length) then riddleref01_List_l0 a0 J4 k (x21_1_1 ++ ([x21_1_2]), (IntKind.i64.wrap (x21_1_2 + 1))) else none) else riddleref01_List_l0 a0 J4 k (x21_1_1, (IntKind.i64.wrap (x21_1_2 + 1)))) else J4 x21_1_1)
def riddleref01_List (k : Nat) (a0 : api_Bits) : Option ((List Int)) :=
  jn (fun (v4 : List Int) => some v4) fun J4 => riddleref01_List_l0 a0 J4 k (([] : List Int), 0)
theorem riddleref01_List_ok {k : Nat} {a0 : api_Bits} {r : (List Int)} (h : riddleref01_List k a0 = some r) : AnsO Tryd.prog 69 [] [.p (pP5 a0)] [(18, rI 3 r)] (.own 18) := by
  refine W_fnO [18] Tryd.func69 rfl (by kernel_rfl) (by kernel_rfl) (by kernel_rfl) (by kernel_rfl) ?_
  intro X hro hn
  unfold riddleref01_List at h
  refine WC.rg hn [] [1] [1] ⟨[(1, .ptr 1 0)], [(1, .box 25 (vV5 a0))], L0, []⟩ trivial ?_
  refine WC.rg hn [] [1, 3] [1] ⟨[(1, .ptr 1 0), (3, .p (.sl .nil 0 []))], [(1, .box 25 (vV5 a0))], L0, []⟩ trivial ?_
  refine WX.seq ?_
  refine WC.rg hn [] [1, 3, 4] [1] ⟨[(1, .ptr 1 0), (3, .p (.sl .nil 0 [])), (4, .p (i6 (0)))], [(1, .box 25 (vV5 a0))], L0, []⟩ trivial ?_
  obtain ⟨J4, eJ4, h⟩ := jn_some h
  try dsimp only at h
  refine WC.join (α := List Int) (fun v4 => ⟨[(3, .own 18)], [(18, rI 3 v4)], L0, []⟩) (fun v4 => J4 v4 = some r) ?_ (fun hJ4 => ?_)
  · rintro y4_1 h
    rw [eJ4] at h
    try dsimp only at h
    refine WC.rg hn [] [2] [18] ⟨[(2, .own 18)], [(18, rI 3 y4_1)], L0, []⟩ trivial ?_
    refine WX.ret ?_
    exact WC.outO (by rw [← Option.some.inj h]; kernel_rfl)
  · replace hJ4 := fun y4_1 => hJ4 y4_1
    refine WX.block ?_
    refine WC.nil hn [3] none 18 3 1 (by kernel_rfl) [1, 3, 4] [1, 18] (st' := ⟨[(1, .ptr 1 0), (3, .own 18), (4, .p (i6 (0)))], [(1, .box 25 (vV5 a0)), (18, rI 3 (([] : List Int)))], L0, []⟩) (by kernel_rfl) ?_
    refine WC.loop (V := List Int × Int) (riddleref01_List_l0 a0 J4) r (fun v21 => ⟨[(1, .ptr 1 0), (3, .own 18), (4, .p (i6 (v21.2)))], [(1, .box 25 (vV5 a0)), (18, rI 3 v21.1)], L0, []⟩) _ (([] : List Int), 0) h (fun _ => rfl) [1, 3, 4] [1, 18] (by kernel_rfl) ?_
    clear h; rintro k ⟨x21_1_1, x21_1_2⟩ h K21 hnext21 hexit21
    rw [riddleref01_List_l0] at h
    refine WX.seq ?_
    refine WX.seq ?_
    obtain ⟨t36_2, h36_1, h⟩ := bind_some h
    refine WC.r1 hn [(2, .resP (pP5 t36_2))] [1, 3, 4, 9] [1, 18] ⟨[(1, .ptr 1 0), (3, .own 18), (4, .p (i6 (x21_1_2))), (9, .p (bo (((decide (x21_1_2 < t36_2.N))))))], [(1, .box 25 (vV5 a0)), (18, rI 3 x21_1_1)], L0, []⟩ (And.intro ((riddleref01_may_ok h36_1)) (trivial)) ?_
    rcases if_or h with ⟨c37, h⟩ | ⟨c37, h⟩
    · refine WC.condT c37 (by kernel_rfl) ?_
      refine WX.skip ?_
      refine WX.seq ?_
      refine WX.block ?_
      refine WX.seq ?_
      obtain ⟨t38_2, h38_1, h⟩ := bind_some h
      refine WC.r1 hn [(2, .resP (bo (t38_2)))] [1, 3, 4, 14] [1, 18] ⟨[(1, .ptr 1 0), (3, .own 18), (4, .p (i6 (x21_1_2))), (14, .p (bo (t38_2)))], [(1, .box 25 (vV5 a0)), (18, rI 3 x21_1_1)], L0, []⟩ (And.intro ((riddleref01_Has_ok h38_1)) (trivial)) ?_
      rcases if_or h with ⟨c39, h⟩ | ⟨c39, h⟩
      · refine WC.condT c39 (by kernel_rfl) ?_
        obtain ⟨c40_1, h⟩ := if_some h
        refine WC.r1 hn [(3, .app (some 18) (rI 3 (x21_1_1 ++ ([x21_1_2]))))] [1, 3, 4] [1, 18] ⟨[(1, .ptr 1 0), (3, .own 18), (4, .p (i6 (x21_1_2)))], [(1, .box 25 (vV5 a0)), (18, rI 3 (x21_1_1 ++ ([x21_1_2])))], L0, []⟩ (And.intro (Ap (eI .i64) (some 18) 3 8 1 x21_1_1 ([x21_1_2]) c40_1) (trivial)) ?_
        refine WX.popBlk ?_
        refine WC.r1 hn [] [1, 3, 4] [1, 18] ⟨[(1, .ptr 1 0), (3, .own 18), (4, .p (i6 (((IntKind.i64.wrap (x21_1_2 + 1))))))], [(1, .box 25 (vV5 a0)), (18, rI 3 (x21_1_1 ++ ([x21_1_2])))], L0, []⟩ trivial ?_
        exact WC.next [1, 3, 4] [1, 18] (by kernel_rfl) (hnext21 (x21_1_1 ++ ([x21_1_2]), (IntKind.i64.wrap (x21_1_2 + 1))) h)
      · refine WC.condF c39 (by kernel_rfl) ?_
        refine WX.skip ?_
        refine WX.popBlk ?_
        refine WC.r1 hn [] [1, 3, 4] [1, 18] ⟨[(1, .ptr 1 0), (3, .own 18), (4, .p (i6 (((IntKind.i64.wrap (x21_1_2 + 1))))))], [(1, .box 25 (vV5 a0)), (18, rI 3 x21_1_1)], L0, []⟩ trivial ?_
        exact WC.next [1, 3, 4] [1, 18] (by kernel_rfl) (hnext21 (x21_1_1, (IntKind.i64.wrap (x21_1_2 + 1))) h)
    · refine WC.condF c37 (by kernel_rfl) ?_
      refine WX.exit ?_
      refine WX.popCodeExit ?_
      refine WC.exit_nil (hexit21 _ _ (by simp) ?_)
      refine WX.popBlkHit ?_
      exact WC.keep [3] [18] (by kernel_rfl) (hJ4 x21_1_1 h)
theorem riddleref01_List_okP {k : Nat} {a0 : api_Bits} {r : (List Int)} (h : riddleref01_List k a0 = some r) : Ans Tryd.prog 69 [pP5 a0] (sI r) := AnsO.ans (args := [pP5 a0]) (riddleref01_List_ok h) (by kernel_rfl)
end Go.Proofs.YtpifpjeeijhhdaaDoor
