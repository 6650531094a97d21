/- YtfejcecgnonabaaDoorJc: a part of the proof; see the last text for what is proved. -/
import Derived.Test.YtfejcecgnonabaaDoorJb
import Derived.Test.YtfejcecgnonabaaDoorProg
import Derived.KernelRfl
set_option maxRecDepth 100000
set_option linter.unusedVariables false
set_option linter.unusedSimpArgs false
namespace Go.Proofs.YtfejcecgnonabaaDoor
open Go.AE
def riddleref10_Of_l0 (a0 : api_Tree) (J34 : List api_Nfa → Option (api_Nfa × Int)) : Nat → (List api_Nfa × Int) → Option (api_Nfa × Int)
  | 0, _ => none
  | k + 1, (x77_1_1, x77_1_2) => (if (decide (x77_1_2 < (a0.Nodes.length : Int))) = true then (at_ a0.Nodes x77_1_2).bind fun t120_2 => (riddleref10_Empty k).bind fun t121_2 => jn (fun (v123 : List (Arr4 Int) × Int × List Int × Int × List Int × List api_Bits × Bool) => (if okApp 120 (x77_1_1.length + ([(api_Nfa.mk v123.1 ((api_Bits.mk v123.2.1 v123.2.2.1)) ((api_Bits.mk v123.2.2.2.1 v123.2.2.2.2.1)) v123.2.2.2.2.2.1 v123.2.2.2.2.2.2)]).length) then riddleref10_Of_l0 a0 J34 k (x77_1_1 ++ ([(api_Nfa.mk v123.1 ((api_Bits.mk v123.2.1 v123.2.2.1)) ((api_Bits.mk v123.2.2.2.1 v123.2.2.2.2.1)) v123.2.2.2.2.2.1 v123.2.2.2.2.2.2)]), (IntKind.i64.wrap (x77_1_2 + 1))) else none)) fun J123 => (if (t120_2.Kind == 2) = true then (riddleref10_Leaf k t120_2.Class).bind fun t140_2 => J123 (t140_2.Classes, t140_2.First.N, t140_2.First.Words, t140_2.Last.N, t140_2.Last.Words, t140_2.Follow, t140_2.Null) else (if (t120_2.Kind == 3) = true then (at_ x77_1_1 t120_2.A).bind fun t143_2 => (at_ x77_1_1 t120_2.B).bind fun t143_4 => (riddleref10_Cat k t143_2 t143_4).bind fun t143_6 => J123 (t143_6.1.Classes, t143_6.1.First.N, t143_6.1.First.Words, t143_6.1.Last.N, t143_6.1.Last.Words, t143_6.1.Follow, t143_6.1.Null) else (if (t120_2.Kind == 4) = true then (at_ x77_1_1 t120_2.A).bind fun t146_2 => (at_ x77_1_1 t120_2.B).bind fun t146_4 => (riddleref10_Alt k t146_2 t146_4).bind fun t146_6 => J123 (t146_6.1.Classes, t146_6.1.First.N, t146_6.1.First.Words, t146_6.1.Last.N, t146_6.1.Last.Words, t146_6.1.Follow, t146_6.1.Null) else (if (t120_2.Kind == 5) = true then (at_ x77_1_1 t120_2.A).bind fun t149_2 => (riddleref10_Star k t149_2).bind fun t149_4 => J123 (t149_4.1.Classes, t149_4.1.First.N, t149_4.1.First.Words, t149_4.1.Last.N, t149_4.1.Last.Words, t149_4.1.Follow, t149_4.1.Null) else J123 (t121_2.Classes, t121_2.First.N, t121_2.First.Words, t121_2.Last.N, t121_2.Last.Words, t121_2.Follow, t121_2.Null))))) else J34 x77_1_1)
def riddleref10_Of_l1 (a0 : api_Tree) (J7 : Int → Option (api_Nfa × Int)) : Nat → (Int × Int) → Option (api_Nfa × Int)
  | 0, _ => none
  | k + 1, (x150_1_1, x150_1_2) => (if (decide (x150_1_2 < (a0.Nodes.length : Int))) = true then (at_ a0.Nodes x150_1_2).bind fun t173_2 => (if (((t173_2.Kind == 6)) || ((t173_2.Kind == 7))) = true then some ((api_Nfa.mk ([]) ((api_Bits.mk 0 ([]))) ((api_Bits.mk 0 ([]))) ([]) false), 1) else (at_ a0.Nodes x150_1_2).bind fun t176_2 => (if (t176_2.Kind == 2) = true then riddleref10_Of_l1 a0 J7 k ((IntKind.i64.wrap (x150_1_1 + 1)), (IntKind.i64.wrap (x150_1_2 + 1))) else riddleref10_Of_l1 a0 J7 k (x150_1_1, (IntKind.i64.wrap (x150_1_2 + 1))))) else J7 x150_1_1)
def riddleref10_Of (k : Nat) (a0 : api_Tree) : Option (api_Nfa × Int) :=
  (riddleref09_Is k a0).bind fun t2_2 => (if (!t2_2) = true then some ((api_Nfa.mk ([]) ((api_Bits.mk 0 ([]))) ((api_Bits.mk 0 ([]))) ([]) false), 1) else jn (fun (v7 : Int) => (if (decide (v7 > 512)) = true then some ((api_Nfa.mk ([]) ((api_Bits.mk 0 ([]))) ((api_Bits.mk 0 ([]))) ([]) false), 90) else jn (fun (v34 : List api_Nfa) => (at_ v34 ((IntKind.i64.wrap ((v34.length : Int) - 1)))).bind fun t76_2 => some (t76_2, 0)) fun J34 => riddleref10_Of_l0 a0 J34 k (([] : List api_Nfa), 0))) fun J7 => riddleref10_Of_l1 a0 J7 k (0, 0))
theorem riddleref10_Of_ok {k : Nat} {a0 : api_Tree} {r : api_Nfa × Int} (h : riddleref10_Of k a0 = some r) : Ans Tryd.prog 15 [.agg [slV e_api_Node a0.Nodes]] (.tup [.agg [sC r.1.Classes, i6 (r.1.First.N), sW r.1.First.Words, i6 (r.1.Last.N), sW r.1.Last.Words, sB r.1.Follow, bo (r.1.Null)], i6 (r.2)]) := by
  refine W_fn Tryd.func15 rfl (by kernel_rfl) (by kernel_rfl) ?_
  intro X hro hn
  unfold riddleref10_Of at h
  refine WX.seq ?_
  refine WC.reg (n := 123) hn [] [1, 2] [1, 2] ⟨[(1, .ptr 1 0), (2, .ptr 2 0)], [(1, .box 41 [.p (slV e_api_Node a0.Nodes)]), (2, .box 28 [.p (.sl .nil 0 []), .p (i6 (0)), .p (.sl .nil 0 []), .p (i6 (0)), .p (.sl .nil 0 []), .p (.sl .nil 0 []), .p (bo (false))])], ⟨[], false⟩, []⟩ trivial (by kernel_rfl) ?_
  refine WX.seq ?_
  refine WX.seq ?_
  obtain ⟨t2_2, h2_1, h⟩ := bind_some h
  refine WC.reg (n := 123) hn [(1, .resP (bo (t2_2)))] [1, 2, 12] [1, 2] ⟨[(1, .ptr 1 0), (2, .ptr 2 0), (12, .p (bo (((!t2_2)))))], [(1, .box 41 [.p (slV e_api_Node a0.Nodes)]), (2, .box 28 [.p (.sl .nil 0 []), .p (i6 (0)), .p (.sl .nil 0 []), .p (i6 (0)), .p (.sl .nil 0 []), .p (.sl .nil 0 []), .p (bo (false))])], ⟨[], false⟩, []⟩ (And.intro ((riddleref09_Is_ok h2_1)) (trivial)) (by kernel_rfl) ?_
  rcases if_or h with ⟨c3, h⟩ | ⟨c3, h⟩
  · refine WC.condT c3 (by kernel_rfl) ?_
    refine WX.seq ?_
    refine WC.reg (n := 123) hn [] [2, 3] [2] ⟨[(2, .ptr 2 0), (3, .p (i6 (1)))], [(2, .box 28 [.p (.sl .nil 0 []), .p (i6 (0)), .p (.sl .nil 0 []), .p (i6 (0)), .p (.sl .nil 0 []), .p (.sl .nil 0 []), .p (bo (false))])], ⟨[], false⟩, []⟩ trivial (by kernel_rfl) ?_
    refine WX.ret ?_
    exact WC.outP (by rw [← Option.some.inj h]; kernel_rfl)
  · refine WC.condF c3 (by kernel_rfl) ?_
    refine WX.skip ?_
    refine WX.seq ?_
    refine WC.reg (n := 123) hn [] [1, 2, 4] [1, 2] ⟨[(1, .ptr 1 0), (2, .ptr 2 0), (4, .p (i6 (0)))], [(1, .box 41 [.p (slV e_api_Node a0.Nodes)]), (2, .box 28 [.p (.sl .nil 0 []), .p (i6 (0)), .p (.sl .nil 0 []), .p (i6 (0)), .p (.sl .nil 0 []), .p (.sl .nil 0 []), .p (bo (false))])], ⟨[], false⟩, []⟩ trivial (by kernel_rfl) ?_
    refine WX.seq ?_
    refine WX.seq ?_
    refine WC.reg (n := 123) hn [] [1, 2, 4, 5] [1, 2] ⟨[(1, .ptr 1 0), (2, .ptr 2 0), (4, .p (i6 (0))), (5, .p (i6 (0)))], [(1, .box 41 [.p (slV e_api_Node a0.Nodes)]), (2, .box 28 [.p (.sl .nil 0 []), .p (i6 (0)), .p (.sl .nil 0 []), .p (i6 (0)), .p (.sl .nil 0 []), .p (.sl .nil 0 []), .p (bo (false))])], ⟨[], false⟩, []⟩ trivial (by kernel_rfl) ?_
    obtain ⟨J7, eJ7, h⟩ := jn_some h
    try dsimp only at h
    refine WC.join (α := Int) (fun v7 => ⟨[(1, .ptr 1 0), (2, .ptr 2 0), (4, .p (i6 (v7)))], [(1, .box 41 [.p (slV e_api_Node a0.Nodes)]), (2, .box 28 [.p (.sl .nil 0 []), .p (i6 (0)), .p (.sl .nil 0 []), .p (i6 (0)), .p (.sl .nil 0 []), .p (.sl .nil 0 []), .p (bo (false))])], ⟨[], false⟩, []⟩) (fun v7 => J7 v7 = some r) ?_ (fun hJ7 => ?_)
    · rintro y7_1 h
      rw [eJ7] at h
      try dsimp only at h
      refine WX.seq ?_
      refine WX.seq ?_
      refine WC.reg (n := 123) hn [] [1, 2, 48] [1, 2] ⟨[(1, .ptr 1 0), (2, .ptr 2 0), (48, .p (bo (((decide (y7_1 > 512))))))], [(1, .box 41 [.p (slV e_api_Node a0.Nodes)]), (2, .box 28 [.p (.sl .nil 0 []), .p (i6 (0)), .p (.sl .nil 0 []), .p (i6 (0)), .p (.sl .nil 0 []), .p (.sl .nil 0 []), .p (bo (false))])], ⟨[], false⟩, []⟩ trivial (by kernel_rfl) ?_
      rcases if_or h with ⟨c30, h⟩ | ⟨c30, h⟩
      · refine WC.condT c30 (by kernel_rfl) ?_
        refine WX.seq ?_
        refine WC.reg (n := 123) hn [] [2, 3] [2] ⟨[(2, .ptr 2 0), (3, .p (i6 (90)))], [(2, .box 28 [.p (.sl .nil 0 []), .p (i6 (0)), .p (.sl .nil 0 []), .p (i6 (0)), .p (.sl .nil 0 []), .p (.sl .nil 0 []), .p (bo (false))])], ⟨[], false⟩, []⟩ trivial (by kernel_rfl) ?_
        refine WX.ret ?_
        exact WC.outP (by rw [← Option.some.inj h]; kernel_rfl)
      · refine WC.condF c30 (by kernel_rfl) ?_
        refine WX.skip ?_
        refine WX.seq ?_
        refine WC.reg (n := 123) hn [] [1, 2, 6] [1, 2] ⟨[(1, .ptr 1 0), (2, .ptr 2 0), (6, .p (.sl .nil 0 []))], [(1, .box 41 [.p (slV e_api_Node a0.Nodes)]), (2, .box 28 [.p (.sl .nil 0 []), .p (i6 (0)), .p (.sl .nil 0 []), .p (i6 (0)), .p (.sl .nil 0 []), .p (.sl .nil 0 []), .p (bo (false))])], ⟨[], false⟩, []⟩ trivial (by kernel_rfl) ?_
        refine WX.seq ?_
        refine WX.seq ?_
        refine WC.reg (n := 123) hn [] [1, 2, 6, 7] [1, 2] ⟨[(1, .ptr 1 0), (2, .ptr 2 0), (6, .p (.sl .nil 0 [])), (7, .p (i6 (0)))], [(1, .box 41 [.p (slV e_api_Node a0.Nodes)]), (2, .box 28 [.p (.sl .nil 0 []), .p (i6 (0)), .p (.sl .nil 0 []), .p (i6 (0)), .p (.sl .nil 0 []), .p (.sl .nil 0 []), .p (bo (false))])], ⟨[], false⟩, []⟩ trivial (by kernel_rfl) ?_
        obtain ⟨J34, eJ34, h⟩ := jn_some h
        try dsimp only at h
        refine WC.join (α := List api_Nfa) (fun v34 => ⟨[(2, .ptr 2 0), (6, .own 116)], [(2, .box 28 [.p (.sl .nil 0 []), .p (i6 (0)), .p (.sl .nil 0 []), .p (i6 (0)), .p (.sl .nil 0 []), .p (.sl .nil 0 []), .p (bo (false))]), (116, rowV 28 e_api_Nfa v34)], ⟨[], false⟩, []⟩) (fun v34 => J34 v34 = some r) ?_ (fun hJ34 => ?_)
        · rintro y34_1 h
          rw [eJ34] at h
          try dsimp only at h
          refine WX.seq ?_
          obtain ⟨t76_2, h76_1, h⟩ := bind_some h
          refine WC.reg (n := 123) hn [(4, .val (.ptr 116 (((IntKind.i64.wrap ((y34_1.length : Int) - 1))).toNat * 7))), (5, .val (.p (.agg [sC t76_2.Classes, i6 (t76_2.First.N), sW t76_2.First.Words, i6 (t76_2.Last.N), sW t76_2.Last.Words, sB t76_2.Follow, bo (t76_2.Null)])))] [2, 3] [2] ⟨[(2, .ptr 2 0), (3, .p (i6 (0)))], [(2, .box 28 [.p (sC t76_2.Classes), .p (i6 (t76_2.First.N)), .p (sW t76_2.First.Words), .p (i6 (t76_2.Last.N)), .p (sW t76_2.Last.Words), .p (sB t76_2.Follow), .p (bo (t76_2.Null))])], ⟨[], false⟩, []⟩ (And.intro (IxO 116 7 h76_1) (And.intro (LdO0 Tryd.prog e_api_Nfa 28 h76_1) (trivial))) (by kernel_rfl) ?_
          refine WX.ret ?_
          exact WC.outP (by rw [← Option.some.inj h]; kernel_rfl)
        · replace hJ34 := fun y34_1 => hJ34 y34_1
          refine WX.block ?_
          refine WC.nil (n := 123) hn [6] none 116 28 7 (by kernel_rfl) [1, 2, 6, 7] [1, 2, 116] (st' := ⟨[(1, .ptr 1 0), (2, .ptr 2 0), (6, .own 116), (7, .p (i6 (0)))], [(1, .box 41 [.p (slV e_api_Node a0.Nodes)]), (2, .box 28 [.p (.sl .nil 0 []), .p (i6 (0)), .p (.sl .nil 0 []), .p (i6 (0)), .p (.sl .nil 0 []), .p (.sl .nil 0 []), .p (bo (false))]), (116, rowV 28 e_api_Nfa (([] : List api_Nfa)))], ⟨[], false⟩, []⟩) (by kernel_rfl) ?_
          refine WC.loop (V := List api_Nfa × Int) (riddleref10_Of_l0 a0 J34) r (fun v77 => ⟨[(1, .ptr 1 0), (2, .ptr 2 0), (6, .own 116), (7, .p (i6 (v77.2)))], [(1, .box 41 [.p (slV e_api_Node a0.Nodes)]), (2, .box 28 [.p (.sl .nil 0 []), .p (i6 (0)), .p (.sl .nil 0 []), .p (i6 (0)), .p (.sl .nil 0 []), .p (.sl .nil 0 []), .p (bo (false))]), (116, rowV 28 e_api_Nfa v77.1)], ⟨[], false⟩, []⟩) _ (([] : List api_Nfa), 0) h (fun _ => rfl) [1, 2, 6, 7] [1, 2, 116] (by kernel_rfl) ?_
          clear h; rintro k ⟨x77_1_1, x77_1_2⟩ h K77 hnext77 hexit77
          rw [riddleref10_Of_l0] at h
          refine WX.seq ?_
          refine WX.seq ?_
          refine WC.reg (n := 123) hn [] [1, 2, 6, 7, 54] [1, 2, 116] ⟨[(1, .ptr 1 0), (2, .ptr 2 0), (6, .own 116), (7, .p (i6 (x77_1_2))), (54, .p (bo (((decide (x77_1_2 < (a0.Nodes.length : Int)))))))], [(1, .box 41 [.p (slV e_api_Node a0.Nodes)]), (2, .box 28 [.p (.sl .nil 0 []), .p (i6 (0)), .p (.sl .nil 0 []), .p (i6 (0)), .p (.sl .nil 0 []), .p (.sl .nil 0 []), .p (bo (false))]), (116, rowV 28 e_api_Nfa x77_1_1)], ⟨[], false⟩, []⟩ trivial (by kernel_rfl) ?_
          rcases if_or h with ⟨c119, h⟩ | ⟨c119, h⟩
          · refine WC.condT c119 (by kernel_rfl) ?_
            refine WX.skip ?_
            refine WX.seq ?_
            refine WX.block ?_
            refine WX.seq ?_
            obtain ⟨t120_2, h120_1, h⟩ := bind_some h
            refine WC.reg (n := 123) hn [(3, .val (.p (.rop (e_api_Node.cells t120_2 ++ encL e_api_Node (a0.Nodes.drop (x77_1_2.toNat + 1))))))] [1, 2, 6, 7, 8] [1, 2, 8, 116] ⟨[(1, .ptr 1 0), (2, .ptr 2 0), (6, .own 116), (7, .p (i6 (x77_1_2))), (8, .ptr 8 0)], [(1, .box 41 [.p (slV e_api_Node a0.Nodes)]), (2, .box 28 [.p (.sl .nil 0 []), .p (i6 (0)), .p (.sl .nil 0 []), .p (i6 (0)), .p (.sl .nil 0 []), .p (.sl .nil 0 []), .p (bo (false))]), (8, .box 73 [.p (i6 (t120_2.Kind)), .p (.s (.int .u64 t120_2.Class.a0)), .p (.s (.int .u64 t120_2.Class.a1)), .p (.s (.int .u64 t120_2.Class.a2)), .p (.s (.int .u64 t120_2.Class.a3)), .p (i6 (t120_2.A)), .p (i6 (t120_2.B)), .p (i6 (t120_2.Least)), .p (i6 (t120_2.Most)), .p (bo (t120_2.Lazy))]), (116, rowV 28 e_api_Nfa x77_1_1)], ⟨[], false⟩, []⟩ (And.intro (Ix e_api_Node h120_1) (trivial)) (by kernel_rfl) ?_
            refine WX.seq ?_
            obtain ⟨t121_2, h121_1, h⟩ := bind_some h
            refine WC.reg (n := 123) hn [(0, .co [] [] [] [(62, rowV 69 (eI .u64) t121_2.First.Words), (122, rowV 69 (eI .u64) t121_2.Last.Words)] (.agg [.p (sC t121_2.Classes), .p (i6 (t121_2.First.N)), .own 62, .p (i6 (t121_2.Last.N)), .own 122, .p (sB t121_2.Follow), .p (bo (t121_2.Null))]))] [1, 2, 6, 7, 8, 9] [1, 2, 8, 9, 62, 116, 122] ⟨[(1, .ptr 1 0), (2, .ptr 2 0), (6, .own 116), (7, .p (i6 (x77_1_2))), (8, .ptr 8 0), (9, .ptr 9 0)], [(1, .box 41 [.p (slV e_api_Node a0.Nodes)]), (2, .box 28 [.p (.sl .nil 0 []), .p (i6 (0)), .p (.sl .nil 0 []), .p (i6 (0)), .p (.sl .nil 0 []), .p (.sl .nil 0 []), .p (bo (false))]), (8, .box 73 [.p (i6 (t120_2.Kind)), .p (.s (.int .u64 t120_2.Class.a0)), .p (.s (.int .u64 t120_2.Class.a1)), .p (.s (.int .u64 t120_2.Class.a2)), .p (.s (.int .u64 t120_2.Class.a3)), .p (i6 (t120_2.A)), .p (i6 (t120_2.B)), .p (i6 (t120_2.Least)), .p (i6 (t120_2.Most)), .p (bo (t120_2.Lazy))]), (9, .box 28 [.p (sC t121_2.Classes), .p (i6 (t121_2.First.N)), .own 62, .p (i6 (t121_2.Last.N)), .own 122, .p (sB t121_2.Follow), .p (bo (t121_2.Null))]), (62, rowV 69 (eI .u64) t121_2.First.Words), (116, rowV 28 e_api_Nfa x77_1_1), (122, rowV 69 (eI .u64) t121_2.Last.Words)], ⟨[], false⟩, []⟩ (And.intro (And.intro (((riddleref10_Empty_ok h121_1).ren 1 62 (by kernel_rfl)).ren 2 122 (by kernel_rfl)) (trivial)) (trivial)) (by kernel_rfl) ?_
            refine WX.seq ?_
            refine WX.seq ?_
            refine WC.reg (n := 123) hn [] [1, 2, 6, 7, 8, 9, 64] [1, 2, 8, 9, 62, 116, 122] ⟨[(1, .ptr 1 0), (2, .ptr 2 0), (6, .own 116), (7, .p (i6 (x77_1_2))), (8, .ptr 8 0), (9, .ptr 9 0), (64, .p (i6 (t120_2.Kind)))], [(1, .box 41 [.p (slV e_api_Node a0.Nodes)]), (2, .box 28 [.p (.sl .nil 0 []), .p (i6 (0)), .p (.sl .nil 0 []), .p (i6 (0)), .p (.sl .nil 0 []), .p (.sl .nil 0 []), .p (bo (false))]), (8, .box 73 [.p (i6 (t120_2.Kind)), .p (.s (.int .u64 t120_2.Class.a0)), .p (.s (.int .u64 t120_2.Class.a1)), .p (.s (.int .u64 t120_2.Class.a2)), .p (.s (.int .u64 t120_2.Class.a3)), .p (i6 (t120_2.A)), .p (i6 (t120_2.B)), .p (i6 (t120_2.Least)), .p (i6 (t120_2.Most)), .p (bo (t120_2.Lazy))]), (9, .box 28 [.p (sC t121_2.Classes), .p (i6 (t121_2.First.N)), .own 62, .p (i6 (t121_2.Last.N)), .own 122, .p (sB t121_2.Follow), .p (bo (t121_2.Null))]), (62, rowV 69 (eI .u64) t121_2.First.Words), (116, rowV 28 e_api_Nfa x77_1_1), (122, rowV 69 (eI .u64) t121_2.Last.Words)], ⟨[], false⟩, []⟩ trivial (by kernel_rfl) ?_
            obtain ⟨J123, eJ123, h⟩ := jn_some h
            try dsimp only at h
            refine WC.join (α := List (Arr4 Int) × Int × List Int × Int × List Int × List api_Bits × Bool) (fun v123 => ⟨[(1, .ptr 1 0), (2, .ptr 2 0), (6, .own 116), (7, .p (i6 (x77_1_2))), (9, .ptr 9 0)], [(1, .box 41 [.p (slV e_api_Node a0.Nodes)]), (2, .box 28 [.p (.sl .nil 0 []), .p (i6 (0)), .p (.sl .nil 0 []), .p (i6 (0)), .p (.sl .nil 0 []), .p (.sl .nil 0 []), .p (bo (false))]), (9, .box 28 [.p (sC v123.1), .p (i6 (v123.2.1)), .p (sW v123.2.2.1), .p (i6 (v123.2.2.2.1)), .p (sW v123.2.2.2.2.1), .p (sB v123.2.2.2.2.2.1), .p (bo (v123.2.2.2.2.2.2))]), (116, rowV 28 e_api_Nfa x77_1_1)], ⟨[], false⟩, []⟩) (fun v123 => J123 v123 = some r) ?_ (fun hJ123 => ?_)
            · rintro ⟨y123_1, y123_2, y123_3, y123_4, y123_5, y123_6, y123_7⟩ h
              rw [eJ123] at h
              try dsimp only at h
              obtain ⟨c136_1, h⟩ := if_some h
              refine WC.reg (n := 123) hn [(3, .app (some 116) (rowV 28 e_api_Nfa (x77_1_1 ++ ([(api_Nfa.mk y123_1 ((api_Bits.mk y123_2 y123_3)) ((api_Bits.mk y123_4 y123_5)) y123_6 y123_7)]))))] [1, 2, 6, 7] [1, 2, 116] ⟨[(1, .ptr 1 0), (2, .ptr 2 0), (6, .own 116), (7, .p (i6 (x77_1_2)))], [(1, .box 41 [.p (slV e_api_Node a0.Nodes)]), (2, .box 28 [.p (.sl .nil 0 []), .p (i6 (0)), .p (.sl .nil 0 []), .p (i6 (0)), .p (.sl .nil 0 []), .p (.sl .nil 0 []), .p (bo (false))]), (116, rowV 28 e_api_Nfa (x77_1_1 ++ ([(api_Nfa.mk y123_1 ((api_Bits.mk y123_2 y123_3)) ((api_Bits.mk y123_4 y123_5)) y123_6 y123_7)])))], ⟨[], false⟩, []⟩ (And.intro (Ap e_api_Nfa (some 116) 28 120 7 x77_1_1 ([(api_Nfa.mk y123_1 ((api_Bits.mk y123_2 y123_3)) ((api_Bits.mk y123_4 y123_5)) y123_6 y123_7)]) c136_1) (trivial)) (by kernel_rfl) ?_
              refine WX.popBlk ?_
              refine WC.reg (n := 123) hn [] [1, 2, 6, 7] [1, 2, 116] ⟨[(1, .ptr 1 0), (2, .ptr 2 0), (6, .own 116), (7, .p (i6 (((IntKind.i64.wrap (x77_1_2 + 1))))))], [(1, .box 41 [.p (slV e_api_Node a0.Nodes)]), (2, .box 28 [.p (.sl .nil 0 []), .p (i6 (0)), .p (.sl .nil 0 []), .p (i6 (0)), .p (.sl .nil 0 []), .p (.sl .nil 0 []), .p (bo (false))]), (116, rowV 28 e_api_Nfa (x77_1_1 ++ ([(api_Nfa.mk y123_1 ((api_Bits.mk y123_2 y123_3)) ((api_Bits.mk y123_4 y123_5)) y123_6 y123_7)])))], ⟨[], false⟩, []⟩ trivial (by kernel_rfl) ?_
              exact WC.next [1, 2, 6, 7] [1, 2, 116] (by kernel_rfl) (hnext77 (x77_1_1 ++ ([(api_Nfa.mk y123_1 ((api_Bits.mk y123_2 y123_3)) ((api_Bits.mk y123_4 y123_5)) y123_6 y123_7)]), (IntKind.i64.wrap (x77_1_2 + 1))) h)
            · replace hJ123 := fun y123_1 y123_2 y123_3 y123_4 y123_5 y123_6 y123_7 => hJ123 (y123_1, y123_2, y123_3, y123_4, y123_5, y123_6, y123_7)
              refine WX.block ?_
              refine WX.seq ?_
              refine WC.reg (n := 123) hn [] [1, 2, 6, 7, 8, 9, 64, 65] [1, 2, 8, 9, 62, 116, 122] ⟨[(1, .ptr 1 0), (2, .ptr 2 0), (6, .own 116), (7, .p (i6 (x77_1_2))), (8, .ptr 8 0), (9, .ptr 9 0), (64, .p (i6 (t120_2.Kind))), (65, .p (bo (((t120_2.Kind == 2)))))], [(1, .box 41 [.p (slV e_api_Node a0.Nodes)]), (2, .box 28 [.p (.sl .nil 0 []), .p (i6 (0)), .p (.sl .nil 0 []), .p (i6 (0)), .p (.sl .nil 0 []), .p (.sl .nil 0 []), .p (bo (false))]), (8, .box 73 [.p (i6 (t120_2.Kind)), .p (.s (.int .u64 t120_2.Class.a0)), .p (.s (.int .u64 t120_2.Class.a1)), .p (.s (.int .u64 t120_2.Class.a2)), .p (.s (.int .u64 t120_2.Class.a3)), .p (i6 (t120_2.A)), .p (i6 (t120_2.B)), .p (i6 (t120_2.Least)), .p (i6 (t120_2.Most)), .p (bo (t120_2.Lazy))]), (9, .box 28 [.p (sC t121_2.Classes), .p (i6 (t121_2.First.N)), .own 62, .p (i6 (t121_2.Last.N)), .own 122, .p (sB t121_2.Follow), .p (bo (t121_2.Null))]), (62, rowV 69 (eI .u64) t121_2.First.Words), (116, rowV 28 e_api_Nfa x77_1_1), (122, rowV 69 (eI .u64) t121_2.Last.Words)], ⟨[], false⟩, []⟩ trivial (by kernel_rfl) ?_
              rcases if_or h with ⟨c139, h⟩ | ⟨c139, h⟩
              · refine WC.condT c139 (by kernel_rfl) ?_
                obtain ⟨t140_2, h140_1, h⟩ := bind_some h
                refine WC.reg (n := 123) hn [(2, .resP (.agg [sC t140_2.Classes, i6 (t140_2.First.N), sW t140_2.First.Words, i6 (t140_2.Last.N), sW t140_2.Last.Words, sB t140_2.Follow, bo (t140_2.Null)]))] [1, 2, 6, 7, 9] [1, 2, 9, 116] ⟨[(1, .ptr 1 0), (2, .ptr 2 0), (6, .own 116), (7, .p (i6 (x77_1_2))), (9, .ptr 9 0)], [(1, .box 41 [.p (slV e_api_Node a0.Nodes)]), (2, .box 28 [.p (.sl .nil 0 []), .p (i6 (0)), .p (.sl .nil 0 []), .p (i6 (0)), .p (.sl .nil 0 []), .p (.sl .nil 0 []), .p (bo (false))]), (9, .box 28 [.p (sC t140_2.Classes), .p (i6 (t140_2.First.N)), .p (sW t140_2.First.Words), .p (i6 (t140_2.Last.N)), .p (sW t140_2.Last.Words), .p (sB t140_2.Follow), .p (bo (t140_2.Null))]), (116, rowV 28 e_api_Nfa x77_1_1)], ⟨[], false⟩, []⟩ (And.intro ((riddleref10_Leaf_ok h140_1)) (trivial)) (by kernel_rfl) ?_
                refine WX.popBlk ?_
                exact WC.keep [1, 2, 6, 7, 9] [1, 2, 9, 116] (by kernel_rfl) (hJ123 t140_2.Classes t140_2.First.N t140_2.First.Words t140_2.Last.N t140_2.Last.Words t140_2.Follow t140_2.Null h)
              · refine WC.condF c139 (by kernel_rfl) ?_
                refine WX.seq ?_
                refine WC.reg (n := 123) hn [] [1, 2, 6, 7, 8, 9, 64, 70] [1, 2, 8, 9, 62, 116, 122] ⟨[(1, .ptr 1 0), (2, .ptr 2 0), (6, .own 116), (7, .p (i6 (x77_1_2))), (8, .ptr 8 0), (9, .ptr 9 0), (64, .p (i6 (t120_2.Kind))), (70, .p (bo (((t120_2.Kind == 3)))))], [(1, .box 41 [.p (slV e_api_Node a0.Nodes)]), (2, .box 28 [.p (.sl .nil 0 []), .p (i6 (0)), .p (.sl .nil 0 []), .p (i6 (0)), .p (.sl .nil 0 []), .p (.sl .nil 0 []), .p (bo (false))]), (8, .box 73 [.p (i6 (t120_2.Kind)), .p (.s (.int .u64 t120_2.Class.a0)), .p (.s (.int .u64 t120_2.Class.a1)), .p (.s (.int .u64 t120_2.Class.a2)), .p (.s (.int .u64 t120_2.Class.a3)), .p (i6 (t120_2.A)), .p (i6 (t120_2.B)), .p (i6 (t120_2.Least)), .p (i6 (t120_2.Most)), .p (bo (t120_2.Lazy))]), (9, .box 28 [.p (sC t121_2.Classes), .p (i6 (t121_2.First.N)), .own 62, .p (i6 (t121_2.Last.N)), .own 122, .p (sB t121_2.Follow), .p (bo (t121_2.Null))]), (62, rowV 69 (eI .u64) t121_2.First.Words), (116, rowV 28 e_api_Nfa x77_1_1), (122, rowV 69 (eI .u64) t121_2.Last.Words)], ⟨[], false⟩, []⟩ trivial (by kernel_rfl) ?_
                rcases if_or h with ⟨c142, h⟩ | ⟨c142, h⟩
                · refine WC.condT c142 (by kernel_rfl) ?_
                  obtain ⟨t143_2, h143_1, h⟩ := bind_some h
                  obtain ⟨t143_4, h143_3, h⟩ := bind_some h
                  obtain ⟨t143_6, h143_5, h⟩ := bind_some h
                  refine WC.drw (n := 123) hn [(14, [13])] [] [(3, .val (.ptr 116 (t120_2.A.toNat * 7))), (4, .val (.p (.agg [sC t143_2.Classes, i6 (t143_2.First.N), sW t143_2.First.Words, i6 (t143_2.Last.N), sW t143_2.Last.Words, sB t143_2.Follow, bo (t143_2.Null)]))), (8, .val (.ptr 116 (t120_2.B.toNat * 7))), (9, .val (.p (.agg [sC t143_4.Classes, i6 (t143_4.First.N), sW t143_4.First.Words, i6 (t143_4.Last.N), sW t143_4.Last.Words, sB t143_4.Follow, bo (t143_4.Null)]))), (10, .resP (.tup [.agg [sC t143_6.1.Classes, i6 (t143_6.1.First.N), sW t143_6.1.First.Words, i6 (t143_6.1.Last.N), sW t143_6.1.Last.Words, sB t143_6.1.Follow, bo (t143_6.1.Null)], i6 (t143_6.2)]))] [1, 2, 6, 7, 9] [1, 2, 9, 116] ⟨[(1, .ptr 1 0), (2, .ptr 2 0), (6, .own 116), (7, .p (i6 (x77_1_2))), (9, .ptr 9 0)], [(1, .box 41 [.p (slV e_api_Node a0.Nodes)]), (2, .box 28 [.p (.sl .nil 0 []), .p (i6 (0)), .p (.sl .nil 0 []), .p (i6 (0)), .p (.sl .nil 0 []), .p (.sl .nil 0 []), .p (bo (false))]), (9, .box 28 [.p (sC t143_6.1.Classes), .p (i6 (t143_6.1.First.N)), .p (sW t143_6.1.First.Words), .p (i6 (t143_6.1.Last.N)), .p (sW t143_6.1.Last.Words), .p (sB t143_6.1.Follow), .p (bo (t143_6.1.Null))]), (116, rowV 28 e_api_Nfa x77_1_1)], ⟨[], false⟩, []⟩ (And.intro (IxO 116 7 h143_1) (And.intro (LdO0 Tryd.prog e_api_Nfa 28 h143_1) (And.intro (IxO 116 7 h143_3) (And.intro (LdO0 Tryd.prog e_api_Nfa 28 h143_3) (And.intro ((riddleref10_Cat_okP h143_5)) (And.intro (And.intro (Eq.refl (some (.p (i6 (t143_6.2)) : AV))) (trivial)) (trivial))))))) (by kernel_rfl) (by kernel_rfl) (by kernel_rfl) (by kernel_rfl) ?_
                  refine WX.popBlk ?_
                  exact WC.keep [1, 2, 6, 7, 9] [1, 2, 9, 116] (by kernel_rfl) (hJ123 t143_6.1.Classes t143_6.1.First.N t143_6.1.First.Words t143_6.1.Last.N t143_6.1.Last.Words t143_6.1.Follow t143_6.1.Null h)
                · refine WC.condF c142 (by kernel_rfl) ?_
                  refine WX.seq ?_
                  refine WC.reg (n := 123) hn [] [1, 2, 6, 7, 8, 9, 64, 86] [1, 2, 8, 9, 62, 116, 122] ⟨[(1, .ptr 1 0), (2, .ptr 2 0), (6, .own 116), (7, .p (i6 (x77_1_2))), (8, .ptr 8 0), (9, .ptr 9 0), (64, .p (i6 (t120_2.Kind))), (86, .p (bo (((t120_2.Kind == 4)))))], [(1, .box 41 [.p (slV e_api_Node a0.Nodes)]), (2, .box 28 [.p (.sl .nil 0 []), .p (i6 (0)), .p (.sl .nil 0 []), .p (i6 (0)), .p (.sl .nil 0 []), .p (.sl .nil 0 []), .p (bo (false))]), (8, .box 73 [.p (i6 (t120_2.Kind)), .p (.s (.int .u64 t120_2.Class.a0)), .p (.s (.int .u64 t120_2.Class.a1)), .p (.s (.int .u64 t120_2.Class.a2)), .p (.s (.int .u64 t120_2.Class.a3)), .p (i6 (t120_2.A)), .p (i6 (t120_2.B)), .p (i6 (t120_2.Least)), .p (i6 (t120_2.Most)), .p (bo (t120_2.Lazy))]), (9, .box 28 [.p (sC t121_2.Classes), .p (i6 (t121_2.First.N)), .own 62, .p (i6 (t121_2.Last.N)), .own 122, .p (sB t121_2.Follow), .p (bo (t121_2.Null))]), (62, rowV 69 (eI .u64) t121_2.First.Words), (116, rowV 28 e_api_Nfa x77_1_1), (122, rowV 69 (eI .u64) t121_2.Last.Words)], ⟨[], false⟩, []⟩ trivial (by kernel_rfl) ?_
                  rcases if_or h with ⟨c145, h⟩ | ⟨c145, h⟩
                  · refine WC.condT c145 (by kernel_rfl) ?_
                    obtain ⟨t146_2, h146_1, h⟩ := bind_some h
                    obtain ⟨t146_4, h146_3, h⟩ := bind_some h
                    obtain ⟨t146_6, h146_5, h⟩ := bind_some h
                    refine WC.drw (n := 123) hn [(14, [13])] [] [(3, .val (.ptr 116 (t120_2.A.toNat * 7))), (4, .val (.p (.agg [sC t146_2.Classes, i6 (t146_2.First.N), sW t146_2.First.Words, i6 (t146_2.Last.N), sW t146_2.Last.Words, sB t146_2.Follow, bo (t146_2.Null)]))), (8, .val (.ptr 116 (t120_2.B.toNat * 7))), (9, .val (.p (.agg [sC t146_4.Classes, i6 (t146_4.First.N), sW t146_4.First.Words, i6 (t146_4.Last.N), sW t146_4.Last.Words, sB t146_4.Follow, bo (t146_4.Null)]))), (10, .resP (.tup [.agg [sC t146_6.1.Classes, i6 (t146_6.1.First.N), sW t146_6.1.First.Words, i6 (t146_6.1.Last.N), sW t146_6.1.Last.Words, sB t146_6.1.Follow, bo (t146_6.1.Null)], i6 (t146_6.2)]))] [1, 2, 6, 7, 9] [1, 2, 9, 116] ⟨[(1, .ptr 1 0), (2, .ptr 2 0), (6, .own 116), (7, .p (i6 (x77_1_2))), (9, .ptr 9 0)], [(1, .box 41 [.p (slV e_api_Node a0.Nodes)]), (2, .box 28 [.p (.sl .nil 0 []), .p (i6 (0)), .p (.sl .nil 0 []), .p (i6 (0)), .p (.sl .nil 0 []), .p (.sl .nil 0 []), .p (bo (false))]), (9, .box 28 [.p (sC t146_6.1.Classes), .p (i6 (t146_6.1.First.N)), .p (sW t146_6.1.First.Words), .p (i6 (t146_6.1.Last.N)), .p (sW t146_6.1.Last.Words), .p (sB t146_6.1.Follow), .p (bo (t146_6.1.Null))]), (116, rowV 28 e_api_Nfa x77_1_1)], ⟨[], false⟩, []⟩ (And.intro (IxO 116 7 h146_1) (And.intro (LdO0 Tryd.prog e_api_Nfa 28 h146_1) (And.intro (IxO 116 7 h146_3) (And.intro (LdO0 Tryd.prog e_api_Nfa 28 h146_3) (And.intro ((riddleref10_Alt_okP h146_5)) (And.intro (And.intro (Eq.refl (some (.p (i6 (t146_6.2)) : AV))) (trivial)) (trivial))))))) (by kernel_rfl) (by kernel_rfl) (by kernel_rfl) (by kernel_rfl) ?_
                    refine WX.popBlk ?_
                    exact WC.keep [1, 2, 6, 7, 9] [1, 2, 9, 116] (by kernel_rfl) (hJ123 t146_6.1.Classes t146_6.1.First.N t146_6.1.First.Words t146_6.1.Last.N t146_6.1.Last.Words t146_6.1.Follow t146_6.1.Null h)
                  · refine WC.condF c145 (by kernel_rfl) ?_
                    refine WX.seq ?_
                    refine WC.reg (n := 123) hn [] [1, 2, 6, 7, 8, 9, 102] [1, 2, 8, 9, 62, 116, 122] ⟨[(1, .ptr 1 0), (2, .ptr 2 0), (6, .own 116), (7, .p (i6 (x77_1_2))), (8, .ptr 8 0), (9, .ptr 9 0), (102, .p (bo (((t120_2.Kind == 5)))))], [(1, .box 41 [.p (slV e_api_Node a0.Nodes)]), (2, .box 28 [.p (.sl .nil 0 []), .p (i6 (0)), .p (.sl .nil 0 []), .p (i6 (0)), .p (.sl .nil 0 []), .p (.sl .nil 0 []), .p (bo (false))]), (8, .box 73 [.p (i6 (t120_2.Kind)), .p (.s (.int .u64 t120_2.Class.a0)), .p (.s (.int .u64 t120_2.Class.a1)), .p (.s (.int .u64 t120_2.Class.a2)), .p (.s (.int .u64 t120_2.Class.a3)), .p (i6 (t120_2.A)), .p (i6 (t120_2.B)), .p (i6 (t120_2.Least)), .p (i6 (t120_2.Most)), .p (bo (t120_2.Lazy))]), (9, .box 28 [.p (sC t121_2.Classes), .p (i6 (t121_2.First.N)), .own 62, .p (i6 (t121_2.Last.N)), .own 122, .p (sB t121_2.Follow), .p (bo (t121_2.Null))]), (62, rowV 69 (eI .u64) t121_2.First.Words), (116, rowV 28 e_api_Nfa x77_1_1), (122, rowV 69 (eI .u64) t121_2.Last.Words)], ⟨[], false⟩, []⟩ trivial (by kernel_rfl) ?_
                    rcases if_or h with ⟨c148, h⟩ | ⟨c148, h⟩
                    · refine WC.condT c148 (by kernel_rfl) ?_
                      obtain ⟨t149_2, h149_1, h⟩ := bind_some h
                      obtain ⟨t149_4, h149_3, h⟩ := bind_some h
                      refine WC.reg (n := 123) hn [(3, .val (.ptr 116 (t120_2.A.toNat * 7))), (4, .val (.p (.agg [sC t149_2.Classes, i6 (t149_2.First.N), sW t149_2.First.Words, i6 (t149_2.Last.N), sW t149_2.Last.Words, sB t149_2.Follow, bo (t149_2.Null)]))), (5, .co [] [] [] [(110, rowV 25 e_api_Bits t149_4.1.Follow)] (.tup [.agg [.p (sC t149_4.1.Classes), .p (i6 (t149_4.1.First.N)), .p (sW t149_4.1.First.Words), .p (i6 (t149_4.1.Last.N)), .p (sW t149_4.1.Last.Words), .own 110, .p (bo (t149_4.1.Null))], .p (i6 (t149_4.2))]))] [1, 2, 6, 7, 9] [1, 2, 9, 110, 116] ⟨[(1, .ptr 1 0), (2, .ptr 2 0), (6, .own 116), (7, .p (i6 (x77_1_2))), (9, .ptr 9 0)], [(1, .box 41 [.p (slV e_api_Node a0.Nodes)]), (2, .box 28 [.p (.sl .nil 0 []), .p (i6 (0)), .p (.sl .nil 0 []), .p (i6 (0)), .p (.sl .nil 0 []), .p (.sl .nil 0 []), .p (bo (false))]), (9, .box 28 [.p (sC t149_4.1.Classes), .p (i6 (t149_4.1.First.N)), .p (sW t149_4.1.First.Words), .p (i6 (t149_4.1.Last.N)), .p (sW t149_4.1.Last.Words), .own 110, .p (bo (t149_4.1.Null))]), (110, rowV 25 e_api_Bits t149_4.1.Follow), (116, rowV 28 e_api_Nfa x77_1_1)], ⟨[], false⟩, []⟩ (And.intro (IxO 116 7 h149_1) (And.intro (LdO0 Tryd.prog e_api_Nfa 28 h149_1) (And.intro (And.intro ((riddleref10_Star_ok h149_3).ren 27 110 (by kernel_rfl)) (trivial)) (trivial)))) (by kernel_rfl) ?_
                      refine WX.popBlk ?_
                      refine WC.frz 110 (st' := ⟨[(1, .ptr 1 0), (2, .ptr 2 0), (6, .own 116), (7, .p (i6 (x77_1_2))), (9, .ptr 9 0)], [(1, .box 41 [.p (slV e_api_Node a0.Nodes)]), (2, .box 28 [.p (.sl .nil 0 []), .p (i6 (0)), .p (.sl .nil 0 []), .p (i6 (0)), .p (.sl .nil 0 []), .p (.sl .nil 0 []), .p (bo (false))]), (9, .box 28 [.p (sC t149_4.1.Classes), .p (i6 (t149_4.1.First.N)), .p (sW t149_4.1.First.Words), .p (i6 (t149_4.1.Last.N)), .p (sW t149_4.1.Last.Words), .p (sB t149_4.1.Follow), .p (bo (t149_4.1.Null))]), (116, rowV 28 e_api_Nfa x77_1_1)], ⟨[], false⟩, []⟩) (by kernel_rfl) ?_
                      exact WC.keep [1, 2, 6, 7, 9] [1, 2, 9, 116] (by kernel_rfl) (hJ123 t149_4.1.Classes t149_4.1.First.N t149_4.1.First.Words t149_4.1.Last.N t149_4.1.Last.Words t149_4.1.Follow t149_4.1.Null h)
                    · refine WC.condF c148 (by kernel_rfl) ?_
                      refine WX.skip ?_
                      refine WX.popBlk ?_
                      refine WC.keep [1, 2, 6, 7, 9] [1, 2, 9, 62, 116, 122] (st' := ⟨[(1, .ptr 1 0), (2, .ptr 2 0), (6, .own 116), (7, .p (i6 (x77_1_2))), (9, .ptr 9 0)], [(1, .box 41 [.p (slV e_api_Node a0.Nodes)]), (2, .box 28 [.p (.sl .nil 0 []), .p (i6 (0)), .p (.sl .nil 0 []), .p (i6 (0)), .p (.sl .nil 0 []), .p (.sl .nil 0 []), .p (bo (false))]), (9, .box 28 [.p (sC t121_2.Classes), .p (i6 (t121_2.First.N)), .own 62, .p (i6 (t121_2.Last.N)), .own 122, .p (sB t121_2.Follow), .p (bo (t121_2.Null))]), (62, rowV 69 (eI .u64) t121_2.First.Words), (116, rowV 28 e_api_Nfa x77_1_1), (122, rowV 69 (eI .u64) t121_2.Last.Words)], ⟨[], false⟩, []⟩) (by kernel_rfl) ?_
                      refine WC.frz 62 (st' := ⟨[(1, .ptr 1 0), (2, .ptr 2 0), (6, .own 116), (7, .p (i6 (x77_1_2))), (9, .ptr 9 0)], [(1, .box 41 [.p (slV e_api_Node a0.Nodes)]), (2, .box 28 [.p (.sl .nil 0 []), .p (i6 (0)), .p (.sl .nil 0 []), .p (i6 (0)), .p (.sl .nil 0 []), .p (.sl .nil 0 []), .p (bo (false))]), (9, .box 28 [.p (sC t121_2.Classes), .p (i6 (t121_2.First.N)), .p (sW t121_2.First.Words), .p (i6 (t121_2.Last.N)), .own 122, .p (sB t121_2.Follow), .p (bo (t121_2.Null))]), (116, rowV 28 e_api_Nfa x77_1_1), (122, rowV 69 (eI .u64) t121_2.Last.Words)], ⟨[], false⟩, []⟩) (by kernel_rfl) ?_
                      refine WC.frz 122 (st' := ⟨[(1, .ptr 1 0), (2, .ptr 2 0), (6, .own 116), (7, .p (i6 (x77_1_2))), (9, .ptr 9 0)], [(1, .box 41 [.p (slV e_api_Node a0.Nodes)]), (2, .box 28 [.p (.sl .nil 0 []), .p (i6 (0)), .p (.sl .nil 0 []), .p (i6 (0)), .p (.sl .nil 0 []), .p (.sl .nil 0 []), .p (bo (false))]), (9, .box 28 [.p (sC t121_2.Classes), .p (i6 (t121_2.First.N)), .p (sW t121_2.First.Words), .p (i6 (t121_2.Last.N)), .p (sW t121_2.Last.Words), .p (sB t121_2.Follow), .p (bo (t121_2.Null))]), (116, rowV 28 e_api_Nfa x77_1_1)], ⟨[], false⟩, []⟩) (by kernel_rfl) ?_
                      exact WC.keep [1, 2, 6, 7, 9] [1, 2, 9, 116] (by kernel_rfl) (hJ123 t121_2.Classes t121_2.First.N t121_2.First.Words t121_2.Last.N t121_2.Last.Words t121_2.Follow t121_2.Null h)
          · refine WC.condF c119 (by kernel_rfl) ?_
            refine WX.exit ?_
            refine WX.popCodeExit ?_
            refine WC.exit_nil (hexit77 _ _ (by simp) ?_)
            refine WX.popBlkHit ?_
            exact WC.keep [2, 6] [2, 116] (by kernel_rfl) (hJ34 x77_1_1 h)
    · replace hJ7 := fun y7_1 => hJ7 y7_1
      refine WX.block ?_
      refine WC.loop (V := Int × Int) (riddleref10_Of_l1 a0 J7) r (fun v150 => ⟨[(1, .ptr 1 0), (2, .ptr 2 0), (4, .p (i6 (v150.1))), (5, .p (i6 (v150.2)))], [(1, .box 41 [.p (slV e_api_Node a0.Nodes)]), (2, .box 28 [.p (.sl .nil 0 []), .p (i6 (0)), .p (.sl .nil 0 []), .p (i6 (0)), .p (.sl .nil 0 []), .p (.sl .nil 0 []), .p (bo (false))])], ⟨[], false⟩, []⟩) _ (0, 0) h (fun _ => rfl) [1, 2, 4, 5] [1, 2] (by kernel_rfl) ?_
      clear h; rintro k ⟨x150_1_1, x150_1_2⟩ h K150 hnext150 hexit150
      rw [riddleref10_Of_l1] at h
      refine WX.seq ?_
      refine WX.seq ?_
      refine WC.reg (n := 123) hn [] [1, 2, 4, 5, 18] [1, 2] ⟨[(1, .ptr 1 0), (2, .ptr 2 0), (4, .p (i6 (x150_1_1))), (5, .p (i6 (x150_1_2))), (18, .p (bo (((decide (x150_1_2 < (a0.Nodes.length : Int)))))))], [(1, .box 41 [.p (slV e_api_Node a0.Nodes)]), (2, .box 28 [.p (.sl .nil 0 []), .p (i6 (0)), .p (.sl .nil 0 []), .p (i6 (0)), .p (.sl .nil 0 []), .p (.sl .nil 0 []), .p (bo (false))])], ⟨[], false⟩, []⟩ trivial (by kernel_rfl) ?_
      rcases if_or h with ⟨c172, h⟩ | ⟨c172, h⟩
      · refine WC.condT c172 (by kernel_rfl) ?_
        refine WX.skip ?_
        refine WX.seq ?_
        refine WX.block ?_
        refine WX.seq ?_
        refine WX.seq ?_
        obtain ⟨t173_2, h173_1, h⟩ := bind_some h
        refine WC.via (α := Bool) (fun v173 => ⟨[(1, .ptr 1 0), (2, .ptr 2 0), (4, .p (i6 (x150_1_1))), (5, .p (i6 (x150_1_2))), (36, .p (bo (v173)))], [(1, .box 41 [.p (slV e_api_Node a0.Nodes)]), (2, .box 28 [.p (.sl .nil 0 []), .p (i6 (0)), .p (.sl .nil 0 []), .p (i6 (0)), .p (.sl .nil 0 []), .p (.sl .nil 0 []), .p (bo (false))])], ⟨[], false⟩, []⟩) ((((t173_2.Kind == 6)) || ((t173_2.Kind == 7)))) (fun hk => ?_) ?_
        · rcases Bool.eq_false_or_eq_true ((t173_2.Kind == 6)) with b173_7 | b173_7
          · exact WC.reg (n := 123) hn [(3, .val (.p (.rop (e_api_Node.cells t173_2 ++ encL e_api_Node (a0.Nodes.drop (x150_1_2.toNat + 1)))))), (7, .val (.p (bo (true))))] [1, 2, 4, 5, 36] [1, 2] ⟨[(1, .ptr 1 0), (2, .ptr 2 0), (4, .p (i6 (x150_1_1))), (5, .p (i6 (x150_1_2))), (36, .p (bo (true)))], [(1, .box 41 [.p (slV e_api_Node a0.Nodes)]), (2, .box 28 [.p (.sl .nil 0 []), .p (i6 (0)), .p (.sl .nil 0 []), .p (i6 (0)), .p (.sl .nil 0 []), .p (.sl .nil 0 []), .p (bo (false))])], ⟨[], false⟩, []⟩ (And.intro (Ix e_api_Node h173_1) (And.intro (Bl b173_7) (trivial))) (by kernel_rfl) (hk true (by first | (rw [b173_7]; rfl) | simp [b173_7]))
          · exact WC.reg (n := 123) hn [(3, .val (.p (.rop (e_api_Node.cells t173_2 ++ encL e_api_Node (a0.Nodes.drop (x150_1_2.toNat + 1)))))), (7, .val (.p (bo (false)))), (11, .val (.p (.rop (e_api_Node.cells t173_2 ++ encL e_api_Node (a0.Nodes.drop (x150_1_2.toNat + 1))))))] [1, 2, 4, 5, 36] [1, 2] ⟨[(1, .ptr 1 0), (2, .ptr 2 0), (4, .p (i6 (x150_1_1))), (5, .p (i6 (x150_1_2))), (36, .p (bo (((t173_2.Kind == 7)))))], [(1, .box 41 [.p (slV e_api_Node a0.Nodes)]), (2, .box 28 [.p (.sl .nil 0 []), .p (i6 (0)), .p (.sl .nil 0 []), .p (i6 (0)), .p (.sl .nil 0 []), .p (.sl .nil 0 []), .p (bo (false))])], ⟨[], false⟩, []⟩ (And.intro (Ix e_api_Node h173_1) (And.intro (Bl b173_7) (And.intro (Ix e_api_Node h173_1) (trivial)))) (by kernel_rfl) (hk ((t173_2.Kind == 7)) (by first | (rw [b173_7]; rfl) | simp [b173_7]))
        rcases if_or h with ⟨c174, h⟩ | ⟨c174, h⟩
        · refine WC.condT c174 (by kernel_rfl) ?_
          refine WX.seq ?_
          refine WC.reg (n := 123) hn [] [2, 3] [2] ⟨[(2, .ptr 2 0), (3, .p (i6 (1)))], [(2, .box 28 [.p (.sl .nil 0 []), .p (i6 (0)), .p (.sl .nil 0 []), .p (i6 (0)), .p (.sl .nil 0 []), .p (.sl .nil 0 []), .p (bo (false))])], ⟨[], false⟩, []⟩ trivial (by kernel_rfl) ?_
          refine WX.ret ?_
          refine WC.ret_all (hexit150 _ _ (by simp) ?_)
          exact WC.outP (by rw [← Option.some.inj h]; kernel_rfl)
        · refine WC.condF c174 (by kernel_rfl) ?_
          refine WX.skip ?_
          refine WX.seq ?_
          obtain ⟨t176_2, h176_1, h⟩ := bind_some h
          refine WC.reg (n := 123) hn [(3, .val (.p (.rop (e_api_Node.cells t176_2 ++ encL e_api_Node (a0.Nodes.drop (x150_1_2.toNat + 1))))))] [1, 2, 4, 5, 44] [1, 2] ⟨[(1, .ptr 1 0), (2, .ptr 2 0), (4, .p (i6 (x150_1_1))), (5, .p (i6 (x150_1_2))), (44, .p (bo (((t176_2.Kind == 2)))))], [(1, .box 41 [.p (slV e_api_Node a0.Nodes)]), (2, .box 28 [.p (.sl .nil 0 []), .p (i6 (0)), .p (.sl .nil 0 []), .p (i6 (0)), .p (.sl .nil 0 []), .p (.sl .nil 0 []), .p (bo (false))])], ⟨[], false⟩, []⟩ (And.intro (Ix e_api_Node h176_1) (trivial)) (by kernel_rfl) ?_
          rcases if_or h with ⟨c177, h⟩ | ⟨c177, h⟩
          · refine WC.condT c177 (by kernel_rfl) ?_
            refine WC.reg (n := 123) hn [] [1, 2, 4, 5] [1, 2] ⟨[(1, .ptr 1 0), (2, .ptr 2 0), (4, .p (i6 (((IntKind.i64.wrap (x150_1_1 + 1)))))), (5, .p (i6 (x150_1_2)))], [(1, .box 41 [.p (slV e_api_Node a0.Nodes)]), (2, .box 28 [.p (.sl .nil 0 []), .p (i6 (0)), .p (.sl .nil 0 []), .p (i6 (0)), .p (.sl .nil 0 []), .p (.sl .nil 0 []), .p (bo (false))])], ⟨[], false⟩, []⟩ trivial (by kernel_rfl) ?_
            refine WX.popBlk ?_
            refine WC.reg (n := 123) hn [] [1, 2, 4, 5] [1, 2] ⟨[(1, .ptr 1 0), (2, .ptr 2 0), (4, .p (i6 (((IntKind.i64.wrap (x150_1_1 + 1)))))), (5, .p (i6 (((IntKind.i64.wrap (x150_1_2 + 1))))))], [(1, .box 41 [.p (slV e_api_Node a0.Nodes)]), (2, .box 28 [.p (.sl .nil 0 []), .p (i6 (0)), .p (.sl .nil 0 []), .p (i6 (0)), .p (.sl .nil 0 []), .p (.sl .nil 0 []), .p (bo (false))])], ⟨[], false⟩, []⟩ trivial (by kernel_rfl) ?_
            exact WC.next [1, 2, 4, 5] [1, 2] (by kernel_rfl) (hnext150 ((IntKind.i64.wrap (x150_1_1 + 1)), (IntKind.i64.wrap (x150_1_2 + 1))) h)
          · refine WC.condF c177 (by kernel_rfl) ?_
            refine WX.skip ?_
            refine WX.popBlk ?_
            refine WC.reg (n := 123) hn [] [1, 2, 4, 5] [1, 2] ⟨[(1, .ptr 1 0), (2, .ptr 2 0), (4, .p (i6 (x150_1_1))), (5, .p (i6 (((IntKind.i64.wrap (x150_1_2 + 1))))))], [(1, .box 41 [.p (slV e_api_Node a0.Nodes)]), (2, .box 28 [.p (.sl .nil 0 []), .p (i6 (0)), .p (.sl .nil 0 []), .p (i6 (0)), .p (.sl .nil 0 []), .p (.sl .nil 0 []), .p (bo (false))])], ⟨[], false⟩, []⟩ trivial (by kernel_rfl) ?_
            exact WC.next [1, 2, 4, 5] [1, 2] (by kernel_rfl) (hnext150 (x150_1_1, (IntKind.i64.wrap (x150_1_2 + 1))) h)
      · refine WC.condF c172 (by kernel_rfl) ?_
        refine WX.exit ?_
        refine WX.popCodeExit ?_
        refine WC.exit_nil (hexit150 _ _ (by simp) ?_)
        refine WX.popBlkHit ?_
        exact WC.keep [1, 2, 4] [1, 2] (by kernel_rfl) (hJ7 x150_1_1 h)
def riddleref05_Empty  : Option (api_Tree) :=
  some ((api_Tree.mk ([(api_Node.mk 1 ((Arr4.mk 0 0 0 0)) 0 0 0 0 false)])))
theorem riddleref05_Empty_ok  {r : api_Tree} (h : riddleref05_Empty = some r) : AnsO Tryd.prog 68 [] [] [(2, rowV 73 e_api_Node r.Nodes)] (.agg [.own 2]) := by
  refine W_fnO [2] Tryd.func68 rfl (by kernel_rfl) (by kernel_rfl) (by kernel_rfl) (by kernel_rfl) ?_
  intro X hro hn
  unfold riddleref05_Empty at h
  refine WX.seq ?_
  refine WC.reg (n := 4) hn [] [0] [0] ⟨[(0, .ptr 0 0)], [(0, .box 41 [.p (.sl .nil 0 [])])], ⟨[], false⟩, []⟩ trivial (by kernel_rfl) ?_
  refine WX.seq ?_
  refine WC.reg (n := 4) hn [] [0] [0, 2] ⟨[(0, .ptr 0 0)], [(0, .box 41 [.own 2]), (2, rowV 73 e_api_Node ([(api_Node.mk 1 ((Arr4.mk 0 0 0 0)) 0 0 0 0 false)]))], ⟨[], false⟩, []⟩ trivial (by kernel_rfl) ?_
  refine WX.ret ?_
  exact WC.outO (by rw [← Option.some.inj h]; kernel_rfl)
theorem riddleref05_Empty_okP  {r : api_Tree} (h : riddleref05_Empty = some r) : Ans Tryd.prog 68 [] (.agg [slV e_api_Node r.Nodes]) := AnsO.ans (args := []) (riddleref05_Empty_ok h) (by kernel_rfl)
def riddleref05_placed_l0 (a0 : (List api_Node)) (a1 : api_Tree) (J4 : List api_Node → Option ((List api_Node))) : Nat → (List api_Node × Int) → Option ((List api_Node))
  | 0, _ => none
  | k + 1, (x33_1_1, x33_1_2) => (if (decide (x33_1_2 < (a1.Nodes.length : Int))) = true then (at_ a1.Nodes x33_1_2).bind fun t62_2 => jn (fun (v64 : Int) => jn (fun (v68 : Int) => (if okApp 80 (x33_1_1.length + ([(api_Node.mk t62_2.Kind t62_2.Class v68 v64 t62_2.Least t62_2.Most t62_2.Lazy)]).length) then riddleref05_placed_l0 a0 a1 J4 k (x33_1_1 ++ ([(api_Node.mk t62_2.Kind t62_2.Class v68 v64 t62_2.Least t62_2.Most t62_2.Lazy)]), (IntKind.i64.wrap (x33_1_2 + 1))) else none)) fun J68 => (if (((t62_2.Kind == 3)) || ((((t62_2.Kind == 4)) || ((t62_2.Kind == 5))))) = true then J68 ((IntKind.i64.wrap (t62_2.A + (a0.length : Int)))) else J68 t62_2.A)) fun J64 => (if (((t62_2.Kind == 3)) || ((t62_2.Kind == 4))) = true then J64 ((IntKind.i64.wrap (t62_2.B + (a0.length : Int)))) else J64 t62_2.B) else J4 x33_1_1)
def riddleref05_placed (k : Nat) (a0 : (List api_Node)) (a1 : api_Tree) : Option ((List api_Node)) :=
  jn (fun (v4 : List api_Node) => some v4) fun J4 => riddleref05_placed_l0 a0 a1 J4 k (a0, 0)
theorem riddleref05_placed_ok {k : Nat} {a0 : (List api_Node)} {a1 : api_Tree} {r : (List api_Node)} (h : riddleref05_placed k a0 a1 = some r) : AnsO Tryd.prog 69 [(1000, rowV 73 e_api_Node a0)] [.own 1000, .p (.agg [slV e_api_Node a1.Nodes])] [(56, rowV 73 e_api_Node r)] (.own 56) := by
  refine W_fnO [56] Tryd.func69 rfl (by kernel_rfl) (by kernel_rfl) (by kernel_rfl) (by kernel_rfl) ?_
  intro X hro hn
  unfold riddleref05_placed at h
  refine WX.seq ?_
  refine WC.reg (n := 58) hn [] [0, 3] [3, 1000] ⟨[(0, .own 1000), (3, .ptr 3 0)], [(3, .box 41 [.p (slV e_api_Node a1.Nodes)]), (1000, rowV 73 e_api_Node a0)], ⟨[], false⟩, []⟩ trivial (by kernel_rfl) ?_
  refine WX.seq ?_
  refine WC.reg (n := 58) hn [] [0, 3, 5] [3, 1000] ⟨[(0, .own 1000), (3, .ptr 3 0), (5, .p (i6 (((a0.length : Int)))))], [(3, .box 41 [.p (slV e_api_Node a1.Nodes)]), (1000, rowV 73 e_api_Node a0)], ⟨[], false⟩, []⟩ trivial (by kernel_rfl) ?_
  refine WX.seq ?_
  refine WX.seq ?_
  refine WC.reg (n := 58) hn [] [0, 3, 5, 6] [3, 1000] ⟨[(0, .own 1000), (3, .ptr 3 0), (5, .p (i6 (((a0.length : Int))))), (6, .p (i6 (0)))], [(3, .box 41 [.p (slV e_api_Node a1.Nodes)]), (1000, rowV 73 e_api_Node a0)], ⟨[], false⟩, []⟩ trivial (by kernel_rfl) ?_
  obtain ⟨J4, eJ4, h⟩ := jn_some h
  try dsimp only at h
  refine WC.join (α := List api_Node) (fun v4 => ⟨[(0, .own 56)], [(56, rowV 73 e_api_Node v4)], ⟨[], false⟩, []⟩) (fun v4 => J4 v4 = some r) ?_ (fun hJ4 => ?_)
  · rintro y4_1 h
    rw [eJ4] at h
    try dsimp only at h
    refine WX.seq ?_
    refine WC.reg (n := 58) hn [] [4] [56] ⟨[(4, .own 56)], [(56, rowV 73 e_api_Node y4_1)], ⟨[], false⟩, []⟩ trivial (by kernel_rfl) ?_
    refine WX.ret ?_
    exact WC.outO (by rw [← Option.some.inj h]; kernel_rfl)
  · replace hJ4 := fun y4_1 => hJ4 y4_1
    refine WX.block ?_
    refine WC.ren (n := 58) hn 1000 56 (by kernel_rfl) [0, 3, 5, 6] [3, 56] (st' := ⟨[(0, .own 56), (3, .ptr 3 0), (5, .p (i6 (((a0.length : Int))))), (6, .p (i6 (0)))], [(3, .box 41 [.p (slV e_api_Node a1.Nodes)]), (56, rowV 73 e_api_Node a0)], ⟨[], false⟩, []⟩) (by kernel_rfl) ?_
    refine WC.loop (V := List api_Node × Int) (riddleref05_placed_l0 a0 a1 J4) r (fun v33 => ⟨[(0, .own 56), (3, .ptr 3 0), (5, .p (i6 (((a0.length : Int))))), (6, .p (i6 (v33.2)))], [(3, .box 41 [.p (slV e_api_Node a1.Nodes)]), (56, rowV 73 e_api_Node v33.1)], ⟨[], false⟩, []⟩) _ (a0, 0) h (fun _ => rfl) [0, 3, 5, 6] [3, 56] (by kernel_rfl) ?_
    clear h; rintro k ⟨x33_1_1, x33_1_2⟩ h K33 hnext33 hexit33
    rw [riddleref05_placed_l0] at h
    refine WX.seq ?_
    refine WX.seq ?_
    refine WC.reg (n := 58) hn [] [0, 3, 5, 6, 14] [3, 56] ⟨[(0, .own 56), (3, .ptr 3 0), (5, .p (i6 (((a0.length : Int))))), (6, .p (i6 (x33_1_2))), (14, .p (bo (((decide (x33_1_2 < (a1.Nodes.length : Int)))))))], [(3, .box 41 [.p (slV e_api_Node a1.Nodes)]), (56, rowV 73 e_api_Node x33_1_1)], ⟨[], false⟩, []⟩ trivial (by kernel_rfl) ?_
    rcases if_or h with ⟨c61, h⟩ | ⟨c61, h⟩
    · refine WC.condT c61 (by kernel_rfl) ?_
      refine WX.skip ?_
      refine WX.seq ?_
      refine WX.block ?_
      refine WX.seq ?_
      obtain ⟨t62_2, h62_1, h⟩ := bind_some h
      refine WC.reg (n := 58) hn [(3, .val (.p (.rop (e_api_Node.cells t62_2 ++ encL e_api_Node (a1.Nodes.drop (x33_1_2.toNat + 1))))))] [0, 3, 5, 6, 7] [3, 7, 56] ⟨[(0, .own 56), (3, .ptr 3 0), (5, .p (i6 (((a0.length : Int))))), (6, .p (i6 (x33_1_2))), (7, .ptr 7 0)], [(3, .box 41 [.p (slV e_api_Node a1.Nodes)]), (7, .box 73 [.p (i6 (t62_2.Kind)), .p (.s (.int .u64 t62_2.Class.a0)), .p (.s (.int .u64 t62_2.Class.a1)), .p (.s (.int .u64 t62_2.Class.a2)), .p (.s (.int .u64 t62_2.Class.a3)), .p (i6 (t62_2.A)), .p (i6 (t62_2.B)), .p (i6 (t62_2.Least)), .p (i6 (t62_2.Most)), .p (bo (t62_2.Lazy))]), (56, rowV 73 e_api_Node x33_1_1)], ⟨[], false⟩, []⟩ (And.intro (Ix e_api_Node h62_1) (trivial)) (by kernel_rfl) ?_
      refine WX.seq ?_
      refine WX.seq ?_
      refine WC.via (α := Bool) (fun v63 => ⟨[(0, .own 56), (3, .ptr 3 0), (5, .p (i6 (((a0.length : Int))))), (6, .p (i6 (x33_1_2))), (7, .ptr 7 0), (29, .p (bo (v63)))], [(3, .box 41 [.p (slV e_api_Node a1.Nodes)]), (7, .box 73 [.p (i6 (t62_2.Kind)), .p (.s (.int .u64 t62_2.Class.a0)), .p (.s (.int .u64 t62_2.Class.a1)), .p (.s (.int .u64 t62_2.Class.a2)), .p (.s (.int .u64 t62_2.Class.a3)), .p (i6 (t62_2.A)), .p (i6 (t62_2.B)), .p (i6 (t62_2.Least)), .p (i6 (t62_2.Most)), .p (bo (t62_2.Lazy))]), (56, rowV 73 e_api_Node x33_1_1)], ⟨[], false⟩, []⟩) ((((t62_2.Kind == 3)) || ((t62_2.Kind == 4)))) (fun hk => ?_) ?_
      · rcases Bool.eq_false_or_eq_true ((t62_2.Kind == 3)) with b63_3 | b63_3
        · exact WC.reg (n := 58) hn [(3, .val (.p (bo (true))))] [0, 3, 5, 6, 7, 29] [3, 7, 56] ⟨[(0, .own 56), (3, .ptr 3 0), (5, .p (i6 (((a0.length : Int))))), (6, .p (i6 (x33_1_2))), (7, .ptr 7 0), (29, .p (bo (true)))], [(3, .box 41 [.p (slV e_api_Node a1.Nodes)]), (7, .box 73 [.p (i6 (t62_2.Kind)), .p (.s (.int .u64 t62_2.Class.a0)), .p (.s (.int .u64 t62_2.Class.a1)), .p (.s (.int .u64 t62_2.Class.a2)), .p (.s (.int .u64 t62_2.Class.a3)), .p (i6 (t62_2.A)), .p (i6 (t62_2.B)), .p (i6 (t62_2.Least)), .p (i6 (t62_2.Most)), .p (bo (t62_2.Lazy))]), (56, rowV 73 e_api_Node x33_1_1)], ⟨[], false⟩, []⟩ (And.intro (Bl b63_3) (trivial)) (by kernel_rfl) (hk true (by first | (rw [b63_3]; rfl) | simp [b63_3]))
        · exact WC.reg (n := 58) hn [(3, .val (.p (bo (false))))] [0, 3, 5, 6, 7, 29] [3, 7, 56] ⟨[(0, .own 56), (3, .ptr 3 0), (5, .p (i6 (((a0.length : Int))))), (6, .p (i6 (x33_1_2))), (7, .ptr 7 0), (29, .p (bo (((t62_2.Kind == 4)))))], [(3, .box 41 [.p (slV e_api_Node a1.Nodes)]), (7, .box 73 [.p (i6 (t62_2.Kind)), .p (.s (.int .u64 t62_2.Class.a0)), .p (.s (.int .u64 t62_2.Class.a1)), .p (.s (.int .u64 t62_2.Class.a2)), .p (.s (.int .u64 t62_2.Class.a3)), .p (i6 (t62_2.A)), .p (i6 (t62_2.B)), .p (i6 (t62_2.Least)), .p (i6 (t62_2.Most)), .p (bo (t62_2.Lazy))]), (56, rowV 73 e_api_Node x33_1_1)], ⟨[], false⟩, []⟩ (And.intro (Bl b63_3) (trivial)) (by kernel_rfl) (hk ((t62_2.Kind == 4)) (by first | (rw [b63_3]; rfl) | simp [b63_3]))
      obtain ⟨J64, eJ64, h⟩ := jn_some h
      try dsimp only at h
      refine WC.join (α := Int) (fun v64 => ⟨[(0, .own 56), (3, .ptr 3 0), (5, .p (i6 (((a0.length : Int))))), (6, .p (i6 (x33_1_2))), (7, .ptr 7 0)], [(3, .box 41 [.p (slV e_api_Node a1.Nodes)]), (7, .box 73 [.p (i6 (t62_2.Kind)), .p (.s (.int .u64 t62_2.Class.a0)), .p (.s (.int .u64 t62_2.Class.a1)), .p (.s (.int .u64 t62_2.Class.a2)), .p (.s (.int .u64 t62_2.Class.a3)), .p (i6 (t62_2.A)), .p (i6 (v64)), .p (i6 (t62_2.Least)), .p (i6 (t62_2.Most)), .p (bo (t62_2.Lazy))]), (56, rowV 73 e_api_Node x33_1_1)], ⟨[], false⟩, []⟩) (fun v64 => J64 v64 = some r) ?_ (fun hJ64 => ?_)
      · rintro y64_1 h
        rw [eJ64] at h
        try dsimp only at h
        refine WX.seq ?_
        refine WX.seq ?_
        refine WC.via (α := Bool) (fun v67 => ⟨[(0, .own 56), (3, .ptr 3 0), (5, .p (i6 (((a0.length : Int))))), (6, .p (i6 (x33_1_2))), (7, .ptr 7 0), (47, .p (bo (v67)))], [(3, .box 41 [.p (slV e_api_Node a1.Nodes)]), (7, .box 73 [.p (i6 (t62_2.Kind)), .p (.s (.int .u64 t62_2.Class.a0)), .p (.s (.int .u64 t62_2.Class.a1)), .p (.s (.int .u64 t62_2.Class.a2)), .p (.s (.int .u64 t62_2.Class.a3)), .p (i6 (t62_2.A)), .p (i6 (y64_1)), .p (i6 (t62_2.Least)), .p (i6 (t62_2.Most)), .p (bo (t62_2.Lazy))]), (56, rowV 73 e_api_Node x33_1_1)], ⟨[], false⟩, []⟩) ((((t62_2.Kind == 3)) || ((((t62_2.Kind == 4)) || ((t62_2.Kind == 5)))))) (fun hk => ?_) ?_
        · rcases Bool.eq_false_or_eq_true ((t62_2.Kind == 3)) with b67_3 | b67_3
          · exact WC.reg (n := 58) hn [(3, .val (.p (bo (true))))] [0, 3, 5, 6, 7, 47] [3, 7, 56] ⟨[(0, .own 56), (3, .ptr 3 0), (5, .p (i6 (((a0.length : Int))))), (6, .p (i6 (x33_1_2))), (7, .ptr 7 0), (47, .p (bo (true)))], [(3, .box 41 [.p (slV e_api_Node a1.Nodes)]), (7, .box 73 [.p (i6 (t62_2.Kind)), .p (.s (.int .u64 t62_2.Class.a0)), .p (.s (.int .u64 t62_2.Class.a1)), .p (.s (.int .u64 t62_2.Class.a2)), .p (.s (.int .u64 t62_2.Class.a3)), .p (i6 (t62_2.A)), .p (i6 (y64_1)), .p (i6 (t62_2.Least)), .p (i6 (t62_2.Most)), .p (bo (t62_2.Lazy))]), (56, rowV 73 e_api_Node x33_1_1)], ⟨[], false⟩, []⟩ (And.intro (Bl b67_3) (trivial)) (by kernel_rfl) (hk true (by first | (rw [b67_3]; rfl) | simp [b67_3]))
          · rcases Bool.eq_false_or_eq_true ((t62_2.Kind == 4)) with b67_8 | b67_8
            · exact WC.reg (n := 58) hn [(3, .val (.p (bo (false)))), (8, .val (.p (bo (true))))] [0, 3, 5, 6, 7, 47] [3, 7, 56] ⟨[(0, .own 56), (3, .ptr 3 0), (5, .p (i6 (((a0.length : Int))))), (6, .p (i6 (x33_1_2))), (7, .ptr 7 0), (47, .p (bo (true)))], [(3, .box 41 [.p (slV e_api_Node a1.Nodes)]), (7, .box 73 [.p (i6 (t62_2.Kind)), .p (.s (.int .u64 t62_2.Class.a0)), .p (.s (.int .u64 t62_2.Class.a1)), .p (.s (.int .u64 t62_2.Class.a2)), .p (.s (.int .u64 t62_2.Class.a3)), .p (i6 (t62_2.A)), .p (i6 (y64_1)), .p (i6 (t62_2.Least)), .p (i6 (t62_2.Most)), .p (bo (t62_2.Lazy))]), (56, rowV 73 e_api_Node x33_1_1)], ⟨[], false⟩, []⟩ (And.intro (Bl b67_3) (And.intro (Bl b67_8) (trivial))) (by kernel_rfl) (hk true (by first | (rw [b67_3, b67_8]; rfl) | simp [b67_3, b67_8]))
            · exact WC.reg (n := 58) hn [(3, .val (.p (bo (false)))), (8, .val (.p (bo (false))))] [0, 3, 5, 6, 7, 47] [3, 7, 56] ⟨[(0, .own 56), (3, .ptr 3 0), (5, .p (i6 (((a0.length : Int))))), (6, .p (i6 (x33_1_2))), (7, .ptr 7 0), (47, .p (bo (((t62_2.Kind == 5)))))], [(3, .box 41 [.p (slV e_api_Node a1.Nodes)]), (7, .box 73 [.p (i6 (t62_2.Kind)), .p (.s (.int .u64 t62_2.Class.a0)), .p (.s (.int .u64 t62_2.Class.a1)), .p (.s (.int .u64 t62_2.Class.a2)), .p (.s (.int .u64 t62_2.Class.a3)), .p (i6 (t62_2.A)), .p (i6 (y64_1)), .p (i6 (t62_2.Least)), .p (i6 (t62_2.Most)), .p (bo (t62_2.Lazy))]), (56, rowV 73 e_api_Node x33_1_1)], ⟨[], false⟩, []⟩ (And.intro (Bl b67_3) (And.intro (Bl b67_8) (trivial))) (by kernel_rfl) (hk ((t62_2.Kind == 5)) (by first | (rw [b67_3, b67_8]; rfl) | simp [b67_3, b67_8]))
        obtain ⟨J68, eJ68, h⟩ := jn_some h
        try dsimp only at h
        refine WC.join (α := Int) (fun v68 => ⟨[(0, .own 56), (3, .ptr 3 0), (5, .p (i6 (((a0.length : Int))))), (6, .p (i6 (x33_1_2))), (7, .ptr 7 0)], [(3, .box 41 [.p (slV e_api_Node a1.Nodes)]), (7, .box 73 [.p (i6 (t62_2.Kind)), .p (.s (.int .u64 t62_2.Class.a0)), .p (.s (.int .u64 t62_2.Class.a1)), .p (.s (.int .u64 t62_2.Class.a2)), .p (.s (.int .u64 t62_2.Class.a3)), .p (i6 (v68)), .p (i6 (y64_1)), .p (i6 (t62_2.Least)), .p (i6 (t62_2.Most)), .p (bo (t62_2.Lazy))]), (56, rowV 73 e_api_Node x33_1_1)], ⟨[], false⟩, []⟩) (fun v68 => J68 v68 = some r) ?_ (fun hJ68 => ?_)
        · rintro y68_1 h
          rw [eJ68] at h
          try dsimp only at h
          obtain ⟨c71_1, h⟩ := if_some h
          refine WC.reg (n := 58) hn [(3, .app (some 56) (rowV 73 e_api_Node (x33_1_1 ++ ([(api_Node.mk t62_2.Kind t62_2.Class y68_1 y64_1 t62_2.Least t62_2.Most t62_2.Lazy)]))))] [0, 3, 5, 6] [3, 56] ⟨[(0, .own 56), (3, .ptr 3 0), (5, .p (i6 (((a0.length : Int))))), (6, .p (i6 (x33_1_2)))], [(3, .box 41 [.p (slV e_api_Node a1.Nodes)]), (56, rowV 73 e_api_Node (x33_1_1 ++ ([(api_Node.mk t62_2.Kind t62_2.Class y68_1 y64_1 t62_2.Least t62_2.Most t62_2.Lazy)])))], ⟨[], false⟩, []⟩ (And.intro (Ap e_api_Node (some 56) 73 80 10 x33_1_1 ([(api_Node.mk t62_2.Kind t62_2.Class y68_1 y64_1 t62_2.Least t62_2.Most t62_2.Lazy)]) c71_1) (trivial)) (by kernel_rfl) ?_
          refine WX.popBlk ?_
          refine WC.reg (n := 58) hn [] [0, 3, 5, 6] [3, 56] ⟨[(0, .own 56), (3, .ptr 3 0), (5, .p (i6 (((a0.length : Int))))), (6, .p (i6 (((IntKind.i64.wrap (x33_1_2 + 1))))))], [(3, .box 41 [.p (slV e_api_Node a1.Nodes)]), (56, rowV 73 e_api_Node (x33_1_1 ++ ([(api_Node.mk t62_2.Kind t62_2.Class y68_1 y64_1 t62_2.Least t62_2.Most t62_2.Lazy)])))], ⟨[], false⟩, []⟩ trivial (by kernel_rfl) ?_
          exact WC.next [0, 3, 5, 6] [3, 56] (by kernel_rfl) (hnext33 (x33_1_1 ++ ([(api_Node.mk t62_2.Kind t62_2.Class y68_1 y64_1 t62_2.Least t62_2.Most t62_2.Lazy)]), (IntKind.i64.wrap (x33_1_2 + 1))) h)
        · replace hJ68 := fun y68_1 => hJ68 y68_1
          rcases if_or h with ⟨c73, h⟩ | ⟨c73, h⟩
          · refine WC.condT c73 (by kernel_rfl) ?_
            refine WC.reg (n := 58) hn [] [0, 3, 5, 6, 7] [3, 7, 56] ⟨[(0, .own 56), (3, .ptr 3 0), (5, .p (i6 (((a0.length : Int))))), (6, .p (i6 (x33_1_2))), (7, .ptr 7 0)], [(3, .box 41 [.p (slV e_api_Node a1.Nodes)]), (7, .box 73 [.p (i6 (t62_2.Kind)), .p (.s (.int .u64 t62_2.Class.a0)), .p (.s (.int .u64 t62_2.Class.a1)), .p (.s (.int .u64 t62_2.Class.a2)), .p (.s (.int .u64 t62_2.Class.a3)), .p (i6 (((IntKind.i64.wrap (t62_2.A + (a0.length : Int)))))), .p (i6 (y64_1)), .p (i6 (t62_2.Least)), .p (i6 (t62_2.Most)), .p (bo (t62_2.Lazy))]), (56, rowV 73 e_api_Node x33_1_1)], ⟨[], false⟩, []⟩ trivial (by kernel_rfl) ?_
            exact WC.keep [0, 3, 5, 6, 7] [3, 7, 56] (by kernel_rfl) (hJ68 ((IntKind.i64.wrap (t62_2.A + (a0.length : Int)))) h)
          · refine WC.condF c73 (by kernel_rfl) ?_
            refine WX.skip ?_
            exact WC.keep [0, 3, 5, 6, 7] [3, 7, 56] (by kernel_rfl) (hJ68 t62_2.A h)
      · replace hJ64 := fun y64_1 => hJ64 y64_1
        rcases if_or h with ⟨c75, h⟩ | ⟨c75, h⟩
        · refine WC.condT c75 (by kernel_rfl) ?_
          refine WC.reg (n := 58) hn [] [0, 3, 5, 6, 7] [3, 7, 56] ⟨[(0, .own 56), (3, .ptr 3 0), (5, .p (i6 (((a0.length : Int))))), (6, .p (i6 (x33_1_2))), (7, .ptr 7 0)], [(3, .box 41 [.p (slV e_api_Node a1.Nodes)]), (7, .box 73 [.p (i6 (t62_2.Kind)), .p (.s (.int .u64 t62_2.Class.a0)), .p (.s (.int .u64 t62_2.Class.a1)), .p (.s (.int .u64 t62_2.Class.a2)), .p (.s (.int .u64 t62_2.Class.a3)), .p (i6 (t62_2.A)), .p (i6 (((IntKind.i64.wrap (t62_2.B + (a0.length : Int)))))), .p (i6 (t62_2.Least)), .p (i6 (t62_2.Most)), .p (bo (t62_2.Lazy))]), (56, rowV 73 e_api_Node x33_1_1)], ⟨[], false⟩, []⟩ trivial (by kernel_rfl) ?_
          exact WC.keep [0, 3, 5, 6, 7] [3, 7, 56] (by kernel_rfl) (hJ64 ((IntKind.i64.wrap (t62_2.B + (a0.length : Int)))) h)
        · refine WC.condF c75 (by kernel_rfl) ?_
          refine WX.skip ?_
          exact WC.keep [0, 3, 5, 6, 7] [3, 7, 56] (by kernel_rfl) (hJ64 t62_2.B h)
    · refine WC.condF c61 (by kernel_rfl) ?_
      refine WX.exit ?_
      refine WX.popCodeExit ?_
      refine WC.exit_nil (hexit33 _ _ (by simp) ?_)
      refine WX.popBlkHit ?_
      exact WC.keep [0] [56] (by kernel_rfl) (hJ4 x33_1_1 h)
def riddleref05_may (k : Nat) (a0 : api_Tree) : Option (api_Tree) :=
  (riddleref05_May k a0).bind fun t2_2 => (if (!t2_2) = true then (riddleref05_Empty).bind fun t4_2 => some t4_2 else some a0)
theorem riddleref05_may_ok {k : Nat} {a0 : api_Tree} {r : api_Tree} (h : riddleref05_may k a0 = some r) : Ans Tryd.prog 70 [.agg [slV e_api_Node a0.Nodes]] (.agg [slV e_api_Node r.Nodes]) := by
  refine W_fn Tryd.func70 rfl (by kernel_rfl) (by kernel_rfl) ?_
  intro X hro hn
  unfold riddleref05_may at h
  refine WX.seq ?_
  refine WC.reg (n := 8) hn [] [1, 2] [1, 2] ⟨[(1, .ptr 1 0), (2, .ptr 2 0)], [(1, .box 41 [.p (slV e_api_Node a0.Nodes)]), (2, .box 41 [.p (.sl .nil 0 [])])], ⟨[], false⟩, []⟩ trivial (by kernel_rfl) ?_
  refine WX.seq ?_
  refine WX.seq ?_
  obtain ⟨t2_2, h2_1, h⟩ := bind_some h
  refine WC.reg (n := 8) hn [(1, .resP (bo (t2_2)))] [1, 2, 5] [1, 2] ⟨[(1, .ptr 1 0), (2, .ptr 2 0), (5, .p (bo (((!t2_2)))))], [(1, .box 41 [.p (slV e_api_Node a0.Nodes)]), (2, .box 41 [.p (.sl .nil 0 [])])], ⟨[], false⟩, []⟩ (And.intro ((riddleref05_May_ok h2_1)) (trivial)) (by kernel_rfl) ?_
  rcases if_or h with ⟨c3, h⟩ | ⟨c3, h⟩
  · refine WC.condT c3 (by kernel_rfl) ?_
    refine WX.seq ?_
    obtain ⟨t4_2, h4_1, h⟩ := bind_some h
    refine WC.reg (n := 8) hn [(0, .co [] [] [] [(6, rowV 73 e_api_Node t4_2.Nodes)] (.agg [.own 6]))] [2] [2, 6] ⟨[(2, .ptr 2 0)], [(2, .box 41 [.own 6]), (6, rowV 73 e_api_Node t4_2.Nodes)], ⟨[], false⟩, []⟩ (And.intro (And.intro ((riddleref05_Empty_ok h4_1).ren 2 6 (by kernel_rfl)) (trivial)) (trivial)) (by kernel_rfl) ?_
    refine WX.ret ?_
    exact WC.outP (by rw [← Option.some.inj h]; kernel_rfl)
  · refine WC.condF c3 (by kernel_rfl) ?_
    refine WX.skip ?_
    refine WX.seq ?_
    refine WC.reg (n := 8) hn [] [2] [2] ⟨[(2, .ptr 2 0)], [(2, .box 41 [.p (slV e_api_Node a0.Nodes)])], ⟨[], false⟩, []⟩ trivial (by kernel_rfl) ?_
    refine WX.ret ?_
    exact WC.outP (by rw [← Option.some.inj h]; kernel_rfl)
def riddleref05_Join (k : Nat) (a0 : Int) (a1 : api_Tree) (a2 : api_Tree) : Option (api_Tree) :=
  (if (((a0 != 3)) && ((a0 != 4))) = true then (riddleref05_Empty).bind fun t4_2 => some t4_2 else (riddleref05_may k a1).bind fun t5_2 => (riddleref05_placed k ([]) t5_2).bind fun t5_4 => (riddleref05_may k a2).bind fun t7_2 => (riddleref05_placed k t5_4 t7_2).bind fun t7_4 => (if okApp 80 (t7_4.length + ([(api_Node.mk a0 ((Arr4.mk 0 0 0 0)) ((IntKind.i64.wrap ((t5_4.length : Int) - 1))) ((IntKind.i64.wrap ((t7_4.length : Int) - 1))) 0 0 false)]).length) then some ((api_Tree.mk (t7_4 ++ ([(api_Node.mk a0 ((Arr4.mk 0 0 0 0)) ((IntKind.i64.wrap ((t5_4.length : Int) - 1))) ((IntKind.i64.wrap ((t7_4.length : Int) - 1))) 0 0 false)])))) else none))
theorem riddleref05_Join_ok {k : Nat} {a0 : Int} {a1 : api_Tree} {a2 : api_Tree} {r : api_Tree} (h : riddleref05_Join k a0 a1 a2 = some r) : AnsO Tryd.prog 32 [] [.p (i6 (a0)), .p (.agg [slV e_api_Node a1.Nodes]), .p (.agg [slV e_api_Node a2.Nodes])] [(15, rowV 73 e_api_Node r.Nodes)] (.agg [.own 15]) := by
  refine W_fnO [15] Tryd.func32 rfl (by kernel_rfl) (by kernel_rfl) (by kernel_rfl) (by kernel_rfl) ?_
  intro X hro hn
  unfold riddleref05_Join at h
  refine WX.seq ?_
  refine WC.reg (n := 36) hn [] [0, 4, 5, 6] [4, 5, 6] ⟨[(0, .p (i6 (a0))), (4, .ptr 4 0), (5, .ptr 5 0), (6, .ptr 6 0)], [(4, .box 41 [.p (slV e_api_Node a1.Nodes)]), (5, .box 41 [.p (slV e_api_Node a2.Nodes)]), (6, .box 41 [.p (.sl .nil 0 [])])], ⟨[], false⟩, []⟩ trivial (by kernel_rfl) ?_
  refine WX.seq ?_
  refine WX.seq ?_
  refine WC.via (α := Bool) (fun v2 => ⟨[(0, .p (i6 (a0))), (4, .ptr 4 0), (5, .ptr 5 0), (6, .ptr 6 0), (14, .p (bo (v2)))], [(4, .box 41 [.p (slV e_api_Node a1.Nodes)]), (5, .box 41 [.p (slV e_api_Node a2.Nodes)]), (6, .box 41 [.p (.sl .nil 0 [])])], ⟨[], false⟩, []⟩) ((((a0 != 3)) && ((a0 != 4)))) (fun hk => ?_) ?_
  · rcases Bool.eq_false_or_eq_true ((a0 != 3)) with b2_2 | b2_2
    · exact WC.reg (n := 36) hn [(2, .val (.p (bo (true))))] [0, 4, 5, 6, 14] [4, 5, 6] ⟨[(0, .p (i6 (a0))), (4, .ptr 4 0), (5, .ptr 5 0), (6, .ptr 6 0), (14, .p (bo (((a0 != 4)))))], [(4, .box 41 [.p (slV e_api_Node a1.Nodes)]), (5, .box 41 [.p (slV e_api_Node a2.Nodes)]), (6, .box 41 [.p (.sl .nil 0 [])])], ⟨[], false⟩, []⟩ (And.intro (Bl b2_2) (trivial)) (by kernel_rfl) (hk ((a0 != 4)) (by first | (rw [b2_2]; rfl) | simp [b2_2]))
    · exact WC.reg (n := 36) hn [(2, .val (.p (bo (false))))] [0, 4, 5, 6, 14] [4, 5, 6] ⟨[(0, .p (i6 (a0))), (4, .ptr 4 0), (5, .ptr 5 0), (6, .ptr 6 0), (14, .p (bo (false)))], [(4, .box 41 [.p (slV e_api_Node a1.Nodes)]), (5, .box 41 [.p (slV e_api_Node a2.Nodes)]), (6, .box 41 [.p (.sl .nil 0 [])])], ⟨[], false⟩, []⟩ (And.intro (Bl b2_2) (trivial)) (by kernel_rfl) (hk false (by first | (rw [b2_2]; rfl) | simp [b2_2]))
  rcases if_or h with ⟨c3, h⟩ | ⟨c3, h⟩
  · refine WC.condT c3 (by kernel_rfl) ?_
    refine WX.seq ?_
    obtain ⟨t4_2, h4_1, h⟩ := bind_some h
    refine WC.reg (n := 36) hn [(0, .co [] [] [] [(15, rowV 73 e_api_Node t4_2.Nodes)] (.agg [.own 15]))] [6] [6, 15] ⟨[(6, .ptr 6 0)], [(6, .box 41 [.own 15]), (15, rowV 73 e_api_Node t4_2.Nodes)], ⟨[], false⟩, []⟩ (And.intro (And.intro ((riddleref05_Empty_ok h4_1).ren 2 15 (by kernel_rfl)) (trivial)) (trivial)) (by kernel_rfl) ?_
    refine WX.ret ?_
    exact WC.outO (by rw [← Option.some.inj h]; kernel_rfl)
  · refine WC.condF c3 (by kernel_rfl) ?_
    refine WX.skip ?_
    refine WX.seq ?_
    obtain ⟨t5_2, h5_1, h⟩ := bind_some h
    obtain ⟨t5_4, h5_3, h⟩ := bind_some h
    refine WC.reg (n := 36) hn [(1, .resP (.agg [slV e_api_Node t5_2.Nodes])), (2, .co [0] [] [] [(18, rowV 73 e_api_Node t5_4)] (.own 18))] [0, 5, 6, 7] [5, 6, 18] ⟨[(0, .p (i6 (a0))), (5, .ptr 5 0), (6, .ptr 6 0), (7, .own 18)], [(5, .box 41 [.p (slV e_api_Node a2.Nodes)]), (6, .box 41 [.p (.sl .nil 0 [])]), (18, rowV 73 e_api_Node t5_4)], ⟨[], false⟩, []⟩ (And.intro ((riddleref05_may_ok h5_1)) (And.intro (And.intro (((riddleref05_placed_ok h5_3).nil 1000 (by kernel_rfl)).ren 56 18 (by kernel_rfl)) (trivial)) (trivial))) (by kernel_rfl) ?_
    refine WX.seq ?_
    refine WC.reg (n := 36) hn [] [0, 5, 6, 7, 8] [5, 6, 18] ⟨[(0, .p (i6 (a0))), (5, .ptr 5 0), (6, .ptr 6 0), (7, .own 18), (8, .p (i6 (((IntKind.i64.wrap ((t5_4.length : Int) - 1))))))], [(5, .box 41 [.p (slV e_api_Node a2.Nodes)]), (6, .box 41 [.p (.sl .nil 0 [])]), (18, rowV 73 e_api_Node t5_4)], ⟨[], false⟩, []⟩ trivial (by kernel_rfl) ?_
    refine WX.seq ?_
    obtain ⟨t7_2, h7_1, h⟩ := bind_some h
    obtain ⟨t7_4, h7_3, h⟩ := bind_some h
    refine WC.reg (n := 36) hn [(2, .resP (.agg [slV e_api_Node t7_2.Nodes])), (3, .co [] [18] [] [(25, rowV 73 e_api_Node t7_4)] (.own 25))] [0, 6, 7, 8] [6, 25] ⟨[(0, .p (i6 (a0))), (6, .ptr 6 0), (7, .own 25), (8, .p (i6 (((IntKind.i64.wrap ((t5_4.length : Int) - 1))))))], [(6, .box 41 [.p (.sl .nil 0 [])]), (25, rowV 73 e_api_Node t7_4)], ⟨[], false⟩, []⟩ (And.intro ((riddleref05_may_ok h7_1)) (And.intro (And.intro (((riddleref05_placed_ok h7_3).ren 1000 18 (by kernel_rfl)).ren 56 25 (by kernel_rfl)) (trivial)) (trivial))) (by kernel_rfl) ?_
    refine WX.seq ?_
    obtain ⟨c8_1, h⟩ := if_some h
    refine WC.reg (n := 36) hn [(8, .app (some 25) (rowV 73 e_api_Node (t7_4 ++ ([(api_Node.mk a0 ((Arr4.mk 0 0 0 0)) ((IntKind.i64.wrap ((t5_4.length : Int) - 1))) ((IntKind.i64.wrap ((t7_4.length : Int) - 1))) 0 0 false)]))))] [6] [6, 34] ⟨[(6, .ptr 6 0)], [(6, .box 41 [.own 34]), (34, rowV 73 e_api_Node (t7_4 ++ ([(api_Node.mk a0 ((Arr4.mk 0 0 0 0)) ((IntKind.i64.wrap ((t5_4.length : Int) - 1))) ((IntKind.i64.wrap ((t7_4.length : Int) - 1))) 0 0 false)])))], ⟨[], false⟩, []⟩ (And.intro (Ap e_api_Node (some 25) 73 80 10 t7_4 ([(api_Node.mk a0 ((Arr4.mk 0 0 0 0)) ((IntKind.i64.wrap ((t5_4.length : Int) - 1))) ((IntKind.i64.wrap ((t7_4.length : Int) - 1))) 0 0 false)]) c8_1) (trivial)) (by kernel_rfl) ?_
    refine WX.ret ?_
    refine WC.ren (n := 36) hn 34 15 (by kernel_rfl) [6] [6, 15] (st' := ⟨[(6, .ptr 6 0)], [(6, .box 41 [.own 15]), (15, rowV 73 e_api_Node (t7_4 ++ ([(api_Node.mk a0 ((Arr4.mk 0 0 0 0)) ((IntKind.i64.wrap ((t5_4.length : Int) - 1))) ((IntKind.i64.wrap ((t7_4.length : Int) - 1))) 0 0 false)])))], ⟨[], false⟩, []⟩) (by kernel_rfl) ?_
    exact WC.outO (by rw [← Option.some.inj h]; kernel_rfl)
theorem riddleref05_Join_okP {k : Nat} {a0 : Int} {a1 : api_Tree} {a2 : api_Tree} {r : api_Tree} (h : riddleref05_Join k a0 a1 a2 = some r) : Ans Tryd.prog 32 [i6 (a0), .agg [slV e_api_Node a1.Nodes], .agg [slV e_api_Node a2.Nodes]] (.agg [slV e_api_Node r.Nodes]) := AnsO.ans (args := [i6 (a0), .agg [slV e_api_Node a1.Nodes], .agg [slV e_api_Node a2.Nodes]]) (riddleref05_Join_ok h) (by kernel_rfl)
def riddleref05_Leaf (a0 : api_Node) : Option (api_Tree) :=
  (if (((a0.Kind == 3)) || ((((a0.Kind == 4)) || ((((a0.Kind == 5)) || ((((decide (a0.Kind < 1))) || ((decide (a0.Kind > 7)))))))))) = true then (riddleref05_Empty).bind fun t4_2 => some t4_2 else some ((api_Tree.mk ([(api_Node.mk a0.Kind a0.Class 0 0 a0.Least a0.Most a0.Lazy)]))))
theorem riddleref05_Leaf_ok {a0 : api_Node} {r : api_Tree} (h : riddleref05_Leaf a0 = some r) : AnsO Tryd.prog 71 [] [.p (.agg [i6 (a0.Kind), .s (.int .u64 a0.Class.a0), .s (.int .u64 a0.Class.a1), .s (.int .u64 a0.Class.a2), .s (.int .u64 a0.Class.a3), i6 (a0.A), i6 (a0.B), i6 (a0.Least), i6 (a0.Most), bo (a0.Lazy)])] [(26, rowV 73 e_api_Node r.Nodes)] (.agg [.own 26]) := by
  refine W_fnO [26] Tryd.func71 rfl (by kernel_rfl) (by kernel_rfl) (by kernel_rfl) (by kernel_rfl) ?_
  intro X hro hn
  unfold riddleref05_Leaf at h
  refine WX.seq ?_
  refine WC.reg (n := 32) hn [] [1, 2] [1, 2] ⟨[(1, .ptr 1 0), (2, .ptr 2 0)], [(1, .box 73 [.p (i6 (a0.Kind)), .p (.s (.int .u64 a0.Class.a0)), .p (.s (.int .u64 a0.Class.a1)), .p (.s (.int .u64 a0.Class.a2)), .p (.s (.int .u64 a0.Class.a3)), .p (i6 (a0.A)), .p (i6 (a0.B)), .p (i6 (a0.Least)), .p (i6 (a0.Most)), .p (bo (a0.Lazy))]), (2, .box 41 [.p (.sl .nil 0 [])])], ⟨[], false⟩, []⟩ trivial (by kernel_rfl) ?_
  refine WX.seq ?_
  refine WX.seq ?_
  refine WC.via (α := Bool) (fun v2 => ⟨[(1, .ptr 1 0), (2, .ptr 2 0), (25, .p (bo (v2)))], [(1, .box 73 [.p (i6 (a0.Kind)), .p (.s (.int .u64 a0.Class.a0)), .p (.s (.int .u64 a0.Class.a1)), .p (.s (.int .u64 a0.Class.a2)), .p (.s (.int .u64 a0.Class.a3)), .p (i6 (a0.A)), .p (i6 (a0.B)), .p (i6 (a0.Least)), .p (i6 (a0.Most)), .p (bo (a0.Lazy))]), (2, .box 41 [.p (.sl .nil 0 [])])], ⟨[], false⟩, []⟩) ((((a0.Kind == 3)) || ((((a0.Kind == 4)) || ((((a0.Kind == 5)) || ((((decide (a0.Kind < 1))) || ((decide (a0.Kind > 7))))))))))) (fun hk => ?_) ?_
  · rcases Bool.eq_false_or_eq_true ((a0.Kind == 3)) with b2_3 | b2_3
    · exact WC.reg (n := 32) hn [(3, .val (.p (bo (true))))] [1, 2, 25] [1, 2] ⟨[(1, .ptr 1 0), (2, .ptr 2 0), (25, .p (bo (true)))], [(1, .box 73 [.p (i6 (a0.Kind)), .p (.s (.int .u64 a0.Class.a0)), .p (.s (.int .u64 a0.Class.a1)), .p (.s (.int .u64 a0.Class.a2)), .p (.s (.int .u64 a0.Class.a3)), .p (i6 (a0.A)), .p (i6 (a0.B)), .p (i6 (a0.Least)), .p (i6 (a0.Most)), .p (bo (a0.Lazy))]), (2, .box 41 [.p (.sl .nil 0 [])])], ⟨[], false⟩, []⟩ (And.intro (Bl b2_3) (trivial)) (by kernel_rfl) (hk true (by first | (rw [b2_3]; rfl) | simp [b2_3]))
    · rcases Bool.eq_false_or_eq_true ((a0.Kind == 4)) with b2_8 | b2_8
      · exact WC.reg (n := 32) hn [(3, .val (.p (bo (false)))), (8, .val (.p (bo (true))))] [1, 2, 25] [1, 2] ⟨[(1, .ptr 1 0), (2, .ptr 2 0), (25, .p (bo (true)))], [(1, .box 73 [.p (i6 (a0.Kind)), .p (.s (.int .u64 a0.Class.a0)), .p (.s (.int .u64 a0.Class.a1)), .p (.s (.int .u64 a0.Class.a2)), .p (.s (.int .u64 a0.Class.a3)), .p (i6 (a0.A)), .p (i6 (a0.B)), .p (i6 (a0.Least)), .p (i6 (a0.Most)), .p (bo (a0.Lazy))]), (2, .box 41 [.p (.sl .nil 0 [])])], ⟨[], false⟩, []⟩ (And.intro (Bl b2_3) (And.intro (Bl b2_8) (trivial))) (by kernel_rfl) (hk true (by first | (rw [b2_3, b2_8]; rfl) | simp [b2_3, b2_8]))
      · rcases Bool.eq_false_or_eq_true ((a0.Kind == 5)) with b2_13 | b2_13
        · exact WC.reg (n := 32) hn [(3, .val (.p (bo (false)))), (8, .val (.p (bo (false)))), (13, .val (.p (bo (true))))] [1, 2, 25] [1, 2] ⟨[(1, .ptr 1 0), (2, .ptr 2 0), (25, .p (bo (true)))], [(1, .box 73 [.p (i6 (a0.Kind)), .p (.s (.int .u64 a0.Class.a0)), .p (.s (.int .u64 a0.Class.a1)), .p (.s (.int .u64 a0.Class.a2)), .p (.s (.int .u64 a0.Class.a3)), .p (i6 (a0.A)), .p (i6 (a0.B)), .p (i6 (a0.Least)), .p (i6 (a0.Most)), .p (bo (a0.Lazy))]), (2, .box 41 [.p (.sl .nil 0 [])])], ⟨[], false⟩, []⟩ (And.intro (Bl b2_3) (And.intro (Bl b2_8) (And.intro (Bl b2_13) (trivial)))) (by kernel_rfl) (hk true (by first | (rw [b2_3, b2_8, b2_13]; rfl) | simp [b2_3, b2_8, b2_13]))
        · rcases Bool.eq_false_or_eq_true ((decide (a0.Kind < 1))) with b2_18 | b2_18
          · exact WC.reg (n := 32) hn [(3, .val (.p (bo (false)))), (8, .val (.p (bo (false)))), (13, .val (.p (bo (false)))), (18, .val (.p (bo (true))))] [1, 2, 25] [1, 2] ⟨[(1, .ptr 1 0), (2, .ptr 2 0), (25, .p (bo (true)))], [(1, .box 73 [.p (i6 (a0.Kind)), .p (.s (.int .u64 a0.Class.a0)), .p (.s (.int .u64 a0.Class.a1)), .p (.s (.int .u64 a0.Class.a2)), .p (.s (.int .u64 a0.Class.a3)), .p (i6 (a0.A)), .p (i6 (a0.B)), .p (i6 (a0.Least)), .p (i6 (a0.Most)), .p (bo (a0.Lazy))]), (2, .box 41 [.p (.sl .nil 0 [])])], ⟨[], false⟩, []⟩ (And.intro (Bl b2_3) (And.intro (Bl b2_8) (And.intro (Bl b2_13) (And.intro (Bl b2_18) (trivial))))) (by kernel_rfl) (hk true (by first | (rw [b2_3, b2_8, b2_13, b2_18]; rfl) | simp [b2_3, b2_8, b2_13, b2_18]))
          · exact WC.reg (n := 32) hn [(3, .val (.p (bo (false)))), (8, .val (.p (bo (false)))), (13, .val (.p (bo (false)))), (18, .val (.p (bo (false))))] [1, 2, 25] [1, 2] ⟨[(1, .ptr 1 0), (2, .ptr 2 0), (25, .p (bo (((decide (a0.Kind > 7))))))], [(1, .box 73 [.p (i6 (a0.Kind)), .p (.s (.int .u64 a0.Class.a0)), .p (.s (.int .u64 a0.Class.a1)), .p (.s (.int .u64 a0.Class.a2)), .p (.s (.int .u64 a0.Class.a3)), .p (i6 (a0.A)), .p (i6 (a0.B)), .p (i6 (a0.Least)), .p (i6 (a0.Most)), .p (bo (a0.Lazy))]), (2, .box 41 [.p (.sl .nil 0 [])])], ⟨[], false⟩, []⟩ (And.intro (Bl b2_3) (And.intro (Bl b2_8) (And.intro (Bl b2_13) (And.intro (Bl b2_18) (trivial))))) (by kernel_rfl) (hk ((decide (a0.Kind > 7))) (by first | (rw [b2_3, b2_8, b2_13, b2_18]; rfl) | simp [b2_3, b2_8, b2_13, b2_18]))
  rcases if_or h with ⟨c3, h⟩ | ⟨c3, h⟩
  · refine WC.condT c3 (by kernel_rfl) ?_
    refine WX.seq ?_
    obtain ⟨t4_2, h4_1, h⟩ := bind_some h
    refine WC.reg (n := 32) hn [(0, .co [] [] [] [(26, rowV 73 e_api_Node t4_2.Nodes)] (.agg [.own 26]))] [2] [2, 26] ⟨[(2, .ptr 2 0)], [(2, .box 41 [.own 26]), (26, rowV 73 e_api_Node t4_2.Nodes)], ⟨[], false⟩, []⟩ (And.intro (And.intro ((riddleref05_Empty_ok h4_1).ren 2 26 (by kernel_rfl)) (trivial)) (trivial)) (by kernel_rfl) ?_
    refine WX.ret ?_
    exact WC.outO (by rw [← Option.some.inj h]; kernel_rfl)
  · refine WC.condF c3 (by kernel_rfl) ?_
    refine WX.skip ?_
    refine WX.seq ?_
    refine WC.reg (n := 32) hn [] [1, 2] [1, 2] ⟨[(1, .ptr 1 0), (2, .ptr 2 0)], [(1, .box 73 [.p (i6 (a0.Kind)), .p (.s (.int .u64 a0.Class.a0)), .p (.s (.int .u64 a0.Class.a1)), .p (.s (.int .u64 a0.Class.a2)), .p (.s (.int .u64 a0.Class.a3)), .p (i6 (0)), .p (i6 (a0.B)), .p (i6 (a0.Least)), .p (i6 (a0.Most)), .p (bo (a0.Lazy))]), (2, .box 41 [.p (.sl .nil 0 [])])], ⟨[], false⟩, []⟩ trivial (by kernel_rfl) ?_
    refine WX.seq ?_
    refine WC.reg (n := 32) hn [] [1, 2] [1, 2] ⟨[(1, .ptr 1 0), (2, .ptr 2 0)], [(1, .box 73 [.p (i6 (a0.Kind)), .p (.s (.int .u64 a0.Class.a0)), .p (.s (.int .u64 a0.Class.a1)), .p (.s (.int .u64 a0.Class.a2)), .p (.s (.int .u64 a0.Class.a3)), .p (i6 (0)), .p (i6 (0)), .p (i6 (a0.Least)), .p (i6 (a0.Most)), .p (bo (a0.Lazy))]), (2, .box 41 [.p (.sl .nil 0 [])])], ⟨[], false⟩, []⟩ trivial (by kernel_rfl) ?_
    refine WX.seq ?_
    refine WC.reg (n := 32) hn [] [2] [2, 30] ⟨[(2, .ptr 2 0)], [(2, .box 41 [.own 30]), (30, rowV 73 e_api_Node ([(api_Node.mk a0.Kind a0.Class 0 0 a0.Least a0.Most a0.Lazy)]))], ⟨[], false⟩, []⟩ trivial (by kernel_rfl) ?_
    refine WX.ret ?_
    refine WC.ren (n := 32) hn 30 26 (by kernel_rfl) [2] [2, 26] (st' := ⟨[(2, .ptr 2 0)], [(2, .box 41 [.own 26]), (26, rowV 73 e_api_Node ([(api_Node.mk a0.Kind a0.Class 0 0 a0.Least a0.Most a0.Lazy)]))], ⟨[], false⟩, []⟩) (by kernel_rfl) ?_
    exact WC.outO (by rw [← Option.some.inj h]; kernel_rfl)
theorem riddleref05_Leaf_okP {a0 : api_Node} {r : api_Tree} (h : riddleref05_Leaf a0 = some r) : Ans Tryd.prog 71 [.agg [i6 (a0.Kind), .s (.int .u64 a0.Class.a0), .s (.int .u64 a0.Class.a1), .s (.int .u64 a0.Class.a2), .s (.int .u64 a0.Class.a3), i6 (a0.A), i6 (a0.B), i6 (a0.Least), i6 (a0.Most), bo (a0.Lazy)]] (.agg [slV e_api_Node r.Nodes]) := AnsO.ans (args := [.agg [i6 (a0.Kind), .s (.int .u64 a0.Class.a0), .s (.int .u64 a0.Class.a1), .s (.int .u64 a0.Class.a2), .s (.int .u64 a0.Class.a3), i6 (a0.A), i6 (a0.B), i6 (a0.Least), i6 (a0.Most), bo (a0.Lazy)]]) (riddleref05_Leaf_ok h) (by kernel_rfl)
def riddlelaw11_one (a0 : Int) : Option (api_Tree) :=
  (if ¬ (a0.tmod 64) < 0 then (if 0 ≤ (IntKind.u8.wrap (a0.tdiv 64)) ∧ (IntKind.u8.wrap (a0.tdiv 64)) < 4 then (riddleref05_Leaf ((api_Node.mk 2 ((Arr4.mk ((set4 0 ((IntKind.u8.wrap (a0.tdiv 64))) ((IntKind.u64.wrap (1 * 2 ^ (min ((a0.tmod 64)).toNat IntKind.u64.bits)))) 0)) ((set4 1 ((IntKind.u8.wrap (a0.tdiv 64))) ((IntKind.u64.wrap (1 * 2 ^ (min ((a0.tmod 64)).toNat IntKind.u64.bits)))) 0)) ((set4 2 ((IntKind.u8.wrap (a0.tdiv 64))) ((IntKind.u64.wrap (1 * 2 ^ (min ((a0.tmod 64)).toNat IntKind.u64.bits)))) 0)) ((set4 3 ((IntKind.u8.wrap (a0.tdiv 64))) ((IntKind.u64.wrap (1 * 2 ^ (min ((a0.tmod 64)).toNat IntKind.u64.bits)))) 0)))) 0 0 0 0 false))).bind fun t4_2 => some t4_2 else none) else none)
theorem riddlelaw11_one_ok {a0 : Int} {r : api_Tree} (h : riddlelaw11_one a0 = some r) : AnsO Tryd.prog 33 [] [.p (.s (.int .u8 a0))] [(13, rowV 73 e_api_Node r.Nodes)] (.agg [.own 13]) := by
  refine W_fnO [13] Tryd.func33 rfl (by kernel_rfl) (by kernel_rfl) (by kernel_rfl) (by kernel_rfl) ?_
  intro X hro hn
  unfold riddlelaw11_one at h
  refine WX.seq ?_
  refine WC.reg (n := 14) hn [] [0, 2] [2] ⟨[(0, .p (.s (.int .u8 a0))), (2, .ptr 2 0)], [(2, .box 41 [.p (.sl .nil 0 [])])], ⟨[], false⟩, []⟩ trivial (by kernel_rfl) ?_
  refine WX.seq ?_
  refine WC.reg (n := 14) hn [] [0, 2, 3] [2, 3] ⟨[(0, .p (.s (.int .u8 a0))), (2, .ptr 2 0), (3, .ptr 3 0)], [(2, .box 41 [.p (.sl .nil 0 [])]), (3, .box 73 [.p (i6 (2)), .p (.s (.int .u64 0)), .p (.s (.int .u64 0)), .p (.s (.int .u64 0)), .p (.s (.int .u64 0)), .p (i6 (0)), .p (i6 (0)), .p (i6 (0)), .p (i6 (0)), .p (bo (false))])], ⟨[], false⟩, []⟩ trivial (by kernel_rfl) ?_
  refine WX.seq ?_
  obtain ⟨c3_1, h⟩ := if_some h
  obtain ⟨c3_2, h⟩ := if_some h
  refine WC.reg (n := 14) hn [(4, .val (.p (.s (.int .u64 (IntKind.u64.wrap (1 * 2 ^ (min ((a0.tmod 64)).toNat IntKind.u64.bits))))))), (6, .val (.ptr 3 (1 + ((IntKind.u8.wrap (a0.tdiv 64))).toNat * 1))), (7, .sto 3 (.box 73 [.p (i6 (2)), .p (.s (.int .u64 ((set4 0 ((IntKind.u8.wrap (a0.tdiv 64))) ((IntKind.u64.wrap (1 * 2 ^ (min ((a0.tmod 64)).toNat IntKind.u64.bits)))) 0)))), .p (.s (.int .u64 ((set4 1 ((IntKind.u8.wrap (a0.tdiv 64))) ((IntKind.u64.wrap (1 * 2 ^ (min ((a0.tmod 64)).toNat IntKind.u64.bits)))) 0)))), .p (.s (.int .u64 ((set4 2 ((IntKind.u8.wrap (a0.tdiv 64))) ((IntKind.u64.wrap (1 * 2 ^ (min ((a0.tmod 64)).toNat IntKind.u64.bits)))) 0)))), .p (.s (.int .u64 ((set4 3 ((IntKind.u8.wrap (a0.tdiv 64))) ((IntKind.u64.wrap (1 * 2 ^ (min ((a0.tmod 64)).toNat IntKind.u64.bits)))) 0)))), .p (i6 (0)), .p (i6 (0)), .p (i6 (0)), .p (i6 (0)), .p (bo (false))]))] [2, 3] [2, 3] ⟨[(2, .ptr 2 0), (3, .ptr 3 0)], [(2, .box 41 [.p (.sl .nil 0 [])]), (3, .box 73 [.p (i6 (2)), .p (.s (.int .u64 ((set4 0 ((IntKind.u8.wrap (a0.tdiv 64))) ((IntKind.u64.wrap (1 * 2 ^ (min ((a0.tmod 64)).toNat IntKind.u64.bits)))) 0)))), .p (.s (.int .u64 ((set4 1 ((IntKind.u8.wrap (a0.tdiv 64))) ((IntKind.u64.wrap (1 * 2 ^ (min ((a0.tmod 64)).toNat IntKind.u64.bits)))) 0)))), .p (.s (.int .u64 ((set4 2 ((IntKind.u8.wrap (a0.tdiv 64))) ((IntKind.u64.wrap (1 * 2 ^ (min ((a0.tmod 64)).toNat IntKind.u64.bits)))) 0)))), .p (.s (.int .u64 ((set4 3 ((IntKind.u8.wrap (a0.tdiv 64))) ((IntKind.u64.wrap (1 * 2 ^ (min ((a0.tmod 64)).toNat IntKind.u64.bits)))) 0)))), .p (i6 (0)), .p (i6 (0)), .p (i6 (0)), .p (i6 (0)), .p (bo (false))])], ⟨[], false⟩, []⟩ (And.intro (Shl .u64 1 ((a0.tmod 64)) c3_1) (And.intro (IxA4 3 1 ((IntKind.u8.wrap (a0.tdiv 64))) c3_2) (And.intro (StA4 3 73 [.p (i6 (2))] .u64 0 0 0 0 [.p (i6 (0)), .p (i6 (0)), .p (i6 (0)), .p (i6 (0)), .p (bo (false))] ((IntKind.u8.wrap (a0.tdiv 64))) ((IntKind.u64.wrap (1 * 2 ^ (min ((a0.tmod 64)).toNat IntKind.u64.bits)))) c3_2) (trivial)))) (by kernel_rfl) ?_
  refine WX.seq ?_
  obtain ⟨t4_2, h4_1, h⟩ := bind_some h
  refine WC.reg (n := 14) hn [(1, .co [] [] [] [(13, rowV 73 e_api_Node t4_2.Nodes)] (.agg [.own 13]))] [2] [2, 13] ⟨[(2, .ptr 2 0)], [(2, .box 41 [.own 13]), (13, rowV 73 e_api_Node t4_2.Nodes)], ⟨[], false⟩, []⟩ (And.intro (And.intro ((riddleref05_Leaf_ok h4_1).ren 26 13 (by kernel_rfl)) (trivial)) (trivial)) (by kernel_rfl) ?_
  refine WX.ret ?_
  exact WC.outO (by rw [← Option.some.inj h]; kernel_rfl)
theorem riddlelaw11_one_okP {a0 : Int} {r : api_Tree} (h : riddlelaw11_one a0 = some r) : Ans Tryd.prog 33 [.s (.int .u8 a0)] (.agg [slV e_api_Node r.Nodes]) := AnsO.ans (args := [.s (.int .u8 a0)]) (riddlelaw11_one_ok h) (by kernel_rfl)
def riddleref05_Repeat (k : Nat) (a0 : api_Tree) (a1 : Int) (a2 : Int) (a3 : Bool) : Option (api_Tree) :=
  (riddleref05_may k a0).bind fun t2_2 => (riddleref05_placed k ([]) t2_2).bind fun t2_4 => (if okApp 80 (t2_4.length + ([(api_Node.mk 5 ((Arr4.mk 0 0 0 0)) ((IntKind.i64.wrap ((t2_4.length : Int) - 1))) 0 a1 a2 a3)]).length) then some ((api_Tree.mk (t2_4 ++ ([(api_Node.mk 5 ((Arr4.mk 0 0 0 0)) ((IntKind.i64.wrap ((t2_4.length : Int) - 1))) 0 a1 a2 a3)])))) else none)
theorem riddleref05_Repeat_ok {k : Nat} {a0 : api_Tree} {a1 : Int} {a2 : Int} {a3 : Bool} {r : api_Tree} (h : riddleref05_Repeat k a0 a1 a2 a3 = some r) : AnsO Tryd.prog 34 [] [.p (.agg [slV e_api_Node a0.Nodes]), .p (i6 (a1)), .p (i6 (a2)), .p (bo (a3))] [(22, rowV 73 e_api_Node r.Nodes)] (.agg [.own 22]) := by
  refine W_fnO [22] Tryd.func34 rfl (by kernel_rfl) (by kernel_rfl) (by kernel_rfl) (by kernel_rfl) ?_
  intro X hro hn
  unfold riddleref05_Repeat at h
  refine WX.seq ?_
  refine WC.reg (n := 24) hn [] [1, 2, 3, 4, 8] [4, 8] ⟨[(1, .p (i6 (a1))), (2, .p (i6 (a2))), (3, .p (bo (a3))), (4, .ptr 4 0), (8, .ptr 8 0)], [(4, .box 41 [.p (slV e_api_Node a0.Nodes)]), (8, .box 41 [.p (.sl .nil 0 [])])], ⟨[], false⟩, []⟩ trivial (by kernel_rfl) ?_
  refine WX.seq ?_
  obtain ⟨t2_2, h2_1, h⟩ := bind_some h
  obtain ⟨t2_4, h2_3, h⟩ := bind_some h
  refine WC.reg (n := 24) hn [(1, .resP (.agg [slV e_api_Node t2_2.Nodes])), (2, .co [0] [] [] [(12, rowV 73 e_api_Node t2_4)] (.own 12))] [1, 2, 3, 8, 9] [8, 12] ⟨[(1, .p (i6 (a1))), (2, .p (i6 (a2))), (3, .p (bo (a3))), (8, .ptr 8 0), (9, .own 12)], [(8, .box 41 [.p (.sl .nil 0 [])]), (12, rowV 73 e_api_Node t2_4)], ⟨[], false⟩, []⟩ (And.intro ((riddleref05_may_ok h2_1)) (And.intro (And.intro (((riddleref05_placed_ok h2_3).nil 1000 (by kernel_rfl)).ren 56 12 (by kernel_rfl)) (trivial)) (trivial))) (by kernel_rfl) ?_
  refine WX.seq ?_
  obtain ⟨c3_1, h⟩ := if_some h
  refine WC.reg (n := 24) hn [(9, .app (some 12) (rowV 73 e_api_Node (t2_4 ++ ([(api_Node.mk 5 ((Arr4.mk 0 0 0 0)) ((IntKind.i64.wrap ((t2_4.length : Int) - 1))) 0 a1 a2 a3)]))))] [8] [8, 22] ⟨[(8, .ptr 8 0)], [(8, .box 41 [.own 22]), (22, rowV 73 e_api_Node (t2_4 ++ ([(api_Node.mk 5 ((Arr4.mk 0 0 0 0)) ((IntKind.i64.wrap ((t2_4.length : Int) - 1))) 0 a1 a2 a3)])))], ⟨[], false⟩, []⟩ (And.intro (Ap e_api_Node (some 12) 73 80 10 t2_4 ([(api_Node.mk 5 ((Arr4.mk 0 0 0 0)) ((IntKind.i64.wrap ((t2_4.length : Int) - 1))) 0 a1 a2 a3)]) c3_1) (trivial)) (by kernel_rfl) ?_
  refine WX.ret ?_
  exact WC.outO (by rw [← Option.some.inj h]; kernel_rfl)
theorem riddleref05_Repeat_okP {k : Nat} {a0 : api_Tree} {a1 : Int} {a2 : Int} {a3 : Bool} {r : api_Tree} (h : riddleref05_Repeat k a0 a1 a2 a3 = some r) : Ans Tryd.prog 34 [.agg [slV e_api_Node a0.Nodes], i6 (a1), i6 (a2), bo (a3)] (.agg [slV e_api_Node r.Nodes]) := AnsO.ans (args := [.agg [slV e_api_Node a0.Nodes], i6 (a1), i6 (a2), bo (a3)]) (riddleref05_Repeat_ok h) (by kernel_rfl)
def riddlelaw11_live (k : Nat)  : Option (Bool) :=
  (riddlelaw11_one 97).bind fun t2_2 => (riddlelaw11_one 98).bind fun t2_4 => (riddleref05_Repeat k t2_4 0 ((-1)) false).bind fun t2_6 => (riddleref05_Join k 3 t2_2 t2_6).bind fun t2_8 => (riddleref10_Of k t2_8).bind fun t2_10 => ((if (t2_10.2 == 0) = true then (riddlelaw11_ends k t2_10.1 ([97, 98, 98, 99]) 0).bind fun t3_2 => (slices_Equal_int_int k t3_2 ([1, 2, 3])).bind fun t3_4 => (if t3_4 = true then (riddlelaw11_events k t2_10.1 ([120, 97, 98, 97, 98]) false false).bind fun t3_6 => (slices_Equal_int_int k t3_6 ([2, 3, 4, 5])).bind fun t3_8 => some t3_8 else some false) else some false) : Option (Bool)).bind fun v3 => some v3
theorem riddlelaw11_live_ok {k : Nat}  {r : Bool} (h : riddlelaw11_live k = some r) : Ans Tryd.prog 8 [] (bo (r)) := by
  refine W_fn Tryd.func8 rfl (by kernel_rfl) (by kernel_rfl) ?_
  intro X hro hn
  unfold riddlelaw11_live at h
  refine WX.seq ?_
  refine WC.reg (n := 29) hn [] [] [] ⟨[], [], ⟨[], false⟩, []⟩ trivial (by kernel_rfl) ?_
  refine WX.seq ?_
  obtain ⟨t2_2, h2_1, h⟩ := bind_some h
  obtain ⟨t2_4, h2_3, h⟩ := bind_some h
  obtain ⟨t2_6, h2_5, h⟩ := bind_some h
  obtain ⟨t2_8, h2_7, h⟩ := bind_some h
  obtain ⟨t2_10, h2_9, h⟩ := bind_some h
  refine WC.reg (n := 29) hn [(0, .resP (.agg [slV e_api_Node t2_2.Nodes])), (1, .resP (.agg [slV e_api_Node t2_4.Nodes])), (2, .resP (.agg [slV e_api_Node t2_6.Nodes])), (3, .resP (.agg [slV e_api_Node t2_8.Nodes])), (4, .resP (.tup [.agg [sC t2_10.1.Classes, i6 (t2_10.1.First.N), sW t2_10.1.First.Words, i6 (t2_10.1.Last.N), sW t2_10.1.Last.Words, sB t2_10.1.Follow, bo (t2_10.1.Null)], i6 (t2_10.2)]))] [1, 2] [1] ⟨[(1, .ptr 1 0), (2, .p (i6 (t2_10.2)))], [(1, .box 28 [.p (sC t2_10.1.Classes), .p (i6 (t2_10.1.First.N)), .p (sW t2_10.1.First.Words), .p (i6 (t2_10.1.Last.N)), .p (sW t2_10.1.Last.Words), .p (sB t2_10.1.Follow), .p (bo (t2_10.1.Null))])], ⟨[], false⟩, []⟩ (And.intro ((riddlelaw11_one_okP h2_1)) (And.intro ((riddlelaw11_one_okP h2_3)) (And.intro ((riddleref05_Repeat_okP h2_5)) (And.intro ((riddleref05_Join_okP h2_7)) (And.intro ((riddleref10_Of_ok h2_9)) (trivial)))))) (by kernel_rfl) ?_
  refine WX.seq ?_
  obtain ⟨m3_1, g3, h⟩ := bind_some h
  refine WC.via (α := Bool) (fun v3 => ⟨[(0, .p (bo (v3)))], [], ⟨[], false⟩, []⟩) m3_1 (fun hk => ?_) ?_
  · rcases if_or g3 with ⟨b3_2, g3⟩ | ⟨b3_2, g3⟩
    · obtain ⟨t3_2, h3_1, g3⟩ := bind_some g3
      obtain ⟨t3_4, h3_3, g3⟩ := bind_some g3
      rcases if_or g3 with ⟨b3_10, g3⟩ | ⟨b3_10, g3⟩
      · obtain ⟨t3_6, h3_5, g3⟩ := bind_some g3
        obtain ⟨t3_8, h3_7, g3⟩ := bind_some g3
        exact WC.reg (n := 29) hn [(2, .val (.p (bo (true)))), (6, .co [] [] [] [(17, rowV 3 (eI .i64) t3_2)] (.own 17)), (8, .res (bo (t3_4))), (10, .val (.p (bo (true)))), (14, .co [] [] [] [(25, rowV 3 (eI .i64) t3_6)] (.own 25)), (16, .res (bo (t3_8)))] [0] [] ⟨[(0, .p (bo (t3_8)))], [], ⟨[], false⟩, []⟩ (And.intro (Bl b3_2) (And.intro (And.intro ((riddlelaw11_ends_ok h3_1).ren 21 17 (by kernel_rfl)) (trivial)) (And.intro (And.intro (slices_Equal_int_int_ok h3_3) (rfl : (bo (t3_4) : PV).flat = true)) (And.intro (Bl b3_10) (And.intro (And.intro ((riddlelaw11_events_ok h3_5).ren 24 25 (by kernel_rfl)) (trivial)) (And.intro (And.intro (slices_Equal_int_int_ok h3_7) (rfl : (bo (t3_8) : PV).flat = true)) (trivial))))))) (by kernel_rfl) (hk t3_8 (Option.some.inj g3))
      · exact WC.reg (n := 29) hn [(2, .val (.p (bo (true)))), (6, .co [] [] [] [(17, rowV 3 (eI .i64) t3_2)] (.own 17)), (8, .res (bo (t3_4))), (10, .val (.p (bo (false))))] [0] [] ⟨[(0, .p (bo (false)))], [], ⟨[], false⟩, []⟩ (And.intro (Bl b3_2) (And.intro (And.intro ((riddlelaw11_ends_ok h3_1).ren 21 17 (by kernel_rfl)) (trivial)) (And.intro (And.intro (slices_Equal_int_int_ok h3_3) (rfl : (bo (t3_4) : PV).flat = true)) (And.intro (Bl b3_10) (trivial))))) (by kernel_rfl) (hk false (Option.some.inj g3))
    · exact WC.reg (n := 29) hn [(2, .val (.p (bo (false))))] [0] [] ⟨[(0, .p (bo (false)))], [], ⟨[], false⟩, []⟩ (And.intro (Bl b3_2) (trivial)) (by kernel_rfl) (hk false (Option.some.inj g3))
  refine WX.ret ?_
  exact WC.outP (by rw [← Option.some.inj h]; kernel_rfl)
def riddlelaw11_short (a0 : (List Int)) : Option ((List Int)) :=
  (if (0 : Int) ≤ 0 ∧ 0 ≤ (minI ((a0.length : Int)) 60) ∧ (minI ((a0.length : Int)) 60) ≤ (a0.length : Nat) then some (sub_ a0 0 ((minI ((a0.length : Int)) 60))) else none)
theorem riddlelaw11_short_ok {a0 : (List Int)} {r : (List Int)} (h : riddlelaw11_short a0 = some r) : Ans Tryd.prog 9 [slV (eI .u8) a0] (slV (eI .u8) r) := by
  refine W_fn Tryd.func9 rfl (by kernel_rfl) (by kernel_rfl) ?_
  intro X hro hn
  unfold riddlelaw11_short at h
  refine WX.seq ?_
  refine WC.reg (n := 8) hn [] [0] [] ⟨[(0, .p (slV (eI .u8) a0))], [], ⟨[], false⟩, []⟩ trivial (by kernel_rfl) ?_
  refine WX.seq ?_
  obtain ⟨c2_1, h⟩ := if_some h
  refine WC.reg (n := 8) hn [(4, .val (.p (slV (eI .u8) (sub_ a0 0 ((minI ((a0.length : Int)) 60))))))] [2] [] ⟨[(2, .p (slV (eI .u8) (sub_ a0 0 ((minI ((a0.length : Int)) 60)))))], [], ⟨[], false⟩, []⟩ (And.intro (Sl (eI .u8) a0 0 ((minI ((a0.length : Int)) 60)) c2_1) (trivial)) (by kernel_rfl) ?_
  refine WX.ret ?_
  exact WC.outP (by rw [← Option.some.inj h]; kernel_rfl)
def nfa_state (k : Nat) (a0 : api_Nfa) (a1 : api_Bits) : Option (api_Bits) :=
  (bits_Check a1).bind fun t2_2 => (if (((t2_2 != 0)) || ((a1.N != (a0.Classes.length : Int)))) = true then (nfa_None k a0).bind fun t4_2 => some t4_2 else some a1)
theorem nfa_state_ok {k : Nat} {a0 : api_Nfa} {a1 : api_Bits} {r : api_Bits} (h : nfa_state k a0 a1 = some r) : Ans Tryd.prog 52 [.agg [sC a0.Classes, i6 (a0.First.N), sW a0.First.Words, i6 (a0.Last.N), sW a0.Last.Words, sB a0.Follow, bo (a0.Null)], .agg [i6 (a1.N), sW a1.Words]] (.agg [i6 (r.N), sW r.Words]) := by
  refine W_fn Tryd.func52 rfl (by kernel_rfl) (by kernel_rfl) ?_
  intro X hro hn
  unfold nfa_state at h
  refine WX.seq ?_
  refine WC.reg (n := 19) hn [] [2, 3, 4] [2, 3, 4] ⟨[(2, .ptr 2 0), (3, .ptr 3 0), (4, .ptr 4 0)], [(2, .box 28 [.p (sC a0.Classes), .p (i6 (a0.First.N)), .p (sW a0.First.Words), .p (i6 (a0.Last.N)), .p (sW a0.Last.Words), .p (sB a0.Follow), .p (bo (a0.Null))]), (3, .box 25 [.p (i6 (a1.N)), .p (sW a1.Words)]), (4, .box 25 [.p (i6 (0)), .p (.sl .nil 0 [])])], ⟨[], false⟩, []⟩ trivial (by kernel_rfl) ?_
  refine WX.seq ?_
  refine WX.seq ?_
  obtain ⟨t2_2, h2_1, h⟩ := bind_some h
  refine WC.via (α := Bool) (fun v2 => ⟨[(2, .ptr 2 0), (3, .ptr 3 0), (4, .ptr 4 0), (15, .p (bo (v2)))], [(2, .box 28 [.p (sC a0.Classes), .p (i6 (a0.First.N)), .p (sW a0.First.Words), .p (i6 (a0.Last.N)), .p (sW a0.Last.Words), .p (sB a0.Follow), .p (bo (a0.Null))]), (3, .box 25 [.p (i6 (a1.N)), .p (sW a1.Words)]), (4, .box 25 [.p (i6 (0)), .p (.sl .nil 0 [])])], ⟨[], false⟩, []⟩) ((((t2_2 != 0)) || ((a1.N != (a0.Classes.length : Int))))) (fun hk => ?_) ?_
  · rcases Bool.eq_false_or_eq_true ((t2_2 != 0)) with b2_3 | b2_3
    · exact WC.reg (n := 19) hn [(1, .resP (i6 (t2_2))), (3, .val (.p (bo (true))))] [2, 3, 4, 15] [2, 3, 4] ⟨[(2, .ptr 2 0), (3, .ptr 3 0), (4, .ptr 4 0), (15, .p (bo (true)))], [(2, .box 28 [.p (sC a0.Classes), .p (i6 (a0.First.N)), .p (sW a0.First.Words), .p (i6 (a0.Last.N)), .p (sW a0.Last.Words), .p (sB a0.Follow), .p (bo (a0.Null))]), (3, .box 25 [.p (i6 (a1.N)), .p (sW a1.Words)]), (4, .box 25 [.p (i6 (0)), .p (.sl .nil 0 [])])], ⟨[], false⟩, []⟩ (And.intro ((bits_Check_ok h2_1)) (And.intro (Bl b2_3) (trivial))) (by kernel_rfl) (hk true (by first | (rw [b2_3]; rfl) | simp [b2_3]))
    · exact WC.reg (n := 19) hn [(1, .resP (i6 (t2_2))), (3, .val (.p (bo (false))))] [2, 3, 4, 15] [2, 3, 4] ⟨[(2, .ptr 2 0), (3, .ptr 3 0), (4, .ptr 4 0), (15, .p (bo (((a1.N != (a0.Classes.length : Int))))))], [(2, .box 28 [.p (sC a0.Classes), .p (i6 (a0.First.N)), .p (sW a0.First.Words), .p (i6 (a0.Last.N)), .p (sW a0.Last.Words), .p (sB a0.Follow), .p (bo (a0.Null))]), (3, .box 25 [.p (i6 (a1.N)), .p (sW a1.Words)]), (4, .box 25 [.p (i6 (0)), .p (.sl .nil 0 [])])], ⟨[], false⟩, []⟩ (And.intro ((bits_Check_ok h2_1)) (And.intro (Bl b2_3) (trivial))) (by kernel_rfl) (hk ((a1.N != (a0.Classes.length : Int))) (by first | (rw [b2_3]; rfl) | simp [b2_3]))
  rcases if_or h with ⟨c3, h⟩ | ⟨c3, h⟩
  · refine WC.condT c3 (by kernel_rfl) ?_
    refine WX.seq ?_
    obtain ⟨t4_2, h4_1, h⟩ := bind_some h
    refine WC.reg (n := 19) hn [(1, .co [] [] [] [(17, rowV 69 (eI .u64) t4_2.Words)] (.agg [.p (i6 (t4_2.N)), .own 17]))] [4] [4, 17] ⟨[(4, .ptr 4 0)], [(4, .box 25 [.p (i6 (t4_2.N)), .own 17]), (17, rowV 69 (eI .u64) t4_2.Words)], ⟨[], false⟩, []⟩ (And.intro (And.intro ((nfa_None_ok h4_1).ren 10 17 (by kernel_rfl)) (trivial)) (trivial)) (by kernel_rfl) ?_
    refine WX.ret ?_
    exact WC.outP (by rw [← Option.some.inj h]; kernel_rfl)
  · refine WC.condF c3 (by kernel_rfl) ?_
    refine WX.skip ?_
    refine WX.seq ?_
    refine WC.reg (n := 19) hn [] [4] [4] ⟨[(4, .ptr 4 0)], [(4, .box 25 [.p (i6 (a1.N)), .p (sW a1.Words)])], ⟨[], false⟩, []⟩ trivial (by kernel_rfl) ?_
    refine WX.ret ?_
    exact WC.outP (by rw [← Option.some.inj h]; kernel_rfl)
def nfa_Run_l0 (a2 : (List Int)) (t2_2 : api_Nfa) (J5 : (Int × List Int) → Option (api_Bits)) : Nat → (Int × Int × List Int) → Option (api_Bits)
  | 0, _ => none
  | k + 1, (x18_1_1, x18_1_2, x18_1_3) => (if (decide (x18_1_1 < (a2.length : Int))) = true then (at_ a2 x18_1_1).bind fun t31_2 => (nfa_step k t2_2 ((api_Bits.mk x18_1_2 x18_1_3)) false t31_2).bind fun t32_2 => nfa_Run_l0 a2 t2_2 J5 k ((IntKind.i64.wrap (x18_1_1 + 1)), t32_2.N, t32_2.Words) else J5 (x18_1_2, x18_1_3))
def nfa_Run (k : Nat) (a0 : api_Nfa) (a1 : api_Bits) (a2 : (List Int)) : Option (api_Bits) :=
  (nfa_may k a0).bind fun t2_2 => (nfa_state k t2_2 a1).bind fun t3_2 => jn (fun (v5 : Int × List Int) => some ((api_Bits.mk v5.1 v5.2))) fun J5 => nfa_Run_l0 a2 t2_2 J5 k (0, t3_2.N, t3_2.Words)
theorem nfa_Run_ok {k : Nat} {a0 : api_Nfa} {a1 : api_Bits} {a2 : (List Int)} {r : api_Bits} (h : nfa_Run k a0 a1 a2 = some r) : Ans Tryd.prog 17 [.agg [sC a0.Classes, i6 (a0.First.N), sW a0.First.Words, i6 (a0.Last.N), sW a0.Last.Words, sB a0.Follow, bo (a0.Null)], .agg [i6 (a1.N), sW a1.Words], slV (eI .u8) a2] (.agg [i6 (r.N), sW r.Words]) := by
  refine W_fn Tryd.func17 rfl (by kernel_rfl) (by kernel_rfl) ?_
  intro X hro hn
  unfold nfa_Run at h
  refine WX.seq ?_
  refine WC.reg (n := 26) hn [] [2, 3, 4, 6] [3, 4, 6] ⟨[(2, .p (slV (eI .u8) a2)), (3, .ptr 3 0), (4, .ptr 4 0), (6, .ptr 6 0)], [(3, .box 28 [.p (sC a0.Classes), .p (i6 (a0.First.N)), .p (sW a0.First.Words), .p (i6 (a0.Last.N)), .p (sW a0.Last.Words), .p (sB a0.Follow), .p (bo (a0.Null))]), (4, .box 25 [.p (i6 (a1.N)), .p (sW a1.Words)]), (6, .box 25 [.p (i6 (0)), .p (.sl .nil 0 [])])], ⟨[], false⟩, []⟩ trivial (by kernel_rfl) ?_
  refine WX.seq ?_
  obtain ⟨t2_2, h2_1, h⟩ := bind_some h
  refine WC.reg (n := 26) hn [(1, .resP (.agg [sC t2_2.Classes, i6 (t2_2.First.N), sW t2_2.First.Words, i6 (t2_2.Last.N), sW t2_2.Last.Words, sB t2_2.Follow, bo (t2_2.Null)]))] [2, 3, 4, 6] [3, 4, 6] ⟨[(2, .p (slV (eI .u8) a2)), (3, .ptr 3 0), (4, .ptr 4 0), (6, .ptr 6 0)], [(3, .box 28 [.p (sC t2_2.Classes), .p (i6 (t2_2.First.N)), .p (sW t2_2.First.Words), .p (i6 (t2_2.Last.N)), .p (sW t2_2.Last.Words), .p (sB t2_2.Follow), .p (bo (t2_2.Null))]), (4, .box 25 [.p (i6 (a1.N)), .p (sW a1.Words)]), (6, .box 25 [.p (i6 (0)), .p (.sl .nil 0 [])])], ⟨[], false⟩, []⟩ (And.intro ((nfa_may_ok h2_1)) (trivial)) (by kernel_rfl) ?_
  refine WX.seq ?_
  obtain ⟨t3_2, h3_1, h⟩ := bind_some h
  refine WC.reg (n := 26) hn [(2, .resP (.agg [i6 (t3_2.N), sW t3_2.Words]))] [2, 3, 4, 6] [3, 4, 6] ⟨[(2, .p (slV (eI .u8) a2)), (3, .ptr 3 0), (4, .ptr 4 0), (6, .ptr 6 0)], [(3, .box 28 [.p (sC t2_2.Classes), .p (i6 (t2_2.First.N)), .p (sW t2_2.First.Words), .p (i6 (t2_2.Last.N)), .p (sW t2_2.Last.Words), .p (sB t2_2.Follow), .p (bo (t2_2.Null))]), (4, .box 25 [.p (i6 (t3_2.N)), .p (sW t3_2.Words)]), (6, .box 25 [.p (i6 (0)), .p (.sl .nil 0 [])])], ⟨[], false⟩, []⟩ (And.intro ((nfa_state_ok h3_1)) (trivial)) (by kernel_rfl) ?_
  refine WX.seq ?_
  refine WX.seq ?_
  refine WC.reg (n := 26) hn [] [3, 4, 6, 14, 15, 16] [3, 4, 6] ⟨[(3, .ptr 3 0), (4, .ptr 4 0), (6, .ptr 6 0), (14, .p (slV (eI .u8) a2)), (15, .p (i6 (((a2.length : Int))))), (16, .p (i6 (0)))], [(3, .box 28 [.p (sC t2_2.Classes), .p (i6 (t2_2.First.N)), .p (sW t2_2.First.Words), .p (i6 (t2_2.Last.N)), .p (sW t2_2.Last.Words), .p (sB t2_2.Follow), .p (bo (t2_2.Null))]), (4, .box 25 [.p (i6 (t3_2.N)), .p (sW t3_2.Words)]), (6, .box 25 [.p (i6 (0)), .p (.sl .nil 0 [])])], ⟨[], false⟩, []⟩ trivial (by kernel_rfl) ?_
  obtain ⟨J5, eJ5, h⟩ := jn_some h
  try dsimp only at h
  refine WC.join (α := Int × List Int) (fun v5 => ⟨[(4, .ptr 4 0), (6, .ptr 6 0)], [(4, .box 25 [.p (i6 (v5.1)), .p (sW v5.2)]), (6, .box 25 [.p (i6 (0)), .p (.sl .nil 0 [])])], ⟨[], false⟩, []⟩) (fun v5 => J5 v5 = some r) ?_ (fun hJ5 => ?_)
  · rintro ⟨y5_1, y5_2⟩ h
    rw [eJ5] at h
    try dsimp only at h
    refine WX.seq ?_
    refine WC.reg (n := 26) hn [] [6] [6] ⟨[(6, .ptr 6 0)], [(6, .box 25 [.p (i6 (y5_1)), .p (sW y5_2)])], ⟨[], false⟩, []⟩ trivial (by kernel_rfl) ?_
    refine WX.ret ?_
    exact WC.outP (by rw [← Option.some.inj h]; kernel_rfl)
  · replace hJ5 := fun y5_1 y5_2 => hJ5 (y5_1, y5_2)
    refine WX.block ?_
    refine WC.loop (V := Int × Int × List Int) (nfa_Run_l0 a2 t2_2 J5) r (fun v18 => ⟨[(3, .ptr 3 0), (4, .ptr 4 0), (6, .ptr 6 0), (14, .p (slV (eI .u8) a2)), (15, .p (i6 (((a2.length : Int))))), (16, .p (i6 (v18.1)))], [(3, .box 28 [.p (sC t2_2.Classes), .p (i6 (t2_2.First.N)), .p (sW t2_2.First.Words), .p (i6 (t2_2.Last.N)), .p (sW t2_2.Last.Words), .p (sB t2_2.Follow), .p (bo (t2_2.Null))]), (4, .box 25 [.p (i6 (v18.2.1)), .p (sW v18.2.2)]), (6, .box 25 [.p (i6 (0)), .p (.sl .nil 0 [])])], ⟨[], false⟩, []⟩) _ (0, t3_2.N, t3_2.Words) h (fun _ => rfl) [3, 4, 6, 14, 15, 16] [3, 4, 6] (by kernel_rfl) ?_
    clear h; rintro k ⟨x18_1_1, x18_1_2, x18_1_3⟩ h K18 hnext18 hexit18
    rw [nfa_Run_l0] at h
    refine WX.seq ?_
    refine WC.reg (n := 26) hn [] [3, 4, 6, 14, 15, 16, 17] [3, 4, 6] ⟨[(3, .ptr 3 0), (4, .ptr 4 0), (6, .ptr 6 0), (14, .p (slV (eI .u8) a2)), (15, .p (i6 (((a2.length : Int))))), (16, .p (i6 (x18_1_1))), (17, .p (bo (((decide (x18_1_1 < (a2.length : Int)))))))], [(3, .box 28 [.p (sC t2_2.Classes), .p (i6 (t2_2.First.N)), .p (sW t2_2.First.Words), .p (i6 (t2_2.Last.N)), .p (sW t2_2.Last.Words), .p (sB t2_2.Follow), .p (bo (t2_2.Null))]), (4, .box 25 [.p (i6 (x18_1_2)), .p (sW x18_1_3)]), (6, .box 25 [.p (i6 (0)), .p (.sl .nil 0 [])])], ⟨[], false⟩, []⟩ trivial (by kernel_rfl) ?_
    refine WX.seq ?_
    rcases if_or h with ⟨c30, h⟩ | ⟨c30, h⟩
    · refine WC.condT c30 (by kernel_rfl) ?_
      refine WX.skip ?_
      refine WX.seq ?_
      refine WX.block ?_
      refine WX.seq ?_
      obtain ⟨t31_2, h31_1, h⟩ := bind_some h
      refine WC.reg (n := 26) hn [(0, .val (.p (.rop ((eI .u8).cells t31_2 ++ encL (eI .u8) (a2.drop (x18_1_1.toNat + 1))))))] [3, 4, 6, 8, 14, 15, 16] [3, 4, 6] ⟨[(3, .ptr 3 0), (4, .ptr 4 0), (6, .ptr 6 0), (8, .p (.s (.int .u8 t31_2))), (14, .p (slV (eI .u8) a2)), (15, .p (i6 (((a2.length : Int))))), (16, .p (i6 (x18_1_1)))], [(3, .box 28 [.p (sC t2_2.Classes), .p (i6 (t2_2.First.N)), .p (sW t2_2.First.Words), .p (i6 (t2_2.Last.N)), .p (sW t2_2.Last.Words), .p (sB t2_2.Follow), .p (bo (t2_2.Null))]), (4, .box 25 [.p (i6 (x18_1_2)), .p (sW x18_1_3)]), (6, .box 25 [.p (i6 (0)), .p (.sl .nil 0 [])])], ⟨[], false⟩, []⟩ (And.intro (Ix (eI .u8) h31_1) (trivial)) (by kernel_rfl) ?_
      obtain ⟨t32_2, h32_1, h⟩ := bind_some h
      refine WC.reg (n := 26) hn [(3, .co [] [] [] [(23, rowV 69 (eI .u64) t32_2.Words)] (.agg [.p (i6 (t32_2.N)), .own 23]))] [3, 4, 6, 14, 15, 16] [3, 4, 6, 23] ⟨[(3, .ptr 3 0), (4, .ptr 4 0), (6, .ptr 6 0), (14, .p (slV (eI .u8) a2)), (15, .p (i6 (((a2.length : Int))))), (16, .p (i6 (x18_1_1)))], [(3, .box 28 [.p (sC t2_2.Classes), .p (i6 (t2_2.First.N)), .p (sW t2_2.First.Words), .p (i6 (t2_2.Last.N)), .p (sW t2_2.Last.Words), .p (sB t2_2.Follow), .p (bo (t2_2.Null))]), (4, .box 25 [.p (i6 (t32_2.N)), .own 23]), (6, .box 25 [.p (i6 (0)), .p (.sl .nil 0 [])]), (23, rowV 69 (eI .u64) t32_2.Words)], ⟨[], false⟩, []⟩ (And.intro (And.intro ((nfa_step_ok h32_1).ren 31 23 (by kernel_rfl)) (trivial)) (trivial)) (by kernel_rfl) ?_
      refine WX.popBlk ?_
      refine WC.reg (n := 26) hn [] [3, 4, 6, 14, 15, 16] [3, 4, 6, 23] ⟨[(3, .ptr 3 0), (4, .ptr 4 0), (6, .ptr 6 0), (14, .p (slV (eI .u8) a2)), (15, .p (i6 (((a2.length : Int))))), (16, .p (i6 (((IntKind.i64.wrap (x18_1_1 + 1))))))], [(3, .box 28 [.p (sC t2_2.Classes), .p (i6 (t2_2.First.N)), .p (sW t2_2.First.Words), .p (i6 (t2_2.Last.N)), .p (sW t2_2.Last.Words), .p (sB t2_2.Follow), .p (bo (t2_2.Null))]), (4, .box 25 [.p (i6 (t32_2.N)), .own 23]), (6, .box 25 [.p (i6 (0)), .p (.sl .nil 0 [])]), (23, rowV 69 (eI .u64) t32_2.Words)], ⟨[], false⟩, []⟩ trivial (by kernel_rfl) ?_
      refine WC.frz 23 (st' := ⟨[(3, .ptr 3 0), (4, .ptr 4 0), (6, .ptr 6 0), (14, .p (slV (eI .u8) a2)), (15, .p (i6 (((a2.length : Int))))), (16, .p (i6 (((IntKind.i64.wrap (x18_1_1 + 1))))))], [(3, .box 28 [.p (sC t2_2.Classes), .p (i6 (t2_2.First.N)), .p (sW t2_2.First.Words), .p (i6 (t2_2.Last.N)), .p (sW t2_2.Last.Words), .p (sB t2_2.Follow), .p (bo (t2_2.Null))]), (4, .box 25 [.p (i6 (t32_2.N)), .p (sW t32_2.Words)]), (6, .box 25 [.p (i6 (0)), .p (.sl .nil 0 [])])], ⟨[], false⟩, []⟩) (by kernel_rfl) ?_
      exact WC.next [3, 4, 6, 14, 15, 16] [3, 4, 6] (by kernel_rfl) (hnext18 ((IntKind.i64.wrap (x18_1_1 + 1)), t32_2.N, t32_2.Words) h)
    · refine WC.condF c30 (by kernel_rfl) ?_
      refine WX.exit ?_
      refine WX.popCodeExit ?_
      refine WC.exit_nil (hexit18 _ _ (by simp) ?_)
      refine WX.popBlkHit ?_
      exact WC.keep [4, 6] [4, 6] (by kernel_rfl) (hJ5 x18_1_2 x18_1_3 h)
def slices_Clone_byte_byte (a0 : (List Int)) : Option ((List Int)) :=
  (if okApp 1 (([] : List Int).length + a0.length) then some (([] : List Int) ++ a0) else none)
theorem slices_Clone_byte_byte_ok {a0 : (List Int)} {r : (List Int)} (h : slices_Clone_byte_byte a0 = some r) : AnsO Tryd.prog 18 [] [.p (slV (eI .u8) a0)] [(7, rowV 5 (eI .u8) r)] (.own 7) := by
  refine W_fnO [7] Tryd.func18 rfl (by kernel_rfl) (by kernel_rfl) (by kernel_rfl) (by kernel_rfl) ?_
  intro X hro hn
  unfold slices_Clone_byte_byte at h
  refine WX.seq ?_
  refine WC.reg (n := 8) hn [] [0] [] ⟨[(0, .p (slV (eI .u8) a0))], [], ⟨[], false⟩, []⟩ trivial (by kernel_rfl) ?_
  refine WX.seq ?_
  refine WX.seq ?_
  refine WC.nilCase (E := (eI .u8)) (l := a0) 0 (by kernel_rfl) (fun hnil => ?_) ?_
  · have h1 : (some (([] : List Int))) = some r := by rw [hnil] at h; clear hnil; simp at h ⊢; first | exact h.2 | exact h | simp_all
    replace h := h1
    refine WC.keep [0] [] (st' := ⟨[(0, .p (.sl .isnil a0.length (encL (eI .u8) a0)))], [], ⟨[], false⟩, []⟩) (by kernel_rfl) ?_
    refine WC.reg (n := 8) hn [] [0, 4] [] ⟨[(0, .p (.sl .isnil a0.length (encL (eI .u8) a0))), (4, .p (bo (true)))], [], ⟨[], false⟩, []⟩ trivial (by kernel_rfl) ?_
    refine WC.tag [0] [] [0, 4] [] (st' := ⟨[(0, .p (slV (eI .u8) a0)), (4, .p (bo (true)))], [], ⟨[], false⟩, []⟩) (by kernel_rfl) ?_
    refine WC.condT rfl (by kernel_rfl) ?_
    refine WX.seq ?_
    refine WC.reg (n := 8) hn [] [2] [] ⟨[(2, .p (.sl .nil 0 []))], [], ⟨[], false⟩, []⟩ trivial (by kernel_rfl) ?_
    refine WX.ret ?_
    refine WC.nil (n := 8) hn [2] none 7 5 1 (by kernel_rfl) [2] [7] (st' := ⟨[(2, .own 7)], [(7, rowV 5 (eI .u8) (([] : List Int)))], ⟨[], false⟩, []⟩) (by kernel_rfl) ?_
    exact WC.outO (by rw [← Option.some.inj h]; kernel_rfl)
  · refine WC.keep [0] [] (st' := ⟨[(0, .p (.sl .nn a0.length (encL (eI .u8) a0)))], [], ⟨[], false⟩, []⟩) (by kernel_rfl) ?_
    refine WC.reg (n := 8) hn [] [0, 4] [] ⟨[(0, .p (.sl .nn a0.length (encL (eI .u8) a0))), (4, .p (bo (false)))], [], ⟨[], false⟩, []⟩ trivial (by kernel_rfl) ?_
    refine WC.tag [0] [] [0, 4] [] (st' := ⟨[(0, .p (slV (eI .u8) a0)), (4, .p (bo (false)))], [], ⟨[], false⟩, []⟩) (by kernel_rfl) ?_
    refine WC.condF rfl (by kernel_rfl) ?_
    refine WX.skip ?_
    refine WX.seq ?_
    obtain ⟨c6_1, h⟩ := if_some h
    refine WC.reg (n := 8) hn [(2, .app (some 5) (rowV 5 (eI .u8) (([] : List Int) ++ a0)))] [2] [7] ⟨[(2, .own 7)], [(7, rowV 5 (eI .u8) (([] : List Int) ++ a0))], ⟨[], false⟩, []⟩ (And.intro (ApS (eI .u8) (some 5) 5 1 ([] : List Int) a0 c6_1) (trivial)) (by kernel_rfl) ?_
    refine WX.ret ?_
    exact WC.outO (by rw [← Option.some.inj h]; kernel_rfl)
theorem slices_Clone_byte_byte_okP {a0 : (List Int)} {r : (List Int)} (h : slices_Clone_byte_byte a0 = some r) : Ans Tryd.prog 18 [slV (eI .u8) a0] (slV (eI .u8) r) := AnsO.ans (args := [slV (eI .u8) a0]) (slices_Clone_byte_byte_ok h) (by kernel_rfl)
def riddleref01_Exact_l0 (a0 : api_Bits) (a1 : api_Bits) (J6 : Unit → Option (Bool)) : Nat → Int → Option (Bool)
  | 0, _ => none
  | k + 1, x21_1_1 => (if (decide (x21_1_1 < (a0.Words.length : Int))) = true then (at_ a0.Words x21_1_1).bind fun t36_2 => (at_ a1.Words x21_1_1).bind fun t36_4 => (if (t36_2 != t36_4) = true then some false else riddleref01_Exact_l0 a0 a1 J6 k ((IntKind.i64.wrap (x21_1_1 + 1)))) else J6 ())
def riddleref01_Exact (k : Nat) (a0 : api_Bits) (a1 : api_Bits) : Option (Bool) :=
  (if (((a0.N != a1.N)) || (((a0.Words.length : Int) != (a1.Words.length : Int)))) = true then some false else jn (fun (v6 : Unit) => some true) fun J6 => riddleref01_Exact_l0 a0 a1 J6 k 0)
theorem riddleref01_Exact_ok {k : Nat} {a0 : api_Bits} {a1 : api_Bits} {r : Bool} (h : riddleref01_Exact k a0 a1 = some r) : Ans Tryd.prog 19 [.agg [i6 (a0.N), sW a0.Words], .agg [i6 (a1.N), sW a1.Words]] (bo (r)) := by
  refine W_fn Tryd.func19 rfl (by kernel_rfl) (by kernel_rfl) ?_
  intro X hro hn
  unfold riddleref01_Exact at h
  refine WX.seq ?_
  refine WC.reg (n := 38) hn [] [2, 3] [2, 3] ⟨[(2, .ptr 2 0), (3, .ptr 3 0)], [(2, .box 25 [.p (i6 (a0.N)), .p (sW a0.Words)]), (3, .box 25 [.p (i6 (a1.N)), .p (sW a1.Words)])], ⟨[], false⟩, []⟩ trivial (by kernel_rfl) ?_
  refine WX.seq ?_
  refine WX.seq ?_
  refine WC.via (α := Bool) (fun v2 => ⟨[(2, .ptr 2 0), (3, .ptr 3 0), (19, .p (bo (v2)))], [(2, .box 25 [.p (i6 (a0.N)), .p (sW a0.Words)]), (3, .box 25 [.p (i6 (a1.N)), .p (sW a1.Words)])], ⟨[], false⟩, []⟩) ((((a0.N != a1.N)) || (((a0.Words.length : Int) != (a1.Words.length : Int))))) (fun hk => ?_) ?_
  · rcases Bool.eq_false_or_eq_true ((a0.N != a1.N)) with b2_5 | b2_5
    · exact WC.reg (n := 38) hn [(5, .val (.p (bo (true))))] [2, 3, 19] [2, 3] ⟨[(2, .ptr 2 0), (3, .ptr 3 0), (19, .p (bo (true)))], [(2, .box 25 [.p (i6 (a0.N)), .p (sW a0.Words)]), (3, .box 25 [.p (i6 (a1.N)), .p (sW a1.Words)])], ⟨[], false⟩, []⟩ (And.intro (Bl b2_5) (trivial)) (by kernel_rfl) (hk true (by first | (rw [b2_5]; rfl) | simp [b2_5]))
    · exact WC.reg (n := 38) hn [(5, .val (.p (bo (false))))] [2, 3, 19] [2, 3] ⟨[(2, .ptr 2 0), (3, .ptr 3 0), (19, .p (bo ((((a0.Words.length : Int) != (a1.Words.length : Int))))))], [(2, .box 25 [.p (i6 (a0.N)), .p (sW a0.Words)]), (3, .box 25 [.p (i6 (a1.N)), .p (sW a1.Words)])], ⟨[], false⟩, []⟩ (And.intro (Bl b2_5) (trivial)) (by kernel_rfl) (hk (((a0.Words.length : Int) != (a1.Words.length : Int))) (by first | (rw [b2_5]; rfl) | simp [b2_5]))
  rcases if_or h with ⟨c3, h⟩ | ⟨c3, h⟩
  · refine WC.condT c3 (by kernel_rfl) ?_
    refine WX.seq ?_
    refine WC.reg (n := 38) hn [] [4] [] ⟨[(4, .p (bo (false)))], [], ⟨[], false⟩, []⟩ trivial (by kernel_rfl) ?_
    refine WX.ret ?_
    exact WC.outP (by rw [← Option.some.inj h]; kernel_rfl)
  · refine WC.condF c3 (by kernel_rfl) ?_
    refine WX.skip ?_
    refine WX.seq ?_
    refine WX.seq ?_
    refine WC.reg (n := 38) hn [] [2, 3, 5] [2, 3] ⟨[(2, .ptr 2 0), (3, .ptr 3 0), (5, .p (i6 (0)))], [(2, .box 25 [.p (i6 (a0.N)), .p (sW a0.Words)]), (3, .box 25 [.p (i6 (a1.N)), .p (sW a1.Words)])], ⟨[], false⟩, []⟩ trivial (by kernel_rfl) ?_
    obtain ⟨J6, eJ6, h⟩ := jn_some h
    try dsimp only at h
    refine WC.join (α := Unit) (fun v6 => ⟨[], [], ⟨[], false⟩, []⟩) (fun v6 => J6 v6 = some r) ?_ (fun hJ6 => ?_)
    · rintro _ h
      rw [eJ6] at h
      try dsimp only at h
      refine WX.seq ?_
      refine WC.reg (n := 38) hn [] [4] [] ⟨[(4, .p (bo (true)))], [], ⟨[], false⟩, []⟩ trivial (by kernel_rfl) ?_
      refine WX.ret ?_
      exact WC.outP (by rw [← Option.some.inj h]; kernel_rfl)
    · skip
      refine WX.block ?_
      refine WC.loop (V := Int) (riddleref01_Exact_l0 a0 a1 J6) r (fun v21 => ⟨[(2, .ptr 2 0), (3, .ptr 3 0), (5, .p (i6 (v21)))], [(2, .box 25 [.p (i6 (a0.N)), .p (sW a0.Words)]), (3, .box 25 [.p (i6 (a1.N)), .p (sW a1.Words)])], ⟨[], false⟩, []⟩) _ 0 h (fun _ => rfl) [2, 3, 5] [2, 3] (by kernel_rfl) ?_
      clear h; rintro k x21_1_1 h K21 hnext21 hexit21
      rw [riddleref01_Exact_l0] at h
      refine WX.seq ?_
      refine WX.seq ?_
      refine WC.reg (n := 38) hn [] [2, 3, 5, 24] [2, 3] ⟨[(2, .ptr 2 0), (3, .ptr 3 0), (5, .p (i6 (x21_1_1))), (24, .p (bo (((decide (x21_1_1 < (a0.Words.length : Int)))))))], [(2, .box 25 [.p (i6 (a0.N)), .p (sW a0.Words)]), (3, .box 25 [.p (i6 (a1.N)), .p (sW a1.Words)])], ⟨[], false⟩, []⟩ trivial (by kernel_rfl) ?_
      rcases if_or h with ⟨c35, h⟩ | ⟨c35, h⟩
      · refine WC.condT c35 (by kernel_rfl) ?_
        refine WX.skip ?_
        refine WX.seq ?_
        refine WX.block ?_
        refine WX.seq ?_
        obtain ⟨t36_2, h36_1, h⟩ := bind_some h
        obtain ⟨t36_4, h36_3, h⟩ := bind_some h
        refine WC.drw (n := 38) hn [] [] [(3, .val (.p (.rop ((eI .u64).cells t36_2 ++ encL (eI .u64) (a0.Words.drop (x21_1_1.toNat + 1)))))), (8, .val (.p (.rop ((eI .u64).cells t36_4 ++ encL (eI .u64) (a1.Words.drop (x21_1_1.toNat + 1))))))] [2, 3, 5, 37] [2, 3] ⟨[(2, .ptr 2 0), (3, .ptr 3 0), (5, .p (i6 (x21_1_1))), (37, .p (bo (((t36_2 != t36_4)))))], [(2, .box 25 [.p (i6 (a0.N)), .p (sW a0.Words)]), (3, .box 25 [.p (i6 (a1.N)), .p (sW a1.Words)])], ⟨[], false⟩, []⟩ (And.intro (Ix (eI .u64) h36_1) (And.intro (Ix (eI .u64) h36_3) (trivial))) (by kernel_rfl) (by kernel_rfl) (by kernel_rfl) (by kernel_rfl) ?_
        rcases if_or h with ⟨c37, h⟩ | ⟨c37, h⟩
        · refine WC.condT c37 (by kernel_rfl) ?_
          refine WX.seq ?_
          refine WC.reg (n := 38) hn [] [4] [] ⟨[(4, .p (bo (false)))], [], ⟨[], false⟩, []⟩ trivial (by kernel_rfl) ?_
          refine WX.ret ?_
          refine WC.ret_all (hexit21 _ _ (by simp) ?_)
          exact WC.outP (by rw [← Option.some.inj h]; kernel_rfl)
        · refine WC.condF c37 (by kernel_rfl) ?_
          refine WX.skip ?_
          refine WX.popBlk ?_
          refine WC.reg (n := 38) hn [] [2, 3, 5] [2, 3] ⟨[(2, .ptr 2 0), (3, .ptr 3 0), (5, .p (i6 (((IntKind.i64.wrap (x21_1_1 + 1))))))], [(2, .box 25 [.p (i6 (a0.N)), .p (sW a0.Words)]), (3, .box 25 [.p (i6 (a1.N)), .p (sW a1.Words)])], ⟨[], false⟩, []⟩ trivial (by kernel_rfl) ?_
          exact WC.next [2, 3, 5] [2, 3] (by kernel_rfl) (hnext21 ((IntKind.i64.wrap (x21_1_1 + 1))) h)
      · refine WC.condF c35 (by kernel_rfl) ?_
        refine WX.exit ?_
        refine WX.popCodeExit ?_
        refine WC.exit_nil (hexit21 _ _ (by simp) ?_)
        refine WX.popBlkHit ?_
        exact WC.keep [] [] (by kernel_rfl) (hJ6 () h)
def nfa_Dead (k : Nat) (a0 : api_Nfa) (a1 : api_Bits) : Option (Bool) :=
  (nfa_may k a0).bind fun t2_2 => (nfa_state k t2_2 a1).bind fun t3_2 => (bits_First k t3_2 0).bind fun t3_4 => some ((!t3_4.2))
theorem nfa_Dead_ok {k : Nat} {a0 : api_Nfa} {a1 : api_Bits} {r : Bool} (h : nfa_Dead k a0 a1 = some r) : Ans Tryd.prog 20 [.agg [sC a0.Classes, i6 (a0.First.N), sW a0.First.Words, i6 (a0.Last.N), sW a0.Last.Words, sB a0.Follow, bo (a0.Null)], .agg [i6 (a1.N), sW a1.Words]] (bo (r)) := by
  refine W_fn Tryd.func20 rfl (by kernel_rfl) (by kernel_rfl) ?_
  intro X hro hn
  unfold nfa_Dead at h
  refine WX.seq ?_
  refine WC.reg (n := 18) hn [] [2, 3] [2, 3] ⟨[(2, .ptr 2 0), (3, .ptr 3 0)], [(2, .box 28 [.p (sC a0.Classes), .p (i6 (a0.First.N)), .p (sW a0.First.Words), .p (i6 (a0.Last.N)), .p (sW a0.Last.Words), .p (sB a0.Follow), .p (bo (a0.Null))]), (3, .box 25 [.p (i6 (a1.N)), .p (sW a1.Words)])], ⟨[], false⟩, []⟩ trivial (by kernel_rfl) ?_
  refine WX.seq ?_
  obtain ⟨t2_2, h2_1, h⟩ := bind_some h
  refine WC.reg (n := 18) hn [(1, .resP (.agg [sC t2_2.Classes, i6 (t2_2.First.N), sW t2_2.First.Words, i6 (t2_2.Last.N), sW t2_2.Last.Words, sB t2_2.Follow, bo (t2_2.Null)]))] [2, 3] [2, 3] ⟨[(2, .ptr 2 0), (3, .ptr 3 0)], [(2, .box 28 [.p (sC t2_2.Classes), .p (i6 (t2_2.First.N)), .p (sW t2_2.First.Words), .p (i6 (t2_2.Last.N)), .p (sW t2_2.Last.Words), .p (sB t2_2.Follow), .p (bo (t2_2.Null))]), (3, .box 25 [.p (i6 (a1.N)), .p (sW a1.Words)])], ⟨[], false⟩, []⟩ (And.intro ((nfa_may_ok h2_1)) (trivial)) (by kernel_rfl) ?_
  refine WX.seq ?_
  obtain ⟨t3_2, h3_1, h⟩ := bind_some h
  obtain ⟨t3_4, h3_3, h⟩ := bind_some h
  refine WC.reg (n := 18) hn [(2, .resP (.agg [i6 (t3_2.N), sW t3_2.Words])), (3, .resP (.tup [i6 (t3_4.1), bo (t3_4.2)]))] [6] [] ⟨[(6, .p (bo (t3_4.2)))], [], ⟨[], false⟩, []⟩ (And.intro ((nfa_state_ok h3_1)) (And.intro ((bits_First_ok h3_3)) (trivial))) (by kernel_rfl) ?_
  refine WX.seq ?_
  refine WC.reg (n := 18) hn [] [4] [] ⟨[(4, .p (bo (((!t3_4.2)))))], [], ⟨[], false⟩, []⟩ trivial (by kernel_rfl) ?_
  refine WX.ret ?_
  exact WC.outP (by rw [← Option.some.inj h]; kernel_rfl)
def riddlelaw11_NfaJoins (k : Nat) (a0 : riddlelaw11_Case) (a1 : (List Int)) : Option (Bool) :=
  (riddlelaw11_live k).bind fun t2_2 => (if (!t2_2) = true then some false else (riddlelaw11_short a0.W).bind fun t5_2 => (riddlelaw11_short a1).bind fun t5_4 => (nfa_Run k a0.Nfa a0.State t5_2).bind fun t6_2 => (nfa_Run k a0.Nfa t6_2 t5_4).bind fun t6_4 => (slices_Clone_byte_byte t5_2).bind fun t7_2 => (if okApp 1 (t7_2.length + t5_4.length) then (nfa_Run k a0.Nfa a0.State (t7_2 ++ t5_4)).bind fun t7_5 => (riddleref01_Exact k t6_4 t7_5).bind fun t8_2 => ((if t8_2 = true then (nfa_None k a0.Nfa).bind fun t8_4 => (nfa_Run k a0.Nfa t8_4 t5_2).bind fun t8_6 => (nfa_Dead k a0.Nfa t8_6).bind fun t8_8 => some t8_8 else some false) : Option (Bool)).bind fun v8 => some v8 else none))
theorem riddlelaw11_NfaJoins_ok {k : Nat} {a0 : riddlelaw11_Case} {a1 : (List Int)} {r : Bool} (h : riddlelaw11_NfaJoins k a0 a1 = some r) : Ans Tryd.prog 5 [.agg [sC a0.Nfa.Classes, i6 (a0.Nfa.First.N), sW a0.Nfa.First.Words, i6 (a0.Nfa.Last.N), sW a0.Nfa.Last.Words, sB a0.Nfa.Follow, bo (a0.Nfa.Null), i6 (a0.State.N), sW a0.State.Words, bo (a0.Begin), slV (eI .u8) a0.W, i6 (a0.From), bo (a0.Hat), bo (a0.Multi)], slV (eI .u8) a1] (bo (r)) := by
  refine W_fn Tryd.func5 rfl (by kernel_rfl) (by kernel_rfl) ?_
  intro X hro hn
  unfold riddlelaw11_NfaJoins at h
  refine WX.seq ?_
  refine WC.reg (n := 50) hn [] [1, 2] [2] ⟨[(1, .p (slV (eI .u8) a1)), (2, .ptr 2 0)], [(2, .box 31 [.p (sC a0.Nfa.Classes), .p (i6 (a0.Nfa.First.N)), .p (sW a0.Nfa.First.Words), .p (i6 (a0.Nfa.Last.N)), .p (sW a0.Nfa.Last.Words), .p (sB a0.Nfa.Follow), .p (bo (a0.Nfa.Null)), .p (i6 (a0.State.N)), .p (sW a0.State.Words), .p (bo (a0.Begin)), .p (slV (eI .u8) a0.W), .p (i6 (a0.From)), .p (bo (a0.Hat)), .p (bo (a0.Multi))])], ⟨[], false⟩, []⟩ trivial (by kernel_rfl) ?_
  refine WX.seq ?_
  refine WX.seq ?_
  obtain ⟨t2_2, h2_1, h⟩ := bind_some h
  refine WC.reg (n := 50) hn [(0, .resP (bo (t2_2)))] [1, 2, 10] [2] ⟨[(1, .p (slV (eI .u8) a1)), (2, .ptr 2 0), (10, .p (bo (((!t2_2)))))], [(2, .box 31 [.p (sC a0.Nfa.Classes), .p (i6 (a0.Nfa.First.N)), .p (sW a0.Nfa.First.Words), .p (i6 (a0.Nfa.Last.N)), .p (sW a0.Nfa.Last.Words), .p (sB a0.Nfa.Follow), .p (bo (a0.Nfa.Null)), .p (i6 (a0.State.N)), .p (sW a0.State.Words), .p (bo (a0.Begin)), .p (slV (eI .u8) a0.W), .p (i6 (a0.From)), .p (bo (a0.Hat)), .p (bo (a0.Multi))])], ⟨[], false⟩, []⟩ (And.intro ((riddlelaw11_live_ok h2_1)) (trivial)) (by kernel_rfl) ?_
  rcases if_or h with ⟨c3, h⟩ | ⟨c3, h⟩
  · refine WC.condT c3 (by kernel_rfl) ?_
    refine WX.seq ?_
    refine WC.reg (n := 50) hn [] [4] [] ⟨[(4, .p (bo (false)))], [], ⟨[], false⟩, []⟩ trivial (by kernel_rfl) ?_
    refine WX.ret ?_
    exact WC.outP (by rw [← Option.some.inj h]; kernel_rfl)
  · refine WC.condF c3 (by kernel_rfl) ?_
    refine WX.skip ?_
    refine WX.seq ?_
    obtain ⟨t5_2, h5_1, h⟩ := bind_some h
    obtain ⟨t5_4, h5_3, h⟩ := bind_some h
    refine WC.reg (n := 50) hn [(2, .resP (slV (eI .u8) t5_2)), (4, .resP (slV (eI .u8) t5_4))] [2, 5, 6] [2] ⟨[(2, .ptr 2 0), (5, .p (slV (eI .u8) t5_2)), (6, .p (slV (eI .u8) t5_4))], [(2, .box 31 [.p (sC a0.Nfa.Classes), .p (i6 (a0.Nfa.First.N)), .p (sW a0.Nfa.First.Words), .p (i6 (a0.Nfa.Last.N)), .p (sW a0.Nfa.Last.Words), .p (sB a0.Nfa.Follow), .p (bo (a0.Nfa.Null)), .p (i6 (a0.State.N)), .p (sW a0.State.Words), .p (bo (a0.Begin)), .p (slV (eI .u8) a0.W), .p (i6 (a0.From)), .p (bo (a0.Hat)), .p (bo (a0.Multi))])], ⟨[], false⟩, []⟩ (And.intro ((riddlelaw11_short_ok h5_1)) (And.intro ((riddlelaw11_short_ok h5_3)) (trivial))) (by kernel_rfl) ?_
    refine WX.seq ?_
    obtain ⟨t6_2, h6_1, h⟩ := bind_some h
    obtain ⟨t6_4, h6_3, h⟩ := bind_some h
    refine WC.drw (n := 50) hn [(11, [])] [7] [(7, .resP (.agg [i6 (t6_2.N), sW t6_2.Words])), (9, .resP (.agg [i6 (t6_4.N), sW t6_4.Words]))] [2, 5, 6, 7] [2, 7] ⟨[(2, .ptr 2 0), (5, .p (slV (eI .u8) t5_2)), (6, .p (slV (eI .u8) t5_4)), (7, .ptr 7 0)], [(2, .box 31 [.p (sC a0.Nfa.Classes), .p (i6 (a0.Nfa.First.N)), .p (sW a0.Nfa.First.Words), .p (i6 (a0.Nfa.Last.N)), .p (sW a0.Nfa.Last.Words), .p (sB a0.Nfa.Follow), .p (bo (a0.Nfa.Null)), .p (i6 (a0.State.N)), .p (sW a0.State.Words), .p (bo (a0.Begin)), .p (slV (eI .u8) a0.W), .p (i6 (a0.From)), .p (bo (a0.Hat)), .p (bo (a0.Multi))]), (7, .box 25 [.p (i6 (t6_4.N)), .p (sW t6_4.Words)])], ⟨[], false⟩, []⟩ (And.intro ((nfa_Run_ok h6_1)) (And.intro ((nfa_Run_ok h6_3)) (trivial))) (by kernel_rfl) (by kernel_rfl) (by kernel_rfl) (by kernel_rfl) ?_
    refine WX.seq ?_
    obtain ⟨t7_2, h7_1, h⟩ := bind_some h
    obtain ⟨c7_3, h⟩ := if_some h
    obtain ⟨t7_5, h7_4, h⟩ := bind_some h
    have q7_5 := And.intro ((slices_Clone_byte_byte_ok h7_1).ren 7 31 (by kernel_rfl)) (trivial)
    have q7_7 := ApS (eI .u8) (some 31) 5 1 t7_2 t5_4 c7_3
    have q7_8 := (nfa_Run_ok h7_4)
    refine WC.exp (n := 50) hn (by kernel_rfl) [(5, .co [] [] [] [(31, rowV 5 (eI .u8) t7_2)] (.own 31)), (7, .app (some 31) (rowV 5 (eI .u8) (t7_2 ++ t5_4))), (8, .fz [33] (.resP (.agg [i6 (t7_5.N), sW t7_5.Words])))] [2, 5, 7, 8] [2, 7, 8] ⟨[(2, .ptr 2 0), (5, .p (slV (eI .u8) t5_2)), (7, .ptr 7 0), (8, .ptr 8 0)], [(2, .box 31 [.p (sC a0.Nfa.Classes), .p (i6 (a0.Nfa.First.N)), .p (sW a0.Nfa.First.Words), .p (i6 (a0.Nfa.Last.N)), .p (sW a0.Nfa.Last.Words), .p (sB a0.Nfa.Follow), .p (bo (a0.Nfa.Null)), .p (i6 (a0.State.N)), .p (sW a0.State.Words), .p (bo (a0.Begin)), .p (slV (eI .u8) a0.W), .p (i6 (a0.From)), .p (bo (a0.Hat)), .p (bo (a0.Multi))]), (7, .box 25 [.p (i6 (t6_4.N)), .p (sW t6_4.Words)]), (8, .box 25 [.p (i6 (t7_5.N)), .p (sW t7_5.Words)])], ⟨[], false⟩, []⟩ [0, 1, 3, 4, 5, 7, 12, 13, 15, 16, 17, 19, 20, 21, 23, 28, 29, 31, 48, 49, 51, 52, 53, 55, 60, 61, 63, 64, 65, 67, 68, 69, 71, 76, 77, 79, 80, 81, 83, 84, 85, 87, 92, 93, 95, 112, 113, 115, 116, 117, 119, 124, 125, 127, 240, 241, 243, 244, 245, 247, 252, 253, 255, 511, 512, 513, 515, 516, 517, 519, 524, 525, 527, 528, 529, 531, 532, 533, 535, 540, 541, 543, 560, 561, 563, 564, 565, 567, 572, 573, 575, 576, 577, 579, 580, 581, 583, 588, 589, 591, 592, 593, 595, 596, 597, 599, 604, 605, 607, 624, 625, 627, 628, 629, 631, 636, 637, 639, 752, 753, 755, 756, 757, 759, 764, 765, 767, 1023, 2047] 2047 (by kernel_rfl) (by kernel_rfl) (by kernel_rfl) (And.intro q7_5 (And.intro q7_5 (And.intro q7_5 (And.intro q7_5 (And.intro q7_5 (And.intro q7_5 (And.intro q7_5 (And.intro q7_5 (And.intro q7_5 (And.intro q7_5 (And.intro q7_5 (And.intro q7_5 (And.intro q7_5 (And.intro q7_5 (And.intro q7_5 (And.intro q7_5 (And.intro q7_5 (And.intro q7_5 (And.intro q7_7 (And.intro q7_7 (And.intro q7_7 (And.intro q7_7 (And.intro q7_7 (And.intro q7_7 (And.intro q7_7 (And.intro q7_7 (And.intro q7_7 (And.intro q7_8 (And.intro q7_5 (And.intro q7_5 (And.intro q7_5 (And.intro q7_5 (And.intro q7_5 (And.intro q7_5 (And.intro q7_5 (And.intro q7_5 (And.intro q7_5 (And.intro q7_5 (And.intro q7_5 (And.intro q7_5 (And.intro q7_5 (And.intro q7_5 (And.intro q7_5 (And.intro q7_5 (And.intro q7_5 (And.intro q7_5 (And.intro q7_7 (And.intro q7_7 (And.intro q7_7 (And.intro q7_7 (And.intro q7_7 (And.intro q7_7 (And.intro q7_7 (And.intro q7_7 (And.intro q7_7 (And.intro q7_8 (trivial))))))))))))))))))))))))))))))))))))))))))))))))))))))))) (by kernel_rfl) (by kernel_rfl) ?_
    refine WX.seq ?_
    obtain ⟨t8_2, h8_1, h⟩ := bind_some h
    obtain ⟨m8_1, g8, h⟩ := bind_some h
    refine WC.via (α := Bool) (fun v8 => ⟨[(4, .p (bo (v8)))], [], ⟨[], false⟩, []⟩) m8_1 (fun hk => ?_) ?_
    · rcases if_or g8 with ⟨b8_3, g8⟩ | ⟨b8_3, g8⟩
      · obtain ⟨t8_4, h8_3, g8⟩ := bind_some g8
        obtain ⟨t8_6, h8_5, g8⟩ := bind_some g8
        obtain ⟨t8_8, h8_7, g8⟩ := bind_some g8
        exact WC.drw (n := 50) hn [] [] [(2, .resP (bo (t8_2))), (3, .val (.p (bo (true)))), (10, .resP (.agg [i6 (t8_4.N), sW t8_4.Words])), (12, .resP (.agg [i6 (t8_6.N), sW t8_6.Words])), (13, .resP (bo (t8_8)))] [4] [] ⟨[(4, .p (bo (t8_8)))], [], ⟨[], false⟩, []⟩ (And.intro ((riddleref01_Exact_ok h8_1)) (And.intro (Bl b8_3) (And.intro ((nfa_None_okP h8_3)) (And.intro ((nfa_Run_ok h8_5)) (And.intro ((nfa_Dead_ok h8_7)) (trivial)))))) (by kernel_rfl) (by kernel_rfl) (by kernel_rfl) (by kernel_rfl) (hk t8_8 (Option.some.inj g8))
      · exact WC.drw (n := 50) hn [] [] [(2, .resP (bo (t8_2))), (3, .val (.p (bo (false))))] [4] [] ⟨[(4, .p (bo (false)))], [], ⟨[], false⟩, []⟩ (And.intro ((riddleref01_Exact_ok h8_1)) (And.intro (Bl b8_3) (trivial))) (by kernel_rfl) (by kernel_rfl) (by kernel_rfl) (by kernel_rfl) (hk false (Option.some.inj g8))
    refine WX.ret ?_
    exact WC.outP (by rw [← Option.some.inj h]; kernel_rfl)
end Go.Proofs.YtfejcecgnonabaaDoor
