/- YtfejcecgnonabaaDoorGc: a part of the proof; see the last text for what is proved. -/
import Derived.Test.YtfejcecgnonabaaDoorGb
import Derived.Test.YtfejcecgnonabaaDoorProg
import Derived.KernelRfl
set_option maxRecDepth 100000
set_option linter.unusedVariables false
set_option linter.unusedSimpArgs false
namespace Go.Proofs.YtfejcecgnonabaaDoor
open Go.AE
def riddleref10_Of_l0 (a0 : api_Tree) (J34 : List api_Nfa → Option (api_Nfa × Int)) : Nat → (List api_Nfa × Int) → Option (api_Nfa × Int)
  | 0, _ => none
  | k + 1, (x77_1_1, x77_1_2) => (if (decide (x77_1_2 < (a0.Nodes.length : Int))) = true then (at_ a0.Nodes x77_1_2).bind fun t120_2 => (riddleref10_Empty k).bind fun t121_2 => jn (fun (v123 : List (Arr4 Int) × Int × List Int × Int × List Int × List api_Bits × Bool) => (if okApp 120 (x77_1_1.length + ([(api_Nfa.mk v123.1 ((api_Bits.mk v123.2.1 v123.2.2.1)) ((api_Bits.mk v123.2.2.2.1 v123.2.2.2.2.1)) v123.2.2.2.2.2.1 v123.2.2.2.2.2.2)]).length) then riddleref10_Of_l0 a0 J34 k (x77_1_1 ++ ([(api_Nfa.mk v123.1 ((api_Bits.mk v123.2.1 v123.2.2.1)) ((api_Bits.mk v123.2.2.2.1 v123.2.2.2.2.1)) v123.2.2.2.2.2.1 v123.2.2.2.2.2.2)]), (IntKind.i64.wrap (x77_1_2 + 1))) else none)) fun J123 => (if (t120_2.Kind == 2) = true then (riddleref10_Leaf k t120_2.Class).bind fun t140_2 => J123 (t140_2.Classes, t140_2.First.N, t140_2.First.Words, t140_2.Last.N, t140_2.Last.Words, t140_2.Follow, t140_2.Null) else (if (t120_2.Kind == 3) = true then (at_ x77_1_1 t120_2.A).bind fun t143_2 => (at_ x77_1_1 t120_2.B).bind fun t143_4 => (riddleref10_Cat k t143_2 t143_4).bind fun t143_6 => J123 (t143_6.1.Classes, t143_6.1.First.N, t143_6.1.First.Words, t143_6.1.Last.N, t143_6.1.Last.Words, t143_6.1.Follow, t143_6.1.Null) else (if (t120_2.Kind == 4) = true then (at_ x77_1_1 t120_2.A).bind fun t146_2 => (at_ x77_1_1 t120_2.B).bind fun t146_4 => (riddleref10_Alt k t146_2 t146_4).bind fun t146_6 => J123 (t146_6.1.Classes, t146_6.1.First.N, t146_6.1.First.Words, t146_6.1.Last.N, t146_6.1.Last.Words, t146_6.1.Follow, t146_6.1.Null) else (if (t120_2.Kind == 5) = true then (at_ x77_1_1 t120_2.A).bind fun t149_2 => (riddleref10_Star k t149_2).bind fun t149_4 => J123 (t149_4.1.Classes, t149_4.1.First.N, t149_4.1.First.Words, t149_4.1.Last.N, t149_4.1.Last.Words, t149_4.1.Follow, t149_4.1.Null) else J123 (t121_2.Classes, t121_2.First.N, t121_2.First.Words, t121_2.Last.N, t121_2.Last.Words, t121_2.Follow, t121_2.Null))))) else J34 x77_1_1)
def riddleref10_Of_l1 (a0 : api_Tree) (J7 : Int → Option (api_Nfa × Int)) : Nat → (Int × Int) → Option (api_Nfa × Int)
  | 0, _ => none
  | k + 1, (x150_1_1, x150_1_2) => (if (decide (x150_1_2 < (a0.Nodes.length : Int))) = true then (at_ a0.Nodes x150_1_2).bind fun t173_2 => (if (((t173_2.Kind == 6)) || ((t173_2.Kind == 7))) = true then some ((api_Nfa.mk ([]) ((api_Bits.mk 0 ([]))) ((api_Bits.mk 0 ([]))) ([]) false), 1) else (at_ a0.Nodes x150_1_2).bind fun t176_2 => (if (t176_2.Kind == 2) = true then riddleref10_Of_l1 a0 J7 k ((IntKind.i64.wrap (x150_1_1 + 1)), (IntKind.i64.wrap (x150_1_2 + 1))) else riddleref10_Of_l1 a0 J7 k (x150_1_1, (IntKind.i64.wrap (x150_1_2 + 1))))) else J7 x150_1_1)
def riddleref10_Of (k : Nat) (a0 : api_Tree) : Option (api_Nfa × Int) :=
  (riddleref09_Is k a0).bind fun t2_2 => (if (!t2_2) = true then some ((api_Nfa.mk ([]) ((api_Bits.mk 0 ([]))) ((api_Bits.mk 0 ([]))) ([]) false), 1) else jn (fun (v7 : Int) => (if (decide (v7 > 512)) = true then some ((api_Nfa.mk ([]) ((api_Bits.mk 0 ([]))) ((api_Bits.mk 0 ([]))) ([]) false), 90) else jn (fun (v34 : List api_Nfa) => (at_ v34 ((IntKind.i64.wrap ((v34.length : Int) - 1)))).bind fun t76_2 => some (t76_2, 0)) fun J34 => riddleref10_Of_l0 a0 J34 k (([] : List api_Nfa), 0))) fun J7 => riddleref10_Of_l1 a0 J7 k (0, 0))
theorem riddleref10_Of_ok {k : Nat} {a0 : api_Tree} {r : api_Nfa × Int} (h : riddleref10_Of k a0 = some r) : Ans Tryd.prog 15 [.agg [slV e_api_Node a0.Nodes]] (.tup [.agg [sC r.1.Classes, i6 (r.1.First.N), sW r.1.First.Words, i6 (r.1.Last.N), sW r.1.Last.Words, sB r.1.Follow, bo (r.1.Null)], i6 (r.2)]) := by
  refine W_fn Tryd.func15 rfl (by kernel_rfl) (by kernel_rfl) ?_
  intro X hro hn
  unfold riddleref10_Of at h
  refine WX.seq ?_
  refine WC.reg (n := 123) hn [] [1, 2] [1, 2] ⟨[(1, .ptr 1 0), (2, .ptr 2 0)], [(1, .box 41 [.p (slV e_api_Node a0.Nodes)]), (2, .box 28 [.p (.sl .nil 0 []), .p (i6 (0)), .p (.sl .nil 0 []), .p (i6 (0)), .p (.sl .nil 0 []), .p (.sl .nil 0 []), .p (bo (false))])], ⟨[], false⟩, []⟩ trivial (by kernel_rfl) ?_
  refine WX.seq ?_
  refine WX.seq ?_
  obtain ⟨t2_2, h2_1, h⟩ := bind_some h
  refine WC.reg (n := 123) hn [(1, .resP (bo (t2_2)))] [1, 2, 12] [1, 2] ⟨[(1, .ptr 1 0), (2, .ptr 2 0), (12, .p (bo (((!t2_2)))))], [(1, .box 41 [.p (slV e_api_Node a0.Nodes)]), (2, .box 28 [.p (.sl .nil 0 []), .p (i6 (0)), .p (.sl .nil 0 []), .p (i6 (0)), .p (.sl .nil 0 []), .p (.sl .nil 0 []), .p (bo (false))])], ⟨[], false⟩, []⟩ (And.intro ((riddleref09_Is_ok h2_1)) (trivial)) (by kernel_rfl) ?_
  rcases if_or h with ⟨c3, h⟩ | ⟨c3, h⟩
  · refine WC.condT c3 (by kernel_rfl) ?_
    refine WX.seq ?_
    refine WC.reg (n := 123) hn [] [2, 3] [2] ⟨[(2, .ptr 2 0), (3, .p (i6 (1)))], [(2, .box 28 [.p (.sl .nil 0 []), .p (i6 (0)), .p (.sl .nil 0 []), .p (i6 (0)), .p (.sl .nil 0 []), .p (.sl .nil 0 []), .p (bo (false))])], ⟨[], false⟩, []⟩ trivial (by kernel_rfl) ?_
    refine WX.ret ?_
    exact WC.outP (by rw [← Option.some.inj h]; kernel_rfl)
  · refine WC.condF c3 (by kernel_rfl) ?_
    refine WX.skip ?_
    refine WX.seq ?_
    refine WC.reg (n := 123) hn [] [1, 2, 4] [1, 2] ⟨[(1, .ptr 1 0), (2, .ptr 2 0), (4, .p (i6 (0)))], [(1, .box 41 [.p (slV e_api_Node a0.Nodes)]), (2, .box 28 [.p (.sl .nil 0 []), .p (i6 (0)), .p (.sl .nil 0 []), .p (i6 (0)), .p (.sl .nil 0 []), .p (.sl .nil 0 []), .p (bo (false))])], ⟨[], false⟩, []⟩ trivial (by kernel_rfl) ?_
    refine WX.seq ?_
    refine WX.seq ?_
    refine WC.reg (n := 123) hn [] [1, 2, 4, 5] [1, 2] ⟨[(1, .ptr 1 0), (2, .ptr 2 0), (4, .p (i6 (0))), (5, .p (i6 (0)))], [(1, .box 41 [.p (slV e_api_Node a0.Nodes)]), (2, .box 28 [.p (.sl .nil 0 []), .p (i6 (0)), .p (.sl .nil 0 []), .p (i6 (0)), .p (.sl .nil 0 []), .p (.sl .nil 0 []), .p (bo (false))])], ⟨[], false⟩, []⟩ trivial (by kernel_rfl) ?_
    obtain ⟨J7, eJ7, h⟩ := jn_some h
    try dsimp only at h
    refine WC.join (α := Int) (fun v7 => ⟨[(1, .ptr 1 0), (2, .ptr 2 0), (4, .p (i6 (v7)))], [(1, .box 41 [.p (slV e_api_Node a0.Nodes)]), (2, .box 28 [.p (.sl .nil 0 []), .p (i6 (0)), .p (.sl .nil 0 []), .p (i6 (0)), .p (.sl .nil 0 []), .p (.sl .nil 0 []), .p (bo (false))])], ⟨[], false⟩, []⟩) (fun v7 => J7 v7 = some r) ?_ (fun hJ7 => ?_)
    · rintro y7_1 h
      rw [eJ7] at h
      try dsimp only at h
      refine WX.seq ?_
      refine WX.seq ?_
      refine WC.reg (n := 123) hn [] [1, 2, 48] [1, 2] ⟨[(1, .ptr 1 0), (2, .ptr 2 0), (48, .p (bo (((decide (y7_1 > 512))))))], [(1, .box 41 [.p (slV e_api_Node a0.Nodes)]), (2, .box 28 [.p (.sl .nil 0 []), .p (i6 (0)), .p (.sl .nil 0 []), .p (i6 (0)), .p (.sl .nil 0 []), .p (.sl .nil 0 []), .p (bo (false))])], ⟨[], false⟩, []⟩ trivial (by kernel_rfl) ?_
      rcases if_or h with ⟨c30, h⟩ | ⟨c30, h⟩
      · refine WC.condT c30 (by kernel_rfl) ?_
        refine WX.seq ?_
        refine WC.reg (n := 123) hn [] [2, 3] [2] ⟨[(2, .ptr 2 0), (3, .p (i6 (90)))], [(2, .box 28 [.p (.sl .nil 0 []), .p (i6 (0)), .p (.sl .nil 0 []), .p (i6 (0)), .p (.sl .nil 0 []), .p (.sl .nil 0 []), .p (bo (false))])], ⟨[], false⟩, []⟩ trivial (by kernel_rfl) ?_
        refine WX.ret ?_
        exact WC.outP (by rw [← Option.some.inj h]; kernel_rfl)
      · refine WC.condF c30 (by kernel_rfl) ?_
        refine WX.skip ?_
        refine WX.seq ?_
        refine WC.reg (n := 123) hn [] [1, 2, 6] [1, 2] ⟨[(1, .ptr 1 0), (2, .ptr 2 0), (6, .p (.sl .nil 0 []))], [(1, .box 41 [.p (slV e_api_Node a0.Nodes)]), (2, .box 28 [.p (.sl .nil 0 []), .p (i6 (0)), .p (.sl .nil 0 []), .p (i6 (0)), .p (.sl .nil 0 []), .p (.sl .nil 0 []), .p (bo (false))])], ⟨[], false⟩, []⟩ trivial (by kernel_rfl) ?_
        refine WX.seq ?_
        refine WX.seq ?_
        refine WC.reg (n := 123) hn [] [1, 2, 6, 7] [1, 2] ⟨[(1, .ptr 1 0), (2, .ptr 2 0), (6, .p (.sl .nil 0 [])), (7, .p (i6 (0)))], [(1, .box 41 [.p (slV e_api_Node a0.Nodes)]), (2, .box 28 [.p (.sl .nil 0 []), .p (i6 (0)), .p (.sl .nil 0 []), .p (i6 (0)), .p (.sl .nil 0 []), .p (.sl .nil 0 []), .p (bo (false))])], ⟨[], false⟩, []⟩ trivial (by kernel_rfl) ?_
        obtain ⟨J34, eJ34, h⟩ := jn_some h
        try dsimp only at h
        refine WC.join (α := List api_Nfa) (fun v34 => ⟨[(2, .ptr 2 0), (6, .own 116)], [(2, .box 28 [.p (.sl .nil 0 []), .p (i6 (0)), .p (.sl .nil 0 []), .p (i6 (0)), .p (.sl .nil 0 []), .p (.sl .nil 0 []), .p (bo (false))]), (116, rowV 28 e_api_Nfa v34)], ⟨[], false⟩, []⟩) (fun v34 => J34 v34 = some r) ?_ (fun hJ34 => ?_)
        · rintro y34_1 h
          rw [eJ34] at h
          try dsimp only at h
          refine WX.seq ?_
          obtain ⟨t76_2, h76_1, h⟩ := bind_some h
          refine WC.reg (n := 123) hn [(4, .val (.ptr 116 (((IntKind.i64.wrap ((y34_1.length : Int) - 1))).toNat * 7))), (5, .val (.p (.agg [sC t76_2.Classes, i6 (t76_2.First.N), sW t76_2.First.Words, i6 (t76_2.Last.N), sW t76_2.Last.Words, sB t76_2.Follow, bo (t76_2.Null)])))] [2, 3] [2] ⟨[(2, .ptr 2 0), (3, .p (i6 (0)))], [(2, .box 28 [.p (sC t76_2.Classes), .p (i6 (t76_2.First.N)), .p (sW t76_2.First.Words), .p (i6 (t76_2.Last.N)), .p (sW t76_2.Last.Words), .p (sB t76_2.Follow), .p (bo (t76_2.Null))])], ⟨[], false⟩, []⟩ (And.intro (IxO 116 7 h76_1) (And.intro (LdO0 Tryd.prog e_api_Nfa 28 h76_1) (trivial))) (by kernel_rfl) ?_
          refine WX.ret ?_
          exact WC.outP (by rw [← Option.some.inj h]; kernel_rfl)
        · replace hJ34 := fun y34_1 => hJ34 y34_1
          refine WX.block ?_
          refine WC.nil (n := 123) hn [6] none 116 28 7 (by kernel_rfl) [1, 2, 6, 7] [1, 2, 116] (st' := ⟨[(1, .ptr 1 0), (2, .ptr 2 0), (6, .own 116), (7, .p (i6 (0)))], [(1, .box 41 [.p (slV e_api_Node a0.Nodes)]), (2, .box 28 [.p (.sl .nil 0 []), .p (i6 (0)), .p (.sl .nil 0 []), .p (i6 (0)), .p (.sl .nil 0 []), .p (.sl .nil 0 []), .p (bo (false))]), (116, rowV 28 e_api_Nfa (([] : List api_Nfa)))], ⟨[], false⟩, []⟩) (by kernel_rfl) ?_
          refine WC.loop (V := List api_Nfa × Int) (riddleref10_Of_l0 a0 J34) r (fun v77 => ⟨[(1, .ptr 1 0), (2, .ptr 2 0), (6, .own 116), (7, .p (i6 (v77.2)))], [(1, .box 41 [.p (slV e_api_Node a0.Nodes)]), (2, .box 28 [.p (.sl .nil 0 []), .p (i6 (0)), .p (.sl .nil 0 []), .p (i6 (0)), .p (.sl .nil 0 []), .p (.sl .nil 0 []), .p (bo (false))]), (116, rowV 28 e_api_Nfa v77.1)], ⟨[], false⟩, []⟩) _ (([] : List api_Nfa), 0) h (fun _ => rfl) [1, 2, 6, 7] [1, 2, 116] (by kernel_rfl) ?_
          clear h; rintro k ⟨x77_1_1, x77_1_2⟩ h K77 hnext77 hexit77
          rw [riddleref10_Of_l0] at h
          refine WX.seq ?_
          refine WX.seq ?_
          refine WC.reg (n := 123) hn [] [1, 2, 6, 7, 54] [1, 2, 116] ⟨[(1, .ptr 1 0), (2, .ptr 2 0), (6, .own 116), (7, .p (i6 (x77_1_2))), (54, .p (bo (((decide (x77_1_2 < (a0.Nodes.length : Int)))))))], [(1, .box 41 [.p (slV e_api_Node a0.Nodes)]), (2, .box 28 [.p (.sl .nil 0 []), .p (i6 (0)), .p (.sl .nil 0 []), .p (i6 (0)), .p (.sl .nil 0 []), .p (.sl .nil 0 []), .p (bo (false))]), (116, rowV 28 e_api_Nfa x77_1_1)], ⟨[], false⟩, []⟩ trivial (by kernel_rfl) ?_
          rcases if_or h with ⟨c119, h⟩ | ⟨c119, h⟩
          · refine WC.condT c119 (by kernel_rfl) ?_
            refine WX.skip ?_
            refine WX.seq ?_
            refine WX.block ?_
            refine WX.seq ?_
            obtain ⟨t120_2, h120_1, h⟩ := bind_some h
            refine WC.reg (n := 123) hn [(3, .val (.p (.rop (e_api_Node.cells t120_2 ++ encL e_api_Node (a0.Nodes.drop (x77_1_2.toNat + 1))))))] [1, 2, 6, 7, 8] [1, 2, 8, 116] ⟨[(1, .ptr 1 0), (2, .ptr 2 0), (6, .own 116), (7, .p (i6 (x77_1_2))), (8, .ptr 8 0)], [(1, .box 41 [.p (slV e_api_Node a0.Nodes)]), (2, .box 28 [.p (.sl .nil 0 []), .p (i6 (0)), .p (.sl .nil 0 []), .p (i6 (0)), .p (.sl .nil 0 []), .p (.sl .nil 0 []), .p (bo (false))]), (8, .box 73 [.p (i6 (t120_2.Kind)), .p (.s (.int .u64 t120_2.Class.a0)), .p (.s (.int .u64 t120_2.Class.a1)), .p (.s (.int .u64 t120_2.Class.a2)), .p (.s (.int .u64 t120_2.Class.a3)), .p (i6 (t120_2.A)), .p (i6 (t120_2.B)), .p (i6 (t120_2.Least)), .p (i6 (t120_2.Most)), .p (bo (t120_2.Lazy))]), (116, rowV 28 e_api_Nfa x77_1_1)], ⟨[], false⟩, []⟩ (And.intro (Ix e_api_Node h120_1) (trivial)) (by kernel_rfl) ?_
            refine WX.seq ?_
            obtain ⟨t121_2, h121_1, h⟩ := bind_some h
            refine WC.reg (n := 123) hn [(0, .co [] [] [] [(62, rowV 69 (eI .u64) t121_2.First.Words), (122, rowV 69 (eI .u64) t121_2.Last.Words)] (.agg [.p (sC t121_2.Classes), .p (i6 (t121_2.First.N)), .own 62, .p (i6 (t121_2.Last.N)), .own 122, .p (sB t121_2.Follow), .p (bo (t121_2.Null))]))] [1, 2, 6, 7, 8, 9] [1, 2, 8, 9, 62, 116, 122] ⟨[(1, .ptr 1 0), (2, .ptr 2 0), (6, .own 116), (7, .p (i6 (x77_1_2))), (8, .ptr 8 0), (9, .ptr 9 0)], [(1, .box 41 [.p (slV e_api_Node a0.Nodes)]), (2, .box 28 [.p (.sl .nil 0 []), .p (i6 (0)), .p (.sl .nil 0 []), .p (i6 (0)), .p (.sl .nil 0 []), .p (.sl .nil 0 []), .p (bo (false))]), (8, .box 73 [.p (i6 (t120_2.Kind)), .p (.s (.int .u64 t120_2.Class.a0)), .p (.s (.int .u64 t120_2.Class.a1)), .p (.s (.int .u64 t120_2.Class.a2)), .p (.s (.int .u64 t120_2.Class.a3)), .p (i6 (t120_2.A)), .p (i6 (t120_2.B)), .p (i6 (t120_2.Least)), .p (i6 (t120_2.Most)), .p (bo (t120_2.Lazy))]), (9, .box 28 [.p (sC t121_2.Classes), .p (i6 (t121_2.First.N)), .own 62, .p (i6 (t121_2.Last.N)), .own 122, .p (sB t121_2.Follow), .p (bo (t121_2.Null))]), (62, rowV 69 (eI .u64) t121_2.First.Words), (116, rowV 28 e_api_Nfa x77_1_1), (122, rowV 69 (eI .u64) t121_2.Last.Words)], ⟨[], false⟩, []⟩ (And.intro (And.intro (((riddleref10_Empty_ok h121_1).ren 1 62 (by kernel_rfl)).ren 2 122 (by kernel_rfl)) (trivial)) (trivial)) (by kernel_rfl) ?_
            refine WX.seq ?_
            refine WX.seq ?_
            refine WC.reg (n := 123) hn [] [1, 2, 6, 7, 8, 9, 64] [1, 2, 8, 9, 62, 116, 122] ⟨[(1, .ptr 1 0), (2, .ptr 2 0), (6, .own 116), (7, .p (i6 (x77_1_2))), (8, .ptr 8 0), (9, .ptr 9 0), (64, .p (i6 (t120_2.Kind)))], [(1, .box 41 [.p (slV e_api_Node a0.Nodes)]), (2, .box 28 [.p (.sl .nil 0 []), .p (i6 (0)), .p (.sl .nil 0 []), .p (i6 (0)), .p (.sl .nil 0 []), .p (.sl .nil 0 []), .p (bo (false))]), (8, .box 73 [.p (i6 (t120_2.Kind)), .p (.s (.int .u64 t120_2.Class.a0)), .p (.s (.int .u64 t120_2.Class.a1)), .p (.s (.int .u64 t120_2.Class.a2)), .p (.s (.int .u64 t120_2.Class.a3)), .p (i6 (t120_2.A)), .p (i6 (t120_2.B)), .p (i6 (t120_2.Least)), .p (i6 (t120_2.Most)), .p (bo (t120_2.Lazy))]), (9, .box 28 [.p (sC t121_2.Classes), .p (i6 (t121_2.First.N)), .own 62, .p (i6 (t121_2.Last.N)), .own 122, .p (sB t121_2.Follow), .p (bo (t121_2.Null))]), (62, rowV 69 (eI .u64) t121_2.First.Words), (116, rowV 28 e_api_Nfa x77_1_1), (122, rowV 69 (eI .u64) t121_2.Last.Words)], ⟨[], false⟩, []⟩ trivial (by kernel_rfl) ?_
            obtain ⟨J123, eJ123, h⟩ := jn_some h
            try dsimp only at h
            refine WC.join (α := List (Arr4 Int) × Int × List Int × Int × List Int × List api_Bits × Bool) (fun v123 => ⟨[(1, .ptr 1 0), (2, .ptr 2 0), (6, .own 116), (7, .p (i6 (x77_1_2))), (9, .ptr 9 0)], [(1, .box 41 [.p (slV e_api_Node a0.Nodes)]), (2, .box 28 [.p (.sl .nil 0 []), .p (i6 (0)), .p (.sl .nil 0 []), .p (i6 (0)), .p (.sl .nil 0 []), .p (.sl .nil 0 []), .p (bo (false))]), (9, .box 28 [.p (sC v123.1), .p (i6 (v123.2.1)), .p (sW v123.2.2.1), .p (i6 (v123.2.2.2.1)), .p (sW v123.2.2.2.2.1), .p (sB v123.2.2.2.2.2.1), .p (bo (v123.2.2.2.2.2.2))]), (116, rowV 28 e_api_Nfa x77_1_1)], ⟨[], false⟩, []⟩) (fun v123 => J123 v123 = some r) ?_ (fun hJ123 => ?_)
            · rintro ⟨y123_1, y123_2, y123_3, y123_4, y123_5, y123_6, y123_7⟩ h
              rw [eJ123] at h
              try dsimp only at h
              obtain ⟨c136_1, h⟩ := if_some h
              refine WC.reg (n := 123) hn [(3, .app (some 116) (rowV 28 e_api_Nfa (x77_1_1 ++ ([(api_Nfa.mk y123_1 ((api_Bits.mk y123_2 y123_3)) ((api_Bits.mk y123_4 y123_5)) y123_6 y123_7)]))))] [1, 2, 6, 7] [1, 2, 116] ⟨[(1, .ptr 1 0), (2, .ptr 2 0), (6, .own 116), (7, .p (i6 (x77_1_2)))], [(1, .box 41 [.p (slV e_api_Node a0.Nodes)]), (2, .box 28 [.p (.sl .nil 0 []), .p (i6 (0)), .p (.sl .nil 0 []), .p (i6 (0)), .p (.sl .nil 0 []), .p (.sl .nil 0 []), .p (bo (false))]), (116, rowV 28 e_api_Nfa (x77_1_1 ++ ([(api_Nfa.mk y123_1 ((api_Bits.mk y123_2 y123_3)) ((api_Bits.mk y123_4 y123_5)) y123_6 y123_7)])))], ⟨[], false⟩, []⟩ (And.intro (Ap e_api_Nfa (some 116) 28 120 7 x77_1_1 ([(api_Nfa.mk y123_1 ((api_Bits.mk y123_2 y123_3)) ((api_Bits.mk y123_4 y123_5)) y123_6 y123_7)]) c136_1) (trivial)) (by kernel_rfl) ?_
              refine WX.popBlk ?_
              refine WC.reg (n := 123) hn [] [1, 2, 6, 7] [1, 2, 116] ⟨[(1, .ptr 1 0), (2, .ptr 2 0), (6, .own 116), (7, .p (i6 (((IntKind.i64.wrap (x77_1_2 + 1))))))], [(1, .box 41 [.p (slV e_api_Node a0.Nodes)]), (2, .box 28 [.p (.sl .nil 0 []), .p (i6 (0)), .p (.sl .nil 0 []), .p (i6 (0)), .p (.sl .nil 0 []), .p (.sl .nil 0 []), .p (bo (false))]), (116, rowV 28 e_api_Nfa (x77_1_1 ++ ([(api_Nfa.mk y123_1 ((api_Bits.mk y123_2 y123_3)) ((api_Bits.mk y123_4 y123_5)) y123_6 y123_7)])))], ⟨[], false⟩, []⟩ trivial (by kernel_rfl) ?_
              exact WC.next [1, 2, 6, 7] [1, 2, 116] (by kernel_rfl) (hnext77 (x77_1_1 ++ ([(api_Nfa.mk y123_1 ((api_Bits.mk y123_2 y123_3)) ((api_Bits.mk y123_4 y123_5)) y123_6 y123_7)]), (IntKind.i64.wrap (x77_1_2 + 1))) h)
            · replace hJ123 := fun y123_1 y123_2 y123_3 y123_4 y123_5 y123_6 y123_7 => hJ123 (y123_1, y123_2, y123_3, y123_4, y123_5, y123_6, y123_7)
              refine WX.block ?_
              refine WX.seq ?_
              refine WC.reg (n := 123) hn [] [1, 2, 6, 7, 8, 9, 64, 65] [1, 2, 8, 9, 62, 116, 122] ⟨[(1, .ptr 1 0), (2, .ptr 2 0), (6, .own 116), (7, .p (i6 (x77_1_2))), (8, .ptr 8 0), (9, .ptr 9 0), (64, .p (i6 (t120_2.Kind))), (65, .p (bo (((t120_2.Kind == 2)))))], [(1, .box 41 [.p (slV e_api_Node a0.Nodes)]), (2, .box 28 [.p (.sl .nil 0 []), .p (i6 (0)), .p (.sl .nil 0 []), .p (i6 (0)), .p (.sl .nil 0 []), .p (.sl .nil 0 []), .p (bo (false))]), (8, .box 73 [.p (i6 (t120_2.Kind)), .p (.s (.int .u64 t120_2.Class.a0)), .p (.s (.int .u64 t120_2.Class.a1)), .p (.s (.int .u64 t120_2.Class.a2)), .p (.s (.int .u64 t120_2.Class.a3)), .p (i6 (t120_2.A)), .p (i6 (t120_2.B)), .p (i6 (t120_2.Least)), .p (i6 (t120_2.Most)), .p (bo (t120_2.Lazy))]), (9, .box 28 [.p (sC t121_2.Classes), .p (i6 (t121_2.First.N)), .own 62, .p (i6 (t121_2.Last.N)), .own 122, .p (sB t121_2.Follow), .p (bo (t121_2.Null))]), (62, rowV 69 (eI .u64) t121_2.First.Words), (116, rowV 28 e_api_Nfa x77_1_1), (122, rowV 69 (eI .u64) t121_2.Last.Words)], ⟨[], false⟩, []⟩ trivial (by kernel_rfl) ?_
              rcases if_or h with ⟨c139, h⟩ | ⟨c139, h⟩
              · refine WC.condT c139 (by kernel_rfl) ?_
                obtain ⟨t140_2, h140_1, h⟩ := bind_some h
                refine WC.reg (n := 123) hn [(2, .resP (.agg [sC t140_2.Classes, i6 (t140_2.First.N), sW t140_2.First.Words, i6 (t140_2.Last.N), sW t140_2.Last.Words, sB t140_2.Follow, bo (t140_2.Null)]))] [1, 2, 6, 7, 9] [1, 2, 9, 116] ⟨[(1, .ptr 1 0), (2, .ptr 2 0), (6, .own 116), (7, .p (i6 (x77_1_2))), (9, .ptr 9 0)], [(1, .box 41 [.p (slV e_api_Node a0.Nodes)]), (2, .box 28 [.p (.sl .nil 0 []), .p (i6 (0)), .p (.sl .nil 0 []), .p (i6 (0)), .p (.sl .nil 0 []), .p (.sl .nil 0 []), .p (bo (false))]), (9, .box 28 [.p (sC t140_2.Classes), .p (i6 (t140_2.First.N)), .p (sW t140_2.First.Words), .p (i6 (t140_2.Last.N)), .p (sW t140_2.Last.Words), .p (sB t140_2.Follow), .p (bo (t140_2.Null))]), (116, rowV 28 e_api_Nfa x77_1_1)], ⟨[], false⟩, []⟩ (And.intro ((riddleref10_Leaf_ok h140_1)) (trivial)) (by kernel_rfl) ?_
                refine WX.popBlk ?_
                exact WC.keep [1, 2, 6, 7, 9] [1, 2, 9, 116] (by kernel_rfl) (hJ123 t140_2.Classes t140_2.First.N t140_2.First.Words t140_2.Last.N t140_2.Last.Words t140_2.Follow t140_2.Null h)
              · refine WC.condF c139 (by kernel_rfl) ?_
                refine WX.seq ?_
                refine WC.reg (n := 123) hn [] [1, 2, 6, 7, 8, 9, 64, 70] [1, 2, 8, 9, 62, 116, 122] ⟨[(1, .ptr 1 0), (2, .ptr 2 0), (6, .own 116), (7, .p (i6 (x77_1_2))), (8, .ptr 8 0), (9, .ptr 9 0), (64, .p (i6 (t120_2.Kind))), (70, .p (bo (((t120_2.Kind == 3)))))], [(1, .box 41 [.p (slV e_api_Node a0.Nodes)]), (2, .box 28 [.p (.sl .nil 0 []), .p (i6 (0)), .p (.sl .nil 0 []), .p (i6 (0)), .p (.sl .nil 0 []), .p (.sl .nil 0 []), .p (bo (false))]), (8, .box 73 [.p (i6 (t120_2.Kind)), .p (.s (.int .u64 t120_2.Class.a0)), .p (.s (.int .u64 t120_2.Class.a1)), .p (.s (.int .u64 t120_2.Class.a2)), .p (.s (.int .u64 t120_2.Class.a3)), .p (i6 (t120_2.A)), .p (i6 (t120_2.B)), .p (i6 (t120_2.Least)), .p (i6 (t120_2.Most)), .p (bo (t120_2.Lazy))]), (9, .box 28 [.p (sC t121_2.Classes), .p (i6 (t121_2.First.N)), .own 62, .p (i6 (t121_2.Last.N)), .own 122, .p (sB t121_2.Follow), .p (bo (t121_2.Null))]), (62, rowV 69 (eI .u64) t121_2.First.Words), (116, rowV 28 e_api_Nfa x77_1_1), (122, rowV 69 (eI .u64) t121_2.Last.Words)], ⟨[], false⟩, []⟩ trivial (by kernel_rfl) ?_
                rcases if_or h with ⟨c142, h⟩ | ⟨c142, h⟩
                · refine WC.condT c142 (by kernel_rfl) ?_
                  obtain ⟨t143_2, h143_1, h⟩ := bind_some h
                  obtain ⟨t143_4, h143_3, h⟩ := bind_some h
                  obtain ⟨t143_6, h143_5, h⟩ := bind_some h
                  refine WC.drw (n := 123) hn [(14, [13])] [] [(3, .val (.ptr 116 (t120_2.A.toNat * 7))), (4, .val (.p (.agg [sC t143_2.Classes, i6 (t143_2.First.N), sW t143_2.First.Words, i6 (t143_2.Last.N), sW t143_2.Last.Words, sB t143_2.Follow, bo (t143_2.Null)]))), (8, .val (.ptr 116 (t120_2.B.toNat * 7))), (9, .val (.p (.agg [sC t143_4.Classes, i6 (t143_4.First.N), sW t143_4.First.Words, i6 (t143_4.Last.N), sW t143_4.Last.Words, sB t143_4.Follow, bo (t143_4.Null)]))), (10, .resP (.tup [.agg [sC t143_6.1.Classes, i6 (t143_6.1.First.N), sW t143_6.1.First.Words, i6 (t143_6.1.Last.N), sW t143_6.1.Last.Words, sB t143_6.1.Follow, bo (t143_6.1.Null)], i6 (t143_6.2)]))] [1, 2, 6, 7, 9] [1, 2, 9, 116] ⟨[(1, .ptr 1 0), (2, .ptr 2 0), (6, .own 116), (7, .p (i6 (x77_1_2))), (9, .ptr 9 0)], [(1, .box 41 [.p (slV e_api_Node a0.Nodes)]), (2, .box 28 [.p (.sl .nil 0 []), .p (i6 (0)), .p (.sl .nil 0 []), .p (i6 (0)), .p (.sl .nil 0 []), .p (.sl .nil 0 []), .p (bo (false))]), (9, .box 28 [.p (sC t143_6.1.Classes), .p (i6 (t143_6.1.First.N)), .p (sW t143_6.1.First.Words), .p (i6 (t143_6.1.Last.N)), .p (sW t143_6.1.Last.Words), .p (sB t143_6.1.Follow), .p (bo (t143_6.1.Null))]), (116, rowV 28 e_api_Nfa x77_1_1)], ⟨[], false⟩, []⟩ (And.intro (IxO 116 7 h143_1) (And.intro (LdO0 Tryd.prog e_api_Nfa 28 h143_1) (And.intro (IxO 116 7 h143_3) (And.intro (LdO0 Tryd.prog e_api_Nfa 28 h143_3) (And.intro ((riddleref10_Cat_okP h143_5)) (And.intro (And.intro (Eq.refl (some (.p (i6 (t143_6.2)) : AV))) (trivial)) (trivial))))))) (by kernel_rfl) (by kernel_rfl) (by kernel_rfl) (by kernel_rfl) ?_
                  refine WX.popBlk ?_
                  exact WC.keep [1, 2, 6, 7, 9] [1, 2, 9, 116] (by kernel_rfl) (hJ123 t143_6.1.Classes t143_6.1.First.N t143_6.1.First.Words t143_6.1.Last.N t143_6.1.Last.Words t143_6.1.Follow t143_6.1.Null h)
                · refine WC.condF c142 (by kernel_rfl) ?_
                  refine WX.seq ?_
                  refine WC.reg (n := 123) hn [] [1, 2, 6, 7, 8, 9, 64, 86] [1, 2, 8, 9, 62, 116, 122] ⟨[(1, .ptr 1 0), (2, .ptr 2 0), (6, .own 116), (7, .p (i6 (x77_1_2))), (8, .ptr 8 0), (9, .ptr 9 0), (64, .p (i6 (t120_2.Kind))), (86, .p (bo (((t120_2.Kind == 4)))))], [(1, .box 41 [.p (slV e_api_Node a0.Nodes)]), (2, .box 28 [.p (.sl .nil 0 []), .p (i6 (0)), .p (.sl .nil 0 []), .p (i6 (0)), .p (.sl .nil 0 []), .p (.sl .nil 0 []), .p (bo (false))]), (8, .box 73 [.p (i6 (t120_2.Kind)), .p (.s (.int .u64 t120_2.Class.a0)), .p (.s (.int .u64 t120_2.Class.a1)), .p (.s (.int .u64 t120_2.Class.a2)), .p (.s (.int .u64 t120_2.Class.a3)), .p (i6 (t120_2.A)), .p (i6 (t120_2.B)), .p (i6 (t120_2.Least)), .p (i6 (t120_2.Most)), .p (bo (t120_2.Lazy))]), (9, .box 28 [.p (sC t121_2.Classes), .p (i6 (t121_2.First.N)), .own 62, .p (i6 (t121_2.Last.N)), .own 122, .p (sB t121_2.Follow), .p (bo (t121_2.Null))]), (62, rowV 69 (eI .u64) t121_2.First.Words), (116, rowV 28 e_api_Nfa x77_1_1), (122, rowV 69 (eI .u64) t121_2.Last.Words)], ⟨[], false⟩, []⟩ trivial (by kernel_rfl) ?_
                  rcases if_or h with ⟨c145, h⟩ | ⟨c145, h⟩
                  · refine WC.condT c145 (by kernel_rfl) ?_
                    obtain ⟨t146_2, h146_1, h⟩ := bind_some h
                    obtain ⟨t146_4, h146_3, h⟩ := bind_some h
                    obtain ⟨t146_6, h146_5, h⟩ := bind_some h
                    refine WC.drw (n := 123) hn [(14, [13])] [] [(3, .val (.ptr 116 (t120_2.A.toNat * 7))), (4, .val (.p (.agg [sC t146_2.Classes, i6 (t146_2.First.N), sW t146_2.First.Words, i6 (t146_2.Last.N), sW t146_2.Last.Words, sB t146_2.Follow, bo (t146_2.Null)]))), (8, .val (.ptr 116 (t120_2.B.toNat * 7))), (9, .val (.p (.agg [sC t146_4.Classes, i6 (t146_4.First.N), sW t146_4.First.Words, i6 (t146_4.Last.N), sW t146_4.Last.Words, sB t146_4.Follow, bo (t146_4.Null)]))), (10, .resP (.tup [.agg [sC t146_6.1.Classes, i6 (t146_6.1.First.N), sW t146_6.1.First.Words, i6 (t146_6.1.Last.N), sW t146_6.1.Last.Words, sB t146_6.1.Follow, bo (t146_6.1.Null)], i6 (t146_6.2)]))] [1, 2, 6, 7, 9] [1, 2, 9, 116] ⟨[(1, .ptr 1 0), (2, .ptr 2 0), (6, .own 116), (7, .p (i6 (x77_1_2))), (9, .ptr 9 0)], [(1, .box 41 [.p (slV e_api_Node a0.Nodes)]), (2, .box 28 [.p (.sl .nil 0 []), .p (i6 (0)), .p (.sl .nil 0 []), .p (i6 (0)), .p (.sl .nil 0 []), .p (.sl .nil 0 []), .p (bo (false))]), (9, .box 28 [.p (sC t146_6.1.Classes), .p (i6 (t146_6.1.First.N)), .p (sW t146_6.1.First.Words), .p (i6 (t146_6.1.Last.N)), .p (sW t146_6.1.Last.Words), .p (sB t146_6.1.Follow), .p (bo (t146_6.1.Null))]), (116, rowV 28 e_api_Nfa x77_1_1)], ⟨[], false⟩, []⟩ (And.intro (IxO 116 7 h146_1) (And.intro (LdO0 Tryd.prog e_api_Nfa 28 h146_1) (And.intro (IxO 116 7 h146_3) (And.intro (LdO0 Tryd.prog e_api_Nfa 28 h146_3) (And.intro ((riddleref10_Alt_okP h146_5)) (And.intro (And.intro (Eq.refl (some (.p (i6 (t146_6.2)) : AV))) (trivial)) (trivial))))))) (by kernel_rfl) (by kernel_rfl) (by kernel_rfl) (by kernel_rfl) ?_
                    refine WX.popBlk ?_
                    exact WC.keep [1, 2, 6, 7, 9] [1, 2, 9, 116] (by kernel_rfl) (hJ123 t146_6.1.Classes t146_6.1.First.N t146_6.1.First.Words t146_6.1.Last.N t146_6.1.Last.Words t146_6.1.Follow t146_6.1.Null h)
                  · refine WC.condF c145 (by kernel_rfl) ?_
                    refine WX.seq ?_
                    refine WC.reg (n := 123) hn [] [1, 2, 6, 7, 8, 9, 102] [1, 2, 8, 9, 62, 116, 122] ⟨[(1, .ptr 1 0), (2, .ptr 2 0), (6, .own 116), (7, .p (i6 (x77_1_2))), (8, .ptr 8 0), (9, .ptr 9 0), (102, .p (bo (((t120_2.Kind == 5)))))], [(1, .box 41 [.p (slV e_api_Node a0.Nodes)]), (2, .box 28 [.p (.sl .nil 0 []), .p (i6 (0)), .p (.sl .nil 0 []), .p (i6 (0)), .p (.sl .nil 0 []), .p (.sl .nil 0 []), .p (bo (false))]), (8, .box 73 [.p (i6 (t120_2.Kind)), .p (.s (.int .u64 t120_2.Class.a0)), .p (.s (.int .u64 t120_2.Class.a1)), .p (.s (.int .u64 t120_2.Class.a2)), .p (.s (.int .u64 t120_2.Class.a3)), .p (i6 (t120_2.A)), .p (i6 (t120_2.B)), .p (i6 (t120_2.Least)), .p (i6 (t120_2.Most)), .p (bo (t120_2.Lazy))]), (9, .box 28 [.p (sC t121_2.Classes), .p (i6 (t121_2.First.N)), .own 62, .p (i6 (t121_2.Last.N)), .own 122, .p (sB t121_2.Follow), .p (bo (t121_2.Null))]), (62, rowV 69 (eI .u64) t121_2.First.Words), (116, rowV 28 e_api_Nfa x77_1_1), (122, rowV 69 (eI .u64) t121_2.Last.Words)], ⟨[], false⟩, []⟩ trivial (by kernel_rfl) ?_
                    rcases if_or h with ⟨c148, h⟩ | ⟨c148, h⟩
                    · refine WC.condT c148 (by kernel_rfl) ?_
                      obtain ⟨t149_2, h149_1, h⟩ := bind_some h
                      obtain ⟨t149_4, h149_3, h⟩ := bind_some h
                      refine WC.reg (n := 123) hn [(3, .val (.ptr 116 (t120_2.A.toNat * 7))), (4, .val (.p (.agg [sC t149_2.Classes, i6 (t149_2.First.N), sW t149_2.First.Words, i6 (t149_2.Last.N), sW t149_2.Last.Words, sB t149_2.Follow, bo (t149_2.Null)]))), (5, .co [] [] [] [(110, rowV 25 e_api_Bits t149_4.1.Follow)] (.tup [.agg [.p (sC t149_4.1.Classes), .p (i6 (t149_4.1.First.N)), .p (sW t149_4.1.First.Words), .p (i6 (t149_4.1.Last.N)), .p (sW t149_4.1.Last.Words), .own 110, .p (bo (t149_4.1.Null))], .p (i6 (t149_4.2))]))] [1, 2, 6, 7, 9] [1, 2, 9, 110, 116] ⟨[(1, .ptr 1 0), (2, .ptr 2 0), (6, .own 116), (7, .p (i6 (x77_1_2))), (9, .ptr 9 0)], [(1, .box 41 [.p (slV e_api_Node a0.Nodes)]), (2, .box 28 [.p (.sl .nil 0 []), .p (i6 (0)), .p (.sl .nil 0 []), .p (i6 (0)), .p (.sl .nil 0 []), .p (.sl .nil 0 []), .p (bo (false))]), (9, .box 28 [.p (sC t149_4.1.Classes), .p (i6 (t149_4.1.First.N)), .p (sW t149_4.1.First.Words), .p (i6 (t149_4.1.Last.N)), .p (sW t149_4.1.Last.Words), .own 110, .p (bo (t149_4.1.Null))]), (110, rowV 25 e_api_Bits t149_4.1.Follow), (116, rowV 28 e_api_Nfa x77_1_1)], ⟨[], false⟩, []⟩ (And.intro (IxO 116 7 h149_1) (And.intro (LdO0 Tryd.prog e_api_Nfa 28 h149_1) (And.intro (And.intro ((riddleref10_Star_ok h149_3).ren 27 110 (by kernel_rfl)) (trivial)) (trivial)))) (by kernel_rfl) ?_
                      refine WX.popBlk ?_
                      refine WC.frz 110 (st' := ⟨[(1, .ptr 1 0), (2, .ptr 2 0), (6, .own 116), (7, .p (i6 (x77_1_2))), (9, .ptr 9 0)], [(1, .box 41 [.p (slV e_api_Node a0.Nodes)]), (2, .box 28 [.p (.sl .nil 0 []), .p (i6 (0)), .p (.sl .nil 0 []), .p (i6 (0)), .p (.sl .nil 0 []), .p (.sl .nil 0 []), .p (bo (false))]), (9, .box 28 [.p (sC t149_4.1.Classes), .p (i6 (t149_4.1.First.N)), .p (sW t149_4.1.First.Words), .p (i6 (t149_4.1.Last.N)), .p (sW t149_4.1.Last.Words), .p (sB t149_4.1.Follow), .p (bo (t149_4.1.Null))]), (116, rowV 28 e_api_Nfa x77_1_1)], ⟨[], false⟩, []⟩) (by kernel_rfl) ?_
                      exact WC.keep [1, 2, 6, 7, 9] [1, 2, 9, 116] (by kernel_rfl) (hJ123 t149_4.1.Classes t149_4.1.First.N t149_4.1.First.Words t149_4.1.Last.N t149_4.1.Last.Words t149_4.1.Follow t149_4.1.Null h)
                    · refine WC.condF c148 (by kernel_rfl) ?_
                      refine WX.skip ?_
                      refine WX.popBlk ?_
                      refine WC.keep [1, 2, 6, 7, 9] [1, 2, 9, 62, 116, 122] (st' := ⟨[(1, .ptr 1 0), (2, .ptr 2 0), (6, .own 116), (7, .p (i6 (x77_1_2))), (9, .ptr 9 0)], [(1, .box 41 [.p (slV e_api_Node a0.Nodes)]), (2, .box 28 [.p (.sl .nil 0 []), .p (i6 (0)), .p (.sl .nil 0 []), .p (i6 (0)), .p (.sl .nil 0 []), .p (.sl .nil 0 []), .p (bo (false))]), (9, .box 28 [.p (sC t121_2.Classes), .p (i6 (t121_2.First.N)), .own 62, .p (i6 (t121_2.Last.N)), .own 122, .p (sB t121_2.Follow), .p (bo (t121_2.Null))]), (62, rowV 69 (eI .u64) t121_2.First.Words), (116, rowV 28 e_api_Nfa x77_1_1), (122, rowV 69 (eI .u64) t121_2.Last.Words)], ⟨[], false⟩, []⟩) (by kernel_rfl) ?_
                      refine WC.frz 62 (st' := ⟨[(1, .ptr 1 0), (2, .ptr 2 0), (6, .own 116), (7, .p (i6 (x77_1_2))), (9, .ptr 9 0)], [(1, .box 41 [.p (slV e_api_Node a0.Nodes)]), (2, .box 28 [.p (.sl .nil 0 []), .p (i6 (0)), .p (.sl .nil 0 []), .p (i6 (0)), .p (.sl .nil 0 []), .p (.sl .nil 0 []), .p (bo (false))]), (9, .box 28 [.p (sC t121_2.Classes), .p (i6 (t121_2.First.N)), .p (sW t121_2.First.Words), .p (i6 (t121_2.Last.N)), .own 122, .p (sB t121_2.Follow), .p (bo (t121_2.Null))]), (116, rowV 28 e_api_Nfa x77_1_1), (122, rowV 69 (eI .u64) t121_2.Last.Words)], ⟨[], false⟩, []⟩) (by kernel_rfl) ?_
                      refine WC.frz 122 (st' := ⟨[(1, .ptr 1 0), (2, .ptr 2 0), (6, .own 116), (7, .p (i6 (x77_1_2))), (9, .ptr 9 0)], [(1, .box 41 [.p (slV e_api_Node a0.Nodes)]), (2, .box 28 [.p (.sl .nil 0 []), .p (i6 (0)), .p (.sl .nil 0 []), .p (i6 (0)), .p (.sl .nil 0 []), .p (.sl .nil 0 []), .p (bo (false))]), (9, .box 28 [.p (sC t121_2.Classes), .p (i6 (t121_2.First.N)), .p (sW t121_2.First.Words), .p (i6 (t121_2.Last.N)), .p (sW t121_2.Last.Words), .p (sB t121_2.Follow), .p (bo (t121_2.Null))]), (116, rowV 28 e_api_Nfa x77_1_1)], ⟨[], false⟩, []⟩) (by kernel_rfl) ?_
                      exact WC.keep [1, 2, 6, 7, 9] [1, 2, 9, 116] (by kernel_rfl) (hJ123 t121_2.Classes t121_2.First.N t121_2.First.Words t121_2.Last.N t121_2.Last.Words t121_2.Follow t121_2.Null h)
          · refine WC.condF c119 (by kernel_rfl) ?_
            refine WX.exit ?_
            refine WX.popCodeExit ?_
            refine WC.exit_nil (hexit77 _ _ (by simp) ?_)
            refine WX.popBlkHit ?_
            exact WC.keep [2, 6] [2, 116] (by kernel_rfl) (hJ34 x77_1_1 h)
    · replace hJ7 := fun y7_1 => hJ7 y7_1
      refine WX.block ?_
      refine WC.loop (V := Int × Int) (riddleref10_Of_l1 a0 J7) r (fun v150 => ⟨[(1, .ptr 1 0), (2, .ptr 2 0), (4, .p (i6 (v150.1))), (5, .p (i6 (v150.2)))], [(1, .box 41 [.p (slV e_api_Node a0.Nodes)]), (2, .box 28 [.p (.sl .nil 0 []), .p (i6 (0)), .p (.sl .nil 0 []), .p (i6 (0)), .p (.sl .nil 0 []), .p (.sl .nil 0 []), .p (bo (false))])], ⟨[], false⟩, []⟩) _ (0, 0) h (fun _ => rfl) [1, 2, 4, 5] [1, 2] (by kernel_rfl) ?_
      clear h; rintro k ⟨x150_1_1, x150_1_2⟩ h K150 hnext150 hexit150
      rw [riddleref10_Of_l1] at h
      refine WX.seq ?_
      refine WX.seq ?_
      refine WC.reg (n := 123) hn [] [1, 2, 4, 5, 18] [1, 2] ⟨[(1, .ptr 1 0), (2, .ptr 2 0), (4, .p (i6 (x150_1_1))), (5, .p (i6 (x150_1_2))), (18, .p (bo (((decide (x150_1_2 < (a0.Nodes.length : Int)))))))], [(1, .box 41 [.p (slV e_api_Node a0.Nodes)]), (2, .box 28 [.p (.sl .nil 0 []), .p (i6 (0)), .p (.sl .nil 0 []), .p (i6 (0)), .p (.sl .nil 0 []), .p (.sl .nil 0 []), .p (bo (false))])], ⟨[], false⟩, []⟩ trivial (by kernel_rfl) ?_
      rcases if_or h with ⟨c172, h⟩ | ⟨c172, h⟩
      · refine WC.condT c172 (by kernel_rfl) ?_
        refine WX.skip ?_
        refine WX.seq ?_
        refine WX.block ?_
        refine WX.seq ?_
        refine WX.seq ?_
        obtain ⟨t173_2, h173_1, h⟩ := bind_some h
        refine WC.via (α := Bool) (fun v173 => ⟨[(1, .ptr 1 0), (2, .ptr 2 0), (4, .p (i6 (x150_1_1))), (5, .p (i6 (x150_1_2))), (36, .p (bo (v173)))], [(1, .box 41 [.p (slV e_api_Node a0.Nodes)]), (2, .box 28 [.p (.sl .nil 0 []), .p (i6 (0)), .p (.sl .nil 0 []), .p (i6 (0)), .p (.sl .nil 0 []), .p (.sl .nil 0 []), .p (bo (false))])], ⟨[], false⟩, []⟩) ((((t173_2.Kind == 6)) || ((t173_2.Kind == 7)))) (fun hk => ?_) ?_
        · rcases Bool.eq_false_or_eq_true ((t173_2.Kind == 6)) with b173_7 | b173_7
          · exact WC.reg (n := 123) hn [(3, .val (.p (.rop (e_api_Node.cells t173_2 ++ encL e_api_Node (a0.Nodes.drop (x150_1_2.toNat + 1)))))), (7, .val (.p (bo (true))))] [1, 2, 4, 5, 36] [1, 2] ⟨[(1, .ptr 1 0), (2, .ptr 2 0), (4, .p (i6 (x150_1_1))), (5, .p (i6 (x150_1_2))), (36, .p (bo (true)))], [(1, .box 41 [.p (slV e_api_Node a0.Nodes)]), (2, .box 28 [.p (.sl .nil 0 []), .p (i6 (0)), .p (.sl .nil 0 []), .p (i6 (0)), .p (.sl .nil 0 []), .p (.sl .nil 0 []), .p (bo (false))])], ⟨[], false⟩, []⟩ (And.intro (Ix e_api_Node h173_1) (And.intro (Bl b173_7) (trivial))) (by kernel_rfl) (hk true (by first | (rw [b173_7]; rfl) | simp [b173_7]))
          · exact WC.reg (n := 123) hn [(3, .val (.p (.rop (e_api_Node.cells t173_2 ++ encL e_api_Node (a0.Nodes.drop (x150_1_2.toNat + 1)))))), (7, .val (.p (bo (false)))), (11, .val (.p (.rop (e_api_Node.cells t173_2 ++ encL e_api_Node (a0.Nodes.drop (x150_1_2.toNat + 1))))))] [1, 2, 4, 5, 36] [1, 2] ⟨[(1, .ptr 1 0), (2, .ptr 2 0), (4, .p (i6 (x150_1_1))), (5, .p (i6 (x150_1_2))), (36, .p (bo (((t173_2.Kind == 7)))))], [(1, .box 41 [.p (slV e_api_Node a0.Nodes)]), (2, .box 28 [.p (.sl .nil 0 []), .p (i6 (0)), .p (.sl .nil 0 []), .p (i6 (0)), .p (.sl .nil 0 []), .p (.sl .nil 0 []), .p (bo (false))])], ⟨[], false⟩, []⟩ (And.intro (Ix e_api_Node h173_1) (And.intro (Bl b173_7) (And.intro (Ix e_api_Node h173_1) (trivial)))) (by kernel_rfl) (hk ((t173_2.Kind == 7)) (by first | (rw [b173_7]; rfl) | simp [b173_7]))
        rcases if_or h with ⟨c174, h⟩ | ⟨c174, h⟩
        · refine WC.condT c174 (by kernel_rfl) ?_
          refine WX.seq ?_
          refine WC.reg (n := 123) hn [] [2, 3] [2] ⟨[(2, .ptr 2 0), (3, .p (i6 (1)))], [(2, .box 28 [.p (.sl .nil 0 []), .p (i6 (0)), .p (.sl .nil 0 []), .p (i6 (0)), .p (.sl .nil 0 []), .p (.sl .nil 0 []), .p (bo (false))])], ⟨[], false⟩, []⟩ trivial (by kernel_rfl) ?_
          refine WX.ret ?_
          refine WC.ret_all (hexit150 _ _ (by simp) ?_)
          exact WC.outP (by rw [← Option.some.inj h]; kernel_rfl)
        · refine WC.condF c174 (by kernel_rfl) ?_
          refine WX.skip ?_
          refine WX.seq ?_
          obtain ⟨t176_2, h176_1, h⟩ := bind_some h
          refine WC.reg (n := 123) hn [(3, .val (.p (.rop (e_api_Node.cells t176_2 ++ encL e_api_Node (a0.Nodes.drop (x150_1_2.toNat + 1))))))] [1, 2, 4, 5, 44] [1, 2] ⟨[(1, .ptr 1 0), (2, .ptr 2 0), (4, .p (i6 (x150_1_1))), (5, .p (i6 (x150_1_2))), (44, .p (bo (((t176_2.Kind == 2)))))], [(1, .box 41 [.p (slV e_api_Node a0.Nodes)]), (2, .box 28 [.p (.sl .nil 0 []), .p (i6 (0)), .p (.sl .nil 0 []), .p (i6 (0)), .p (.sl .nil 0 []), .p (.sl .nil 0 []), .p (bo (false))])], ⟨[], false⟩, []⟩ (And.intro (Ix e_api_Node h176_1) (trivial)) (by kernel_rfl) ?_
          rcases if_or h with ⟨c177, h⟩ | ⟨c177, h⟩
          · refine WC.condT c177 (by kernel_rfl) ?_
            refine WC.reg (n := 123) hn [] [1, 2, 4, 5] [1, 2] ⟨[(1, .ptr 1 0), (2, .ptr 2 0), (4, .p (i6 (((IntKind.i64.wrap (x150_1_1 + 1)))))), (5, .p (i6 (x150_1_2)))], [(1, .box 41 [.p (slV e_api_Node a0.Nodes)]), (2, .box 28 [.p (.sl .nil 0 []), .p (i6 (0)), .p (.sl .nil 0 []), .p (i6 (0)), .p (.sl .nil 0 []), .p (.sl .nil 0 []), .p (bo (false))])], ⟨[], false⟩, []⟩ trivial (by kernel_rfl) ?_
            refine WX.popBlk ?_
            refine WC.reg (n := 123) hn [] [1, 2, 4, 5] [1, 2] ⟨[(1, .ptr 1 0), (2, .ptr 2 0), (4, .p (i6 (((IntKind.i64.wrap (x150_1_1 + 1)))))), (5, .p (i6 (((IntKind.i64.wrap (x150_1_2 + 1))))))], [(1, .box 41 [.p (slV e_api_Node a0.Nodes)]), (2, .box 28 [.p (.sl .nil 0 []), .p (i6 (0)), .p (.sl .nil 0 []), .p (i6 (0)), .p (.sl .nil 0 []), .p (.sl .nil 0 []), .p (bo (false))])], ⟨[], false⟩, []⟩ trivial (by kernel_rfl) ?_
            exact WC.next [1, 2, 4, 5] [1, 2] (by kernel_rfl) (hnext150 ((IntKind.i64.wrap (x150_1_1 + 1)), (IntKind.i64.wrap (x150_1_2 + 1))) h)
          · refine WC.condF c177 (by kernel_rfl) ?_
            refine WX.skip ?_
            refine WX.popBlk ?_
            refine WC.reg (n := 123) hn [] [1, 2, 4, 5] [1, 2] ⟨[(1, .ptr 1 0), (2, .ptr 2 0), (4, .p (i6 (x150_1_1))), (5, .p (i6 (((IntKind.i64.wrap (x150_1_2 + 1))))))], [(1, .box 41 [.p (slV e_api_Node a0.Nodes)]), (2, .box 28 [.p (.sl .nil 0 []), .p (i6 (0)), .p (.sl .nil 0 []), .p (i6 (0)), .p (.sl .nil 0 []), .p (.sl .nil 0 []), .p (bo (false))])], ⟨[], false⟩, []⟩ trivial (by kernel_rfl) ?_
            exact WC.next [1, 2, 4, 5] [1, 2] (by kernel_rfl) (hnext150 (x150_1_1, (IntKind.i64.wrap (x150_1_2 + 1))) h)
      · refine WC.condF c172 (by kernel_rfl) ?_
        refine WX.exit ?_
        refine WX.popCodeExit ?_
        refine WC.exit_nil (hexit150 _ _ (by simp) ?_)
        refine WX.popBlkHit ?_
        exact WC.keep [1, 2, 4] [1, 2] (by kernel_rfl) (hJ7 x150_1_1 h)
def riddleref05_Empty  : Option (api_Tree) :=
  some ((api_Tree.mk ([(api_Node.mk 1 ((Arr4.mk 0 0 0 0)) 0 0 0 0 false)])))
theorem riddleref05_Empty_ok  {r : api_Tree} (h : riddleref05_Empty = some r) : AnsO Tryd.prog 68 [] [] [(2, rowV 73 e_api_Node r.Nodes)] (.agg [.own 2]) := by
  refine W_fnO [2] Tryd.func68 rfl (by kernel_rfl) (by kernel_rfl) (by kernel_rfl) (by kernel_rfl) ?_
  intro X hro hn
  unfold riddleref05_Empty at h
  refine WX.seq ?_
  refine WC.reg (n := 4) hn [] [0] [0] ⟨[(0, .ptr 0 0)], [(0, .box 41 [.p (.sl .nil 0 [])])], ⟨[], false⟩, []⟩ trivial (by kernel_rfl) ?_
  refine WX.seq ?_
  refine WC.reg (n := 4) hn [] [0] [0, 2] ⟨[(0, .ptr 0 0)], [(0, .box 41 [.own 2]), (2, rowV 73 e_api_Node ([(api_Node.mk 1 ((Arr4.mk 0 0 0 0)) 0 0 0 0 false)]))], ⟨[], false⟩, []⟩ trivial (by kernel_rfl) ?_
  refine WX.ret ?_
  exact WC.outO (by rw [← Option.some.inj h]; kernel_rfl)
theorem riddleref05_Empty_okP  {r : api_Tree} (h : riddleref05_Empty = some r) : Ans Tryd.prog 68 [] (.agg [slV e_api_Node r.Nodes]) := AnsO.ans (args := []) (riddleref05_Empty_ok h) (by kernel_rfl)
def riddleref05_placed_l0 (a0 : (List api_Node)) (a1 : api_Tree) (J4 : List api_Node → Option ((List api_Node))) : Nat → (List api_Node × Int) → Option ((List api_Node))
  | 0, _ => none
  | k + 1, (x33_1_1, x33_1_2) => (if (decide (x33_1_2 < (a1.Nodes.length : Int))) = true then (at_ a1.Nodes x33_1_2).bind fun t62_2 => jn (fun (v64 : Int) => jn (fun (v68 : Int) => (if okApp 80 (x33_1_1.length + ([(api_Node.mk t62_2.Kind t62_2.Class v68 v64 t62_2.Least t62_2.Most t62_2.Lazy)]).length) then riddleref05_placed_l0 a0 a1 J4 k (x33_1_1 ++ ([(api_Node.mk t62_2.Kind t62_2.Class v68 v64 t62_2.Least t62_2.Most t62_2.Lazy)]), (IntKind.i64.wrap (x33_1_2 + 1))) else none)) fun J68 => (if (((t62_2.Kind == 3)) || ((((t62_2.Kind == 4)) || ((t62_2.Kind == 5))))) = true then J68 ((IntKind.i64.wrap (t62_2.A + (a0.length : Int)))) else J68 t62_2.A)) fun J64 => (if (((t62_2.Kind == 3)) || ((t62_2.Kind == 4))) = true then J64 ((IntKind.i64.wrap (t62_2.B + (a0.length : Int)))) else J64 t62_2.B) else J4 x33_1_1)
def riddleref05_placed (k : Nat) (a0 : (List api_Node)) (a1 : api_Tree) : Option ((List api_Node)) :=
  jn (fun (v4 : List api_Node) => some v4) fun J4 => riddleref05_placed_l0 a0 a1 J4 k (a0, 0)
theorem riddleref05_placed_ok {k : Nat} {a0 : (List api_Node)} {a1 : api_Tree} {r : (List api_Node)} (h : riddleref05_placed k a0 a1 = some r) : AnsO Tryd.prog 69 [(1000, rowV 73 e_api_Node a0)] [.own 1000, .p (.agg [slV e_api_Node a1.Nodes])] [(56, rowV 73 e_api_Node r)] (.own 56) := by
  refine W_fnO [56] Tryd.func69 rfl (by kernel_rfl) (by kernel_rfl) (by kernel_rfl) (by kernel_rfl) ?_
  intro X hro hn
  unfold riddleref05_placed at h
  refine WX.seq ?_
  refine WC.reg (n := 58) hn [] [0, 3] [3, 1000] ⟨[(0, .own 1000), (3, .ptr 3 0)], [(3, .box 41 [.p (slV e_api_Node a1.Nodes)]), (1000, rowV 73 e_api_Node a0)], ⟨[], false⟩, []⟩ trivial (by kernel_rfl) ?_
  refine WX.seq ?_
  refine WC.reg (n := 58) hn [] [0, 3, 5] [3, 1000] ⟨[(0, .own 1000), (3, .ptr 3 0), (5, .p (i6 (((a0.length : Int)))))], [(3, .box 41 [.p (slV e_api_Node a1.Nodes)]), (1000, rowV 73 e_api_Node a0)], ⟨[], false⟩, []⟩ trivial (by kernel_rfl) ?_
  refine WX.seq ?_
  refine WX.seq ?_
  refine WC.reg (n := 58) hn [] [0, 3, 5, 6] [3, 1000] ⟨[(0, .own 1000), (3, .ptr 3 0), (5, .p (i6 (((a0.length : Int))))), (6, .p (i6 (0)))], [(3, .box 41 [.p (slV e_api_Node a1.Nodes)]), (1000, rowV 73 e_api_Node a0)], ⟨[], false⟩, []⟩ trivial (by kernel_rfl) ?_
  obtain ⟨J4, eJ4, h⟩ := jn_some h
  try dsimp only at h
  refine WC.join (α := List api_Node) (fun v4 => ⟨[(0, .own 56)], [(56, rowV 73 e_api_Node v4)], ⟨[], false⟩, []⟩) (fun v4 => J4 v4 = some r) ?_ (fun hJ4 => ?_)
  · rintro y4_1 h
    rw [eJ4] at h
    try dsimp only at h
    refine WX.seq ?_
    refine WC.reg (n := 58) hn [] [4] [56] ⟨[(4, .own 56)], [(56, rowV 73 e_api_Node y4_1)], ⟨[], false⟩, []⟩ trivial (by kernel_rfl) ?_
    refine WX.ret ?_
    exact WC.outO (by rw [← Option.some.inj h]; kernel_rfl)
  · replace hJ4 := fun y4_1 => hJ4 y4_1
    refine WX.block ?_
    refine WC.ren (n := 58) hn 1000 56 (by kernel_rfl) [0, 3, 5, 6] [3, 56] (st' := ⟨[(0, .own 56), (3, .ptr 3 0), (5, .p (i6 (((a0.length : Int))))), (6, .p (i6 (0)))], [(3, .box 41 [.p (slV e_api_Node a1.Nodes)]), (56, rowV 73 e_api_Node a0)], ⟨[], false⟩, []⟩) (by kernel_rfl) ?_
    refine WC.loop (V := List api_Node × Int) (riddleref05_placed_l0 a0 a1 J4) r (fun v33 => ⟨[(0, .own 56), (3, .ptr 3 0), (5, .p (i6 (((a0.length : Int))))), (6, .p (i6 (v33.2)))], [(3, .box 41 [.p (slV e_api_Node a1.Nodes)]), (56, rowV 73 e_api_Node v33.1)], ⟨[], false⟩, []⟩) _ (a0, 0) h (fun _ => rfl) [0, 3, 5, 6] [3, 56] (by kernel_rfl) ?_
    clear h; rintro k ⟨x33_1_1, x33_1_2⟩ h K33 hnext33 hexit33
    rw [riddleref05_placed_l0] at h
    refine WX.seq ?_
    refine WX.seq ?_
    refine WC.reg (n := 58) hn [] [0, 3, 5, 6, 14] [3, 56] ⟨[(0, .own 56), (3, .ptr 3 0), (5, .p (i6 (((a0.length : Int))))), (6, .p (i6 (x33_1_2))), (14, .p (bo (((decide (x33_1_2 < (a1.Nodes.length : Int)))))))], [(3, .box 41 [.p (slV e_api_Node a1.Nodes)]), (56, rowV 73 e_api_Node x33_1_1)], ⟨[], false⟩, []⟩ trivial (by kernel_rfl) ?_
    rcases if_or h with ⟨c61, h⟩ | ⟨c61, h⟩
    · refine WC.condT c61 (by kernel_rfl) ?_
      refine WX.skip ?_
      refine WX.seq ?_
      refine WX.block ?_
      refine WX.seq ?_
      obtain ⟨t62_2, h62_1, h⟩ := bind_some h
      refine WC.reg (n := 58) hn [(3, .val (.p (.rop (e_api_Node.cells t62_2 ++ encL e_api_Node (a1.Nodes.drop (x33_1_2.toNat + 1))))))] [0, 3, 5, 6, 7] [3, 7, 56] ⟨[(0, .own 56), (3, .ptr 3 0), (5, .p (i6 (((a0.length : Int))))), (6, .p (i6 (x33_1_2))), (7, .ptr 7 0)], [(3, .box 41 [.p (slV e_api_Node a1.Nodes)]), (7, .box 73 [.p (i6 (t62_2.Kind)), .p (.s (.int .u64 t62_2.Class.a0)), .p (.s (.int .u64 t62_2.Class.a1)), .p (.s (.int .u64 t62_2.Class.a2)), .p (.s (.int .u64 t62_2.Class.a3)), .p (i6 (t62_2.A)), .p (i6 (t62_2.B)), .p (i6 (t62_2.Least)), .p (i6 (t62_2.Most)), .p (bo (t62_2.Lazy))]), (56, rowV 73 e_api_Node x33_1_1)], ⟨[], false⟩, []⟩ (And.intro (Ix e_api_Node h62_1) (trivial)) (by kernel_rfl) ?_
      refine WX.seq ?_
      refine WX.seq ?_
      refine WC.via (α := Bool) (fun v63 => ⟨[(0, .own 56), (3, .ptr 3 0), (5, .p (i6 (((a0.length : Int))))), (6, .p (i6 (x33_1_2))), (7, .ptr 7 0), (29, .p (bo (v63)))], [(3, .box 41 [.p (slV e_api_Node a1.Nodes)]), (7, .box 73 [.p (i6 (t62_2.Kind)), .p (.s (.int .u64 t62_2.Class.a0)), .p (.s (.int .u64 t62_2.Class.a1)), .p (.s (.int .u64 t62_2.Class.a2)), .p (.s (.int .u64 t62_2.Class.a3)), .p (i6 (t62_2.A)), .p (i6 (t62_2.B)), .p (i6 (t62_2.Least)), .p (i6 (t62_2.Most)), .p (bo (t62_2.Lazy))]), (56, rowV 73 e_api_Node x33_1_1)], ⟨[], false⟩, []⟩) ((((t62_2.Kind == 3)) || ((t62_2.Kind == 4)))) (fun hk => ?_) ?_
      · rcases Bool.eq_false_or_eq_true ((t62_2.Kind == 3)) with b63_3 | b63_3
        · exact WC.reg (n := 58) hn [(3, .val (.p (bo (true))))] [0, 3, 5, 6, 7, 29] [3, 7, 56] ⟨[(0, .own 56), (3, .ptr 3 0), (5, .p (i6 (((a0.length : Int))))), (6, .p (i6 (x33_1_2))), (7, .ptr 7 0), (29, .p (bo (true)))], [(3, .box 41 [.p (slV e_api_Node a1.Nodes)]), (7, .box 73 [.p (i6 (t62_2.Kind)), .p (.s (.int .u64 t62_2.Class.a0)), .p (.s (.int .u64 t62_2.Class.a1)), .p (.s (.int .u64 t62_2.Class.a2)), .p (.s (.int .u64 t62_2.Class.a3)), .p (i6 (t62_2.A)), .p (i6 (t62_2.B)), .p (i6 (t62_2.Least)), .p (i6 (t62_2.Most)), .p (bo (t62_2.Lazy))]), (56, rowV 73 e_api_Node x33_1_1)], ⟨[], false⟩, []⟩ (And.intro (Bl b63_3) (trivial)) (by kernel_rfl) (hk true (by first | (rw [b63_3]; rfl) | simp [b63_3]))
        · exact WC.reg (n := 58) hn [(3, .val (.p (bo (false))))] [0, 3, 5, 6, 7, 29] [3, 7, 56] ⟨[(0, .own 56), (3, .ptr 3 0), (5, .p (i6 (((a0.length : Int))))), (6, .p (i6 (x33_1_2))), (7, .ptr 7 0), (29, .p (bo (((t62_2.Kind == 4)))))], [(3, .box 41 [.p (slV e_api_Node a1.Nodes)]), (7, .box 73 [.p (i6 (t62_2.Kind)), .p (.s (.int .u64 t62_2.Class.a0)), .p (.s (.int .u64 t62_2.Class.a1)), .p (.s (.int .u64 t62_2.Class.a2)), .p (.s (.int .u64 t62_2.Class.a3)), .p (i6 (t62_2.A)), .p (i6 (t62_2.B)), .p (i6 (t62_2.Least)), .p (i6 (t62_2.Most)), .p (bo (t62_2.Lazy))]), (56, rowV 73 e_api_Node x33_1_1)], ⟨[], false⟩, []⟩ (And.intro (Bl b63_3) (trivial)) (by kernel_rfl) (hk ((t62_2.Kind == 4)) (by first | (rw [b63_3]; rfl) | simp [b63_3]))
      obtain ⟨J64, eJ64, h⟩ := jn_some h
      try dsimp only at h
      refine WC.join (α := Int) (fun v64 => ⟨[(0, .own 56), (3, .ptr 3 0), (5, .p (i6 (((a0.length : Int))))), (6, .p (i6 (x33_1_2))), (7, .ptr 7 0)], [(3, .box 41 [.p (slV e_api_Node a1.Nodes)]), (7, .box 73 [.p (i6 (t62_2.Kind)), .p (.s (.int .u64 t62_2.Class.a0)), .p (.s (.int .u64 t62_2.Class.a1)), .p (.s (.int .u64 t62_2.Class.a2)), .p (.s (.int .u64 t62_2.Class.a3)), .p (i6 (t62_2.A)), .p (i6 (v64)), .p (i6 (t62_2.Least)), .p (i6 (t62_2.Most)), .p (bo (t62_2.Lazy))]), (56, rowV 73 e_api_Node x33_1_1)], ⟨[], false⟩, []⟩) (fun v64 => J64 v64 = some r) ?_ (fun hJ64 => ?_)
      · rintro y64_1 h
        rw [eJ64] at h
        try dsimp only at h
        refine WX.seq ?_
        refine WX.seq ?_
        refine WC.via (α := Bool) (fun v67 => ⟨[(0, .own 56), (3, .ptr 3 0), (5, .p (i6 (((a0.length : Int))))), (6, .p (i6 (x33_1_2))), (7, .ptr 7 0), (47, .p (bo (v67)))], [(3, .box 41 [.p (slV e_api_Node a1.Nodes)]), (7, .box 73 [.p (i6 (t62_2.Kind)), .p (.s (.int .u64 t62_2.Class.a0)), .p (.s (.int .u64 t62_2.Class.a1)), .p (.s (.int .u64 t62_2.Class.a2)), .p (.s (.int .u64 t62_2.Class.a3)), .p (i6 (t62_2.A)), .p (i6 (y64_1)), .p (i6 (t62_2.Least)), .p (i6 (t62_2.Most)), .p (bo (t62_2.Lazy))]), (56, rowV 73 e_api_Node x33_1_1)], ⟨[], false⟩, []⟩) ((((t62_2.Kind == 3)) || ((((t62_2.Kind == 4)) || ((t62_2.Kind == 5)))))) (fun hk => ?_) ?_
        · rcases Bool.eq_false_or_eq_true ((t62_2.Kind == 3)) with b67_3 | b67_3
          · exact WC.reg (n := 58) hn [(3, .val (.p (bo (true))))] [0, 3, 5, 6, 7, 47] [3, 7, 56] ⟨[(0, .own 56), (3, .ptr 3 0), (5, .p (i6 (((a0.length : Int))))), (6, .p (i6 (x33_1_2))), (7, .ptr 7 0), (47, .p (bo (true)))], [(3, .box 41 [.p (slV e_api_Node a1.Nodes)]), (7, .box 73 [.p (i6 (t62_2.Kind)), .p (.s (.int .u64 t62_2.Class.a0)), .p (.s (.int .u64 t62_2.Class.a1)), .p (.s (.int .u64 t62_2.Class.a2)), .p (.s (.int .u64 t62_2.Class.a3)), .p (i6 (t62_2.A)), .p (i6 (y64_1)), .p (i6 (t62_2.Least)), .p (i6 (t62_2.Most)), .p (bo (t62_2.Lazy))]), (56, rowV 73 e_api_Node x33_1_1)], ⟨[], false⟩, []⟩ (And.intro (Bl b67_3) (trivial)) (by kernel_rfl) (hk true (by first | (rw [b67_3]; rfl) | simp [b67_3]))
          · rcases Bool.eq_false_or_eq_true ((t62_2.Kind == 4)) with b67_8 | b67_8
            · exact WC.reg (n := 58) hn [(3, .val (.p (bo (false)))), (8, .val (.p (bo (true))))] [0, 3, 5, 6, 7, 47] [3, 7, 56] ⟨[(0, .own 56), (3, .ptr 3 0), (5, .p (i6 (((a0.length : Int))))), (6, .p (i6 (x33_1_2))), (7, .ptr 7 0), (47, .p (bo (true)))], [(3, .box 41 [.p (slV e_api_Node a1.Nodes)]), (7, .box 73 [.p (i6 (t62_2.Kind)), .p (.s (.int .u64 t62_2.Class.a0)), .p (.s (.int .u64 t62_2.Class.a1)), .p (.s (.int .u64 t62_2.Class.a2)), .p (.s (.int .u64 t62_2.Class.a3)), .p (i6 (t62_2.A)), .p (i6 (y64_1)), .p (i6 (t62_2.Least)), .p (i6 (t62_2.Most)), .p (bo (t62_2.Lazy))]), (56, rowV 73 e_api_Node x33_1_1)], ⟨[], false⟩, []⟩ (And.intro (Bl b67_3) (And.intro (Bl b67_8) (trivial))) (by kernel_rfl) (hk true (by first | (rw [b67_3, b67_8]; rfl) | simp [b67_3, b67_8]))
            · exact WC.reg (n := 58) hn [(3, .val (.p (bo (false)))), (8, .val (.p (bo (false))))] [0, 3, 5, 6, 7, 47] [3, 7, 56] ⟨[(0, .own 56), (3, .ptr 3 0), (5, .p (i6 (((a0.length : Int))))), (6, .p (i6 (x33_1_2))), (7, .ptr 7 0), (47, .p (bo (((t62_2.Kind == 5)))))], [(3, .box 41 [.p (slV e_api_Node a1.Nodes)]), (7, .box 73 [.p (i6 (t62_2.Kind)), .p (.s (.int .u64 t62_2.Class.a0)), .p (.s (.int .u64 t62_2.Class.a1)), .p (.s (.int .u64 t62_2.Class.a2)), .p (.s (.int .u64 t62_2.Class.a3)), .p (i6 (t62_2.A)), .p (i6 (y64_1)), .p (i6 (t62_2.Least)), .p (i6 (t62_2.Most)), .p (bo (t62_2.Lazy))]), (56, rowV 73 e_api_Node x33_1_1)], ⟨[], false⟩, []⟩ (And.intro (Bl b67_3) (And.intro (Bl b67_8) (trivial))) (by kernel_rfl) (hk ((t62_2.Kind == 5)) (by first | (rw [b67_3, b67_8]; rfl) | simp [b67_3, b67_8]))
        obtain ⟨J68, eJ68, h⟩ := jn_some h
        try dsimp only at h
        refine WC.join (α := Int) (fun v68 => ⟨[(0, .own 56), (3, .ptr 3 0), (5, .p (i6 (((a0.length : Int))))), (6, .p (i6 (x33_1_2))), (7, .ptr 7 0)], [(3, .box 41 [.p (slV e_api_Node a1.Nodes)]), (7, .box 73 [.p (i6 (t62_2.Kind)), .p (.s (.int .u64 t62_2.Class.a0)), .p (.s (.int .u64 t62_2.Class.a1)), .p (.s (.int .u64 t62_2.Class.a2)), .p (.s (.int .u64 t62_2.Class.a3)), .p (i6 (v68)), .p (i6 (y64_1)), .p (i6 (t62_2.Least)), .p (i6 (t62_2.Most)), .p (bo (t62_2.Lazy))]), (56, rowV 73 e_api_Node x33_1_1)], ⟨[], false⟩, []⟩) (fun v68 => J68 v68 = some r) ?_ (fun hJ68 => ?_)
        · rintro y68_1 h
          rw [eJ68] at h
          try dsimp only at h
          obtain ⟨c71_1, h⟩ := if_some h
          refine WC.reg (n := 58) hn [(3, .app (some 56) (rowV 73 e_api_Node (x33_1_1 ++ ([(api_Node.mk t62_2.Kind t62_2.Class y68_1 y64_1 t62_2.Least t62_2.Most t62_2.Lazy)]))))] [0, 3, 5, 6] [3, 56] ⟨[(0, .own 56), (3, .ptr 3 0), (5, .p (i6 (((a0.length : Int))))), (6, .p (i6 (x33_1_2)))], [(3, .box 41 [.p (slV e_api_Node a1.Nodes)]), (56, rowV 73 e_api_Node (x33_1_1 ++ ([(api_Node.mk t62_2.Kind t62_2.Class y68_1 y64_1 t62_2.Least t62_2.Most t62_2.Lazy)])))], ⟨[], false⟩, []⟩ (And.intro (Ap e_api_Node (some 56) 73 80 10 x33_1_1 ([(api_Node.mk t62_2.Kind t62_2.Class y68_1 y64_1 t62_2.Least t62_2.Most t62_2.Lazy)]) c71_1) (trivial)) (by kernel_rfl) ?_
          refine WX.popBlk ?_
          refine WC.reg (n := 58) hn [] [0, 3, 5, 6] [3, 56] ⟨[(0, .own 56), (3, .ptr 3 0), (5, .p (i6 (((a0.length : Int))))), (6, .p (i6 (((IntKind.i64.wrap (x33_1_2 + 1))))))], [(3, .box 41 [.p (slV e_api_Node a1.Nodes)]), (56, rowV 73 e_api_Node (x33_1_1 ++ ([(api_Node.mk t62_2.Kind t62_2.Class y68_1 y64_1 t62_2.Least t62_2.Most t62_2.Lazy)])))], ⟨[], false⟩, []⟩ trivial (by kernel_rfl) ?_
          exact WC.next [0, 3, 5, 6] [3, 56] (by kernel_rfl) (hnext33 (x33_1_1 ++ ([(api_Node.mk t62_2.Kind t62_2.Class y68_1 y64_1 t62_2.Least t62_2.Most t62_2.Lazy)]), (IntKind.i64.wrap (x33_1_2 + 1))) h)
        · replace hJ68 := fun y68_1 => hJ68 y68_1
          rcases if_or h with ⟨c73, h⟩ | ⟨c73, h⟩
          · refine WC.condT c73 (by kernel_rfl) ?_
            refine WC.reg (n := 58) hn [] [0, 3, 5, 6, 7] [3, 7, 56] ⟨[(0, .own 56), (3, .ptr 3 0), (5, .p (i6 (((a0.length : Int))))), (6, .p (i6 (x33_1_2))), (7, .ptr 7 0)], [(3, .box 41 [.p (slV e_api_Node a1.Nodes)]), (7, .box 73 [.p (i6 (t62_2.Kind)), .p (.s (.int .u64 t62_2.Class.a0)), .p (.s (.int .u64 t62_2.Class.a1)), .p (.s (.int .u64 t62_2.Class.a2)), .p (.s (.int .u64 t62_2.Class.a3)), .p (i6 (((IntKind.i64.wrap (t62_2.A + (a0.length : Int)))))), .p (i6 (y64_1)), .p (i6 (t62_2.Least)), .p (i6 (t62_2.Most)), .p (bo (t62_2.Lazy))]), (56, rowV 73 e_api_Node x33_1_1)], ⟨[], false⟩, []⟩ trivial (by kernel_rfl) ?_
            exact WC.keep [0, 3, 5, 6, 7] [3, 7, 56] (by kernel_rfl) (hJ68 ((IntKind.i64.wrap (t62_2.A + (a0.length : Int)))) h)
          · refine WC.condF c73 (by kernel_rfl) ?_
            refine WX.skip ?_
            exact WC.keep [0, 3, 5, 6, 7] [3, 7, 56] (by kernel_rfl) (hJ68 t62_2.A h)
      · replace hJ64 := fun y64_1 => hJ64 y64_1
        rcases if_or h with ⟨c75, h⟩ | ⟨c75, h⟩
        · refine WC.condT c75 (by kernel_rfl) ?_
          refine WC.reg (n := 58) hn [] [0, 3, 5, 6, 7] [3, 7, 56] ⟨[(0, .own 56), (3, .ptr 3 0), (5, .p (i6 (((a0.length : Int))))), (6, .p (i6 (x33_1_2))), (7, .ptr 7 0)], [(3, .box 41 [.p (slV e_api_Node a1.Nodes)]), (7, .box 73 [.p (i6 (t62_2.Kind)), .p (.s (.int .u64 t62_2.Class.a0)), .p (.s (.int .u64 t62_2.Class.a1)), .p (.s (.int .u64 t62_2.Class.a2)), .p (.s (.int .u64 t62_2.Class.a3)), .p (i6 (t62_2.A)), .p (i6 (((IntKind.i64.wrap (t62_2.B + (a0.length : Int)))))), .p (i6 (t62_2.Least)), .p (i6 (t62_2.Most)), .p (bo (t62_2.Lazy))]), (56, rowV 73 e_api_Node x33_1_1)], ⟨[], false⟩, []⟩ trivial (by kernel_rfl) ?_
          exact WC.keep [0, 3, 5, 6, 7] [3, 7, 56] (by kernel_rfl) (hJ64 ((IntKind.i64.wrap (t62_2.B + (a0.length : Int)))) h)
        · refine WC.condF c75 (by kernel_rfl) ?_
          refine WX.skip ?_
          exact WC.keep [0, 3, 5, 6, 7] [3, 7, 56] (by kernel_rfl) (hJ64 t62_2.B h)
    · refine WC.condF c61 (by kernel_rfl) ?_
      refine WX.exit ?_
      refine WX.popCodeExit ?_
      refine WC.exit_nil (hexit33 _ _ (by simp) ?_)
      refine WX.popBlkHit ?_
      exact WC.keep [0] [56] (by kernel_rfl) (hJ4 x33_1_1 h)
def riddleref05_may (k : Nat) (a0 : api_Tree) : Option (api_Tree) :=
  (riddleref05_May k a0).bind fun t2_2 => (if (!t2_2) = true then (riddleref05_Empty).bind fun t4_2 => some t4_2 else some a0)
theorem riddleref05_may_ok {k : Nat} {a0 : api_Tree} {r : api_Tree} (h : riddleref05_may k a0 = some r) : Ans Tryd.prog 70 [.agg [slV e_api_Node a0.Nodes]] (.agg [slV e_api_Node r.Nodes]) := by
  refine W_fn Tryd.func70 rfl (by kernel_rfl) (by kernel_rfl) ?_
  intro X hro hn
  unfold riddleref05_may at h
  refine WX.seq ?_
  refine WC.reg (n := 8) hn [] [1, 2] [1, 2] ⟨[(1, .ptr 1 0), (2, .ptr 2 0)], [(1, .box 41 [.p (slV e_api_Node a0.Nodes)]), (2, .box 41 [.p (.sl .nil 0 [])])], ⟨[], false⟩, []⟩ trivial (by kernel_rfl) ?_
  refine WX.seq ?_
  refine WX.seq ?_
  obtain ⟨t2_2, h2_1, h⟩ := bind_some h
  refine WC.reg (n := 8) hn [(1, .resP (bo (t2_2)))] [1, 2, 5] [1, 2] ⟨[(1, .ptr 1 0), (2, .ptr 2 0), (5, .p (bo (((!t2_2)))))], [(1, .box 41 [.p (slV e_api_Node a0.Nodes)]), (2, .box 41 [.p (.sl .nil 0 [])])], ⟨[], false⟩, []⟩ (And.intro ((riddleref05_May_ok h2_1)) (trivial)) (by kernel_rfl) ?_
  rcases if_or h with ⟨c3, h⟩ | ⟨c3, h⟩
  · refine WC.condT c3 (by kernel_rfl) ?_
    refine WX.seq ?_
    obtain ⟨t4_2, h4_1, h⟩ := bind_some h
    refine WC.reg (n := 8) hn [(0, .co [] [] [] [(6, rowV 73 e_api_Node t4_2.Nodes)] (.agg [.own 6]))] [2] [2, 6] ⟨[(2, .ptr 2 0)], [(2, .box 41 [.own 6]), (6, rowV 73 e_api_Node t4_2.Nodes)], ⟨[], false⟩, []⟩ (And.intro (And.intro ((riddleref05_Empty_ok h4_1).ren 2 6 (by kernel_rfl)) (trivial)) (trivial)) (by kernel_rfl) ?_
    refine WX.ret ?_
    exact WC.outP (by rw [← Option.some.inj h]; kernel_rfl)
  · refine WC.condF c3 (by kernel_rfl) ?_
    refine WX.skip ?_
    refine WX.seq ?_
    refine WC.reg (n := 8) hn [] [2] [2] ⟨[(2, .ptr 2 0)], [(2, .box 41 [.p (slV e_api_Node a0.Nodes)])], ⟨[], false⟩, []⟩ trivial (by kernel_rfl) ?_
    refine WX.ret ?_
    exact WC.outP (by rw [← Option.some.inj h]; kernel_rfl)
def riddleref05_Join (k : Nat) (a0 : Int) (a1 : api_Tree) (a2 : api_Tree) : Option (api_Tree) :=
  (if (((a0 != 3)) && ((a0 != 4))) = true then (riddleref05_Empty).bind fun t4_2 => some t4_2 else (riddleref05_may k a1).bind fun t5_2 => (riddleref05_placed k ([]) t5_2).bind fun t5_4 => (riddleref05_may k a2).bind fun t7_2 => (riddleref05_placed k t5_4 t7_2).bind fun t7_4 => (if okApp 80 (t7_4.length + ([(api_Node.mk a0 ((Arr4.mk 0 0 0 0)) ((IntKind.i64.wrap ((t5_4.length : Int) - 1))) ((IntKind.i64.wrap ((t7_4.length : Int) - 1))) 0 0 false)]).length) then some ((api_Tree.mk (t7_4 ++ ([(api_Node.mk a0 ((Arr4.mk 0 0 0 0)) ((IntKind.i64.wrap ((t5_4.length : Int) - 1))) ((IntKind.i64.wrap ((t7_4.length : Int) - 1))) 0 0 false)])))) else none))
theorem riddleref05_Join_ok {k : Nat} {a0 : Int} {a1 : api_Tree} {a2 : api_Tree} {r : api_Tree} (h : riddleref05_Join k a0 a1 a2 = some r) : AnsO Tryd.prog 32 [] [.p (i6 (a0)), .p (.agg [slV e_api_Node a1.Nodes]), .p (.agg [slV e_api_Node a2.Nodes])] [(15, rowV 73 e_api_Node r.Nodes)] (.agg [.own 15]) := by
  refine W_fnO [15] Tryd.func32 rfl (by kernel_rfl) (by kernel_rfl) (by kernel_rfl) (by kernel_rfl) ?_
  intro X hro hn
  unfold riddleref05_Join at h
  refine WX.seq ?_
  refine WC.reg (n := 36) hn [] [0, 4, 5, 6] [4, 5, 6] ⟨[(0, .p (i6 (a0))), (4, .ptr 4 0), (5, .ptr 5 0), (6, .ptr 6 0)], [(4, .box 41 [.p (slV e_api_Node a1.Nodes)]), (5, .box 41 [.p (slV e_api_Node a2.Nodes)]), (6, .box 41 [.p (.sl .nil 0 [])])], ⟨[], false⟩, []⟩ trivial (by kernel_rfl) ?_
  refine WX.seq ?_
  refine WX.seq ?_
  refine WC.via (α := Bool) (fun v2 => ⟨[(0, .p (i6 (a0))), (4, .ptr 4 0), (5, .ptr 5 0), (6, .ptr 6 0), (14, .p (bo (v2)))], [(4, .box 41 [.p (slV e_api_Node a1.Nodes)]), (5, .box 41 [.p (slV e_api_Node a2.Nodes)]), (6, .box 41 [.p (.sl .nil 0 [])])], ⟨[], false⟩, []⟩) ((((a0 != 3)) && ((a0 != 4)))) (fun hk => ?_) ?_
  · rcases Bool.eq_false_or_eq_true ((a0 != 3)) with b2_2 | b2_2
    · exact WC.reg (n := 36) hn [(2, .val (.p (bo (true))))] [0, 4, 5, 6, 14] [4, 5, 6] ⟨[(0, .p (i6 (a0))), (4, .ptr 4 0), (5, .ptr 5 0), (6, .ptr 6 0), (14, .p (bo (((a0 != 4)))))], [(4, .box 41 [.p (slV e_api_Node a1.Nodes)]), (5, .box 41 [.p (slV e_api_Node a2.Nodes)]), (6, .box 41 [.p (.sl .nil 0 [])])], ⟨[], false⟩, []⟩ (And.intro (Bl b2_2) (trivial)) (by kernel_rfl) (hk ((a0 != 4)) (by first | (rw [b2_2]; rfl) | simp [b2_2]))
    · exact WC.reg (n := 36) hn [(2, .val (.p (bo (false))))] [0, 4, 5, 6, 14] [4, 5, 6] ⟨[(0, .p (i6 (a0))), (4, .ptr 4 0), (5, .ptr 5 0), (6, .ptr 6 0), (14, .p (bo (false)))], [(4, .box 41 [.p (slV e_api_Node a1.Nodes)]), (5, .box 41 [.p (slV e_api_Node a2.Nodes)]), (6, .box 41 [.p (.sl .nil 0 [])])], ⟨[], false⟩, []⟩ (And.intro (Bl b2_2) (trivial)) (by kernel_rfl) (hk false (by first | (rw [b2_2]; rfl) | simp [b2_2]))
  rcases if_or h with ⟨c3, h⟩ | ⟨c3, h⟩
  · refine WC.condT c3 (by kernel_rfl) ?_
    refine WX.seq ?_
    obtain ⟨t4_2, h4_1, h⟩ := bind_some h
    refine WC.reg (n := 36) hn [(0, .co [] [] [] [(15, rowV 73 e_api_Node t4_2.Nodes)] (.agg [.own 15]))] [6] [6, 15] ⟨[(6, .ptr 6 0)], [(6, .box 41 [.own 15]), (15, rowV 73 e_api_Node t4_2.Nodes)], ⟨[], false⟩, []⟩ (And.intro (And.intro ((riddleref05_Empty_ok h4_1).ren 2 15 (by kernel_rfl)) (trivial)) (trivial)) (by kernel_rfl) ?_
    refine WX.ret ?_
    exact WC.outO (by rw [← Option.some.inj h]; kernel_rfl)
  · refine WC.condF c3 (by kernel_rfl) ?_
    refine WX.skip ?_
    refine WX.seq ?_
    obtain ⟨t5_2, h5_1, h⟩ := bind_some h
    obtain ⟨t5_4, h5_3, h⟩ := bind_some h
    refine WC.reg (n := 36) hn [(1, .resP (.agg [slV e_api_Node t5_2.Nodes])), (2, .co [0] [] [] [(18, rowV 73 e_api_Node t5_4)] (.own 18))] [0, 5, 6, 7] [5, 6, 18] ⟨[(0, .p (i6 (a0))), (5, .ptr 5 0), (6, .ptr 6 0), (7, .own 18)], [(5, .box 41 [.p (slV e_api_Node a2.Nodes)]), (6, .box 41 [.p (.sl .nil 0 [])]), (18, rowV 73 e_api_Node t5_4)], ⟨[], false⟩, []⟩ (And.intro ((riddleref05_may_ok h5_1)) (And.intro (And.intro (((riddleref05_placed_ok h5_3).nil 1000 (by kernel_rfl)).ren 56 18 (by kernel_rfl)) (trivial)) (trivial))) (by kernel_rfl) ?_
    refine WX.seq ?_
    refine WC.reg (n := 36) hn [] [0, 5, 6, 7, 8] [5, 6, 18] ⟨[(0, .p (i6 (a0))), (5, .ptr 5 0), (6, .ptr 6 0), (7, .own 18), (8, .p (i6 (((IntKind.i64.wrap ((t5_4.length : Int) - 1))))))], [(5, .box 41 [.p (slV e_api_Node a2.Nodes)]), (6, .box 41 [.p (.sl .nil 0 [])]), (18, rowV 73 e_api_Node t5_4)], ⟨[], false⟩, []⟩ trivial (by kernel_rfl) ?_
    refine WX.seq ?_
    obtain ⟨t7_2, h7_1, h⟩ := bind_some h
    obtain ⟨t7_4, h7_3, h⟩ := bind_some h
    refine WC.reg (n := 36) hn [(2, .resP (.agg [slV e_api_Node t7_2.Nodes])), (3, .co [] [18] [] [(25, rowV 73 e_api_Node t7_4)] (.own 25))] [0, 6, 7, 8] [6, 25] ⟨[(0, .p (i6 (a0))), (6, .ptr 6 0), (7, .own 25), (8, .p (i6 (((IntKind.i64.wrap ((t5_4.length : Int) - 1))))))], [(6, .box 41 [.p (.sl .nil 0 [])]), (25, rowV 73 e_api_Node t7_4)], ⟨[], false⟩, []⟩ (And.intro ((riddleref05_may_ok h7_1)) (And.intro (And.intro (((riddleref05_placed_ok h7_3).ren 1000 18 (by kernel_rfl)).ren 56 25 (by kernel_rfl)) (trivial)) (trivial))) (by kernel_rfl) ?_
    refine WX.seq ?_
    obtain ⟨c8_1, h⟩ := if_some h
    refine WC.reg (n := 36) hn [(8, .app (some 25) (rowV 73 e_api_Node (t7_4 ++ ([(api_Node.mk a0 ((Arr4.mk 0 0 0 0)) ((IntKind.i64.wrap ((t5_4.length : Int) - 1))) ((IntKind.i64.wrap ((t7_4.length : Int) - 1))) 0 0 false)]))))] [6] [6, 34] ⟨[(6, .ptr 6 0)], [(6, .box 41 [.own 34]), (34, rowV 73 e_api_Node (t7_4 ++ ([(api_Node.mk a0 ((Arr4.mk 0 0 0 0)) ((IntKind.i64.wrap ((t5_4.length : Int) - 1))) ((IntKind.i64.wrap ((t7_4.length : Int) - 1))) 0 0 false)])))], ⟨[], false⟩, []⟩ (And.intro (Ap e_api_Node (some 25) 73 80 10 t7_4 ([(api_Node.mk a0 ((Arr4.mk 0 0 0 0)) ((IntKind.i64.wrap ((t5_4.length : Int) - 1))) ((IntKind.i64.wrap ((t7_4.length : Int) - 1))) 0 0 false)]) c8_1) (trivial)) (by kernel_rfl) ?_
    refine WX.ret ?_
    refine WC.ren (n := 36) hn 34 15 (by kernel_rfl) [6] [6, 15] (st' := ⟨[(6, .ptr 6 0)], [(6, .box 41 [.own 15]), (15, rowV 73 e_api_Node (t7_4 ++ ([(api_Node.mk a0 ((Arr4.mk 0 0 0 0)) ((IntKind.i64.wrap ((t5_4.length : Int) - 1))) ((IntKind.i64.wrap ((t7_4.length : Int) - 1))) 0 0 false)])))], ⟨[], false⟩, []⟩) (by kernel_rfl) ?_
    exact WC.outO (by rw [← Option.some.inj h]; kernel_rfl)
theorem riddleref05_Join_okP {k : Nat} {a0 : Int} {a1 : api_Tree} {a2 : api_Tree} {r : api_Tree} (h : riddleref05_Join k a0 a1 a2 = some r) : Ans Tryd.prog 32 [i6 (a0), .agg [slV e_api_Node a1.Nodes], .agg [slV e_api_Node a2.Nodes]] (.agg [slV e_api_Node r.Nodes]) := AnsO.ans (args := [i6 (a0), .agg [slV e_api_Node a1.Nodes], .agg [slV e_api_Node a2.Nodes]]) (riddleref05_Join_ok h) (by kernel_rfl)
def riddleref05_Leaf (a0 : api_Node) : Option (api_Tree) :=
  (if (((a0.Kind == 3)) || ((((a0.Kind == 4)) || ((((a0.Kind == 5)) || ((((decide (a0.Kind < 1))) || ((decide (a0.Kind > 7)))))))))) = true then (riddleref05_Empty).bind fun t4_2 => some t4_2 else some ((api_Tree.mk ([(api_Node.mk a0.Kind a0.Class 0 0 a0.Least a0.Most a0.Lazy)]))))
theorem riddleref05_Leaf_ok {a0 : api_Node} {r : api_Tree} (h : riddleref05_Leaf a0 = some r) : AnsO Tryd.prog 71 [] [.p (.agg [i6 (a0.Kind), .s (.int .u64 a0.Class.a0), .s (.int .u64 a0.Class.a1), .s (.int .u64 a0.Class.a2), .s (.int .u64 a0.Class.a3), i6 (a0.A), i6 (a0.B), i6 (a0.Least), i6 (a0.Most), bo (a0.Lazy)])] [(26, rowV 73 e_api_Node r.Nodes)] (.agg [.own 26]) := by
  refine W_fnO [26] Tryd.func71 rfl (by kernel_rfl) (by kernel_rfl) (by kernel_rfl) (by kernel_rfl) ?_
  intro X hro hn
  unfold riddleref05_Leaf at h
  refine WX.seq ?_
  refine WC.reg (n := 32) hn [] [1, 2] [1, 2] ⟨[(1, .ptr 1 0), (2, .ptr 2 0)], [(1, .box 73 [.p (i6 (a0.Kind)), .p (.s (.int .u64 a0.Class.a0)), .p (.s (.int .u64 a0.Class.a1)), .p (.s (.int .u64 a0.Class.a2)), .p (.s (.int .u64 a0.Class.a3)), .p (i6 (a0.A)), .p (i6 (a0.B)), .p (i6 (a0.Least)), .p (i6 (a0.Most)), .p (bo (a0.Lazy))]), (2, .box 41 [.p (.sl .nil 0 [])])], ⟨[], false⟩, []⟩ trivial (by kernel_rfl) ?_
  refine WX.seq ?_
  refine WX.seq ?_
  refine WC.via (α := Bool) (fun v2 => ⟨[(1, .ptr 1 0), (2, .ptr 2 0), (25, .p (bo (v2)))], [(1, .box 73 [.p (i6 (a0.Kind)), .p (.s (.int .u64 a0.Class.a0)), .p (.s (.int .u64 a0.Class.a1)), .p (.s (.int .u64 a0.Class.a2)), .p (.s (.int .u64 a0.Class.a3)), .p (i6 (a0.A)), .p (i6 (a0.B)), .p (i6 (a0.Least)), .p (i6 (a0.Most)), .p (bo (a0.Lazy))]), (2, .box 41 [.p (.sl .nil 0 [])])], ⟨[], false⟩, []⟩) ((((a0.Kind == 3)) || ((((a0.Kind == 4)) || ((((a0.Kind == 5)) || ((((decide (a0.Kind < 1))) || ((decide (a0.Kind > 7))))))))))) (fun hk => ?_) ?_
  · rcases Bool.eq_false_or_eq_true ((a0.Kind == 3)) with b2_3 | b2_3
    · exact WC.reg (n := 32) hn [(3, .val (.p (bo (true))))] [1, 2, 25] [1, 2] ⟨[(1, .ptr 1 0), (2, .ptr 2 0), (25, .p (bo (true)))], [(1, .box 73 [.p (i6 (a0.Kind)), .p (.s (.int .u64 a0.Class.a0)), .p (.s (.int .u64 a0.Class.a1)), .p (.s (.int .u64 a0.Class.a2)), .p (.s (.int .u64 a0.Class.a3)), .p (i6 (a0.A)), .p (i6 (a0.B)), .p (i6 (a0.Least)), .p (i6 (a0.Most)), .p (bo (a0.Lazy))]), (2, .box 41 [.p (.sl .nil 0 [])])], ⟨[], false⟩, []⟩ (And.intro (Bl b2_3) (trivial)) (by kernel_rfl) (hk true (by first | (rw [b2_3]; rfl) | simp [b2_3]))
    · rcases Bool.eq_false_or_eq_true ((a0.Kind == 4)) with b2_8 | b2_8
      · exact WC.reg (n := 32) hn [(3, .val (.p (bo (false)))), (8, .val (.p (bo (true))))] [1, 2, 25] [1, 2] ⟨[(1, .ptr 1 0), (2, .ptr 2 0), (25, .p (bo (true)))], [(1, .box 73 [.p (i6 (a0.Kind)), .p (.s (.int .u64 a0.Class.a0)), .p (.s (.int .u64 a0.Class.a1)), .p (.s (.int .u64 a0.Class.a2)), .p (.s (.int .u64 a0.Class.a3)), .p (i6 (a0.A)), .p (i6 (a0.B)), .p (i6 (a0.Least)), .p (i6 (a0.Most)), .p (bo (a0.Lazy))]), (2, .box 41 [.p (.sl .nil 0 [])])], ⟨[], false⟩, []⟩ (And.intro (Bl b2_3) (And.intro (Bl b2_8) (trivial))) (by kernel_rfl) (hk true (by first | (rw [b2_3, b2_8]; rfl) | simp [b2_3, b2_8]))
      · rcases Bool.eq_false_or_eq_true ((a0.Kind == 5)) with b2_13 | b2_13
        · exact WC.reg (n := 32) hn [(3, .val (.p (bo (false)))), (8, .val (.p (bo (false)))), (13, .val (.p (bo (true))))] [1, 2, 25] [1, 2] ⟨[(1, .ptr 1 0), (2, .ptr 2 0), (25, .p (bo (true)))], [(1, .box 73 [.p (i6 (a0.Kind)), .p (.s (.int .u64 a0.Class.a0)), .p (.s (.int .u64 a0.Class.a1)), .p (.s (.int .u64 a0.Class.a2)), .p (.s (.int .u64 a0.Class.a3)), .p (i6 (a0.A)), .p (i6 (a0.B)), .p (i6 (a0.Least)), .p (i6 (a0.Most)), .p (bo (a0.Lazy))]), (2, .box 41 [.p (.sl .nil 0 [])])], ⟨[], false⟩, []⟩ (And.intro (Bl b2_3) (And.intro (Bl b2_8) (And.intro (Bl b2_13) (trivial)))) (by kernel_rfl) (hk true (by first | (rw [b2_3, b2_8, b2_13]; rfl) | simp [b2_3, b2_8, b2_13]))
        · rcases Bool.eq_false_or_eq_true ((decide (a0.Kind < 1))) with b2_18 | b2_18
          · exact WC.reg (n := 32) hn [(3, .val (.p (bo (false)))), (8, .val (.p (bo (false)))), (13, .val (.p (bo (false)))), (18, .val (.p (bo (true))))] [1, 2, 25] [1, 2] ⟨[(1, .ptr 1 0), (2, .ptr 2 0), (25, .p (bo (true)))], [(1, .box 73 [.p (i6 (a0.Kind)), .p (.s (.int .u64 a0.Class.a0)), .p (.s (.int .u64 a0.Class.a1)), .p (.s (.int .u64 a0.Class.a2)), .p (.s (.int .u64 a0.Class.a3)), .p (i6 (a0.A)), .p (i6 (a0.B)), .p (i6 (a0.Least)), .p (i6 (a0.Most)), .p (bo (a0.Lazy))]), (2, .box 41 [.p (.sl .nil 0 [])])], ⟨[], false⟩, []⟩ (And.intro (Bl b2_3) (And.intro (Bl b2_8) (And.intro (Bl b2_13) (And.intro (Bl b2_18) (trivial))))) (by kernel_rfl) (hk true (by first | (rw [b2_3, b2_8, b2_13, b2_18]; rfl) | simp [b2_3, b2_8, b2_13, b2_18]))
          · exact WC.reg (n := 32) hn [(3, .val (.p (bo (false)))), (8, .val (.p (bo (false)))), (13, .val (.p (bo (false)))), (18, .val (.p (bo (false))))] [1, 2, 25] [1, 2] ⟨[(1, .ptr 1 0), (2, .ptr 2 0), (25, .p (bo (((decide (a0.Kind > 7))))))], [(1, .box 73 [.p (i6 (a0.Kind)), .p (.s (.int .u64 a0.Class.a0)), .p (.s (.int .u64 a0.Class.a1)), .p (.s (.int .u64 a0.Class.a2)), .p (.s (.int .u64 a0.Class.a3)), .p (i6 (a0.A)), .p (i6 (a0.B)), .p (i6 (a0.Least)), .p (i6 (a0.Most)), .p (bo (a0.Lazy))]), (2, .box 41 [.p (.sl .nil 0 [])])], ⟨[], false⟩, []⟩ (And.intro (Bl b2_3) (And.intro (Bl b2_8) (And.intro (Bl b2_13) (And.intro (Bl b2_18) (trivial))))) (by kernel_rfl) (hk ((decide (a0.Kind > 7))) (by first | (rw [b2_3, b2_8, b2_13, b2_18]; rfl) | simp [b2_3, b2_8, b2_13, b2_18]))
  rcases if_or h with ⟨c3, h⟩ | ⟨c3, h⟩
  · refine WC.condT c3 (by kernel_rfl) ?_
    refine WX.seq ?_
    obtain ⟨t4_2, h4_1, h⟩ := bind_some h
    refine WC.reg (n := 32) hn [(0, .co [] [] [] [(26, rowV 73 e_api_Node t4_2.Nodes)] (.agg [.own 26]))] [2] [2, 26] ⟨[(2, .ptr 2 0)], [(2, .box 41 [.own 26]), (26, rowV 73 e_api_Node t4_2.Nodes)], ⟨[], false⟩, []⟩ (And.intro (And.intro ((riddleref05_Empty_ok h4_1).ren 2 26 (by kernel_rfl)) (trivial)) (trivial)) (by kernel_rfl) ?_
    refine WX.ret ?_
    exact WC.outO (by rw [← Option.some.inj h]; kernel_rfl)
  · refine WC.condF c3 (by kernel_rfl) ?_
    refine WX.skip ?_
    refine WX.seq ?_
    refine WC.reg (n := 32) hn [] [1, 2] [1, 2] ⟨[(1, .ptr 1 0), (2, .ptr 2 0)], [(1, .box 73 [.p (i6 (a0.Kind)), .p (.s (.int .u64 a0.Class.a0)), .p (.s (.int .u64 a0.Class.a1)), .p (.s (.int .u64 a0.Class.a2)), .p (.s (.int .u64 a0.Class.a3)), .p (i6 (0)), .p (i6 (a0.B)), .p (i6 (a0.Least)), .p (i6 (a0.Most)), .p (bo (a0.Lazy))]), (2, .box 41 [.p (.sl .nil 0 [])])], ⟨[], false⟩, []⟩ trivial (by kernel_rfl) ?_
    refine WX.seq ?_
    refine WC.reg (n := 32) hn [] [1, 2] [1, 2] ⟨[(1, .ptr 1 0), (2, .ptr 2 0)], [(1, .box 73 [.p (i6 (a0.Kind)), .p (.s (.int .u64 a0.Class.a0)), .p (.s (.int .u64 a0.Class.a1)), .p (.s (.int .u64 a0.Class.a2)), .p (.s (.int .u64 a0.Class.a3)), .p (i6 (0)), .p (i6 (0)), .p (i6 (a0.Least)), .p (i6 (a0.Most)), .p (bo (a0.Lazy))]), (2, .box 41 [.p (.sl .nil 0 [])])], ⟨[], false⟩, []⟩ trivial (by kernel_rfl) ?_
    refine WX.seq ?_
    refine WC.reg (n := 32) hn [] [2] [2, 30] ⟨[(2, .ptr 2 0)], [(2, .box 41 [.own 30]), (30, rowV 73 e_api_Node ([(api_Node.mk a0.Kind a0.Class 0 0 a0.Least a0.Most a0.Lazy)]))], ⟨[], false⟩, []⟩ trivial (by kernel_rfl) ?_
    refine WX.ret ?_
    refine WC.ren (n := 32) hn 30 26 (by kernel_rfl) [2] [2, 26] (st' := ⟨[(2, .ptr 2 0)], [(2, .box 41 [.own 26]), (26, rowV 73 e_api_Node ([(api_Node.mk a0.Kind a0.Class 0 0 a0.Least a0.Most a0.Lazy)]))], ⟨[], false⟩, []⟩) (by kernel_rfl) ?_
    exact WC.outO (by rw [← Option.some.inj h]; kernel_rfl)
theorem riddleref05_Leaf_okP {a0 : api_Node} {r : api_Tree} (h : riddleref05_Leaf a0 = some r) : Ans Tryd.prog 71 [.agg [i6 (a0.Kind), .s (.int .u64 a0.Class.a0), .s (.int .u64 a0.Class.a1), .s (.int .u64 a0.Class.a2), .s (.int .u64 a0.Class.a3), i6 (a0.A), i6 (a0.B), i6 (a0.Least), i6 (a0.Most), bo (a0.Lazy)]] (.agg [slV e_api_Node r.Nodes]) := AnsO.ans (args := [.agg [i6 (a0.Kind), .s (.int .u64 a0.Class.a0), .s (.int .u64 a0.Class.a1), .s (.int .u64 a0.Class.a2), .s (.int .u64 a0.Class.a3), i6 (a0.A), i6 (a0.B), i6 (a0.Least), i6 (a0.Most), bo (a0.Lazy)]]) (riddleref05_Leaf_ok h) (by kernel_rfl)
def riddlelaw11_one (a0 : Int) : Option (api_Tree) :=
  (if ¬ (a0.tmod 64) < 0 then (if 0 ≤ (IntKind.u8.wrap (a0.tdiv 64)) ∧ (IntKind.u8.wrap (a0.tdiv 64)) < 4 then (riddleref05_Leaf ((api_Node.mk 2 ((Arr4.mk ((set4 0 ((IntKind.u8.wrap (a0.tdiv 64))) ((IntKind.u64.wrap (1 * 2 ^ (min ((a0.tmod 64)).toNat IntKind.u64.bits)))) 0)) ((set4 1 ((IntKind.u8.wrap (a0.tdiv 64))) ((IntKind.u64.wrap (1 * 2 ^ (min ((a0.tmod 64)).toNat IntKind.u64.bits)))) 0)) ((set4 2 ((IntKind.u8.wrap (a0.tdiv 64))) ((IntKind.u64.wrap (1 * 2 ^ (min ((a0.tmod 64)).toNat IntKind.u64.bits)))) 0)) ((set4 3 ((IntKind.u8.wrap (a0.tdiv 64))) ((IntKind.u64.wrap (1 * 2 ^ (min ((a0.tmod 64)).toNat IntKind.u64.bits)))) 0)))) 0 0 0 0 false))).bind fun t4_2 => some t4_2 else none) else none)
theorem riddlelaw11_one_ok {a0 : Int} {r : api_Tree} (h : riddlelaw11_one a0 = some r) : AnsO Tryd.prog 33 [] [.p (.s (.int .u8 a0))] [(13, rowV 73 e_api_Node r.Nodes)] (.agg [.own 13]) := by
  refine W_fnO [13] Tryd.func33 rfl (by kernel_rfl) (by kernel_rfl) (by kernel_rfl) (by kernel_rfl) ?_
  intro X hro hn
  unfold riddlelaw11_one at h
  refine WX.seq ?_
  refine WC.reg (n := 14) hn [] [0, 2] [2] ⟨[(0, .p (.s (.int .u8 a0))), (2, .ptr 2 0)], [(2, .box 41 [.p (.sl .nil 0 [])])], ⟨[], false⟩, []⟩ trivial (by kernel_rfl) ?_
  refine WX.seq ?_
  refine WC.reg (n := 14) hn [] [0, 2, 3] [2, 3] ⟨[(0, .p (.s (.int .u8 a0))), (2, .ptr 2 0), (3, .ptr 3 0)], [(2, .box 41 [.p (.sl .nil 0 [])]), (3, .box 73 [.p (i6 (2)), .p (.s (.int .u64 0)), .p (.s (.int .u64 0)), .p (.s (.int .u64 0)), .p (.s (.int .u64 0)), .p (i6 (0)), .p (i6 (0)), .p (i6 (0)), .p (i6 (0)), .p (bo (false))])], ⟨[], false⟩, []⟩ trivial (by kernel_rfl) ?_
  refine WX.seq ?_
  obtain ⟨c3_1, h⟩ := if_some h
  obtain ⟨c3_2, h⟩ := if_some h
  refine WC.reg (n := 14) hn [(4, .val (.p (.s (.int .u64 (IntKind.u64.wrap (1 * 2 ^ (min ((a0.tmod 64)).toNat IntKind.u64.bits))))))), (6, .val (.ptr 3 (1 + ((IntKind.u8.wrap (a0.tdiv 64))).toNat * 1))), (7, .sto 3 (.box 73 [.p (i6 (2)), .p (.s (.int .u64 ((set4 0 ((IntKind.u8.wrap (a0.tdiv 64))) ((IntKind.u64.wrap (1 * 2 ^ (min ((a0.tmod 64)).toNat IntKind.u64.bits)))) 0)))), .p (.s (.int .u64 ((set4 1 ((IntKind.u8.wrap (a0.tdiv 64))) ((IntKind.u64.wrap (1 * 2 ^ (min ((a0.tmod 64)).toNat IntKind.u64.bits)))) 0)))), .p (.s (.int .u64 ((set4 2 ((IntKind.u8.wrap (a0.tdiv 64))) ((IntKind.u64.wrap (1 * 2 ^ (min ((a0.tmod 64)).toNat IntKind.u64.bits)))) 0)))), .p (.s (.int .u64 ((set4 3 ((IntKind.u8.wrap (a0.tdiv 64))) ((IntKind.u64.wrap (1 * 2 ^ (min ((a0.tmod 64)).toNat IntKind.u64.bits)))) 0)))), .p (i6 (0)), .p (i6 (0)), .p (i6 (0)), .p (i6 (0)), .p (bo (false))]))] [2, 3] [2, 3] ⟨[(2, .ptr 2 0), (3, .ptr 3 0)], [(2, .box 41 [.p (.sl .nil 0 [])]), (3, .box 73 [.p (i6 (2)), .p (.s (.int .u64 ((set4 0 ((IntKind.u8.wrap (a0.tdiv 64))) ((IntKind.u64.wrap (1 * 2 ^ (min ((a0.tmod 64)).toNat IntKind.u64.bits)))) 0)))), .p (.s (.int .u64 ((set4 1 ((IntKind.u8.wrap (a0.tdiv 64))) ((IntKind.u64.wrap (1 * 2 ^ (min ((a0.tmod 64)).toNat IntKind.u64.bits)))) 0)))), .p (.s (.int .u64 ((set4 2 ((IntKind.u8.wrap (a0.tdiv 64))) ((IntKind.u64.wrap (1 * 2 ^ (min ((a0.tmod 64)).toNat IntKind.u64.bits)))) 0)))), .p (.s (.int .u64 ((set4 3 ((IntKind.u8.wrap (a0.tdiv 64))) ((IntKind.u64.wrap (1 * 2 ^ (min ((a0.tmod 64)).toNat IntKind.u64.bits)))) 0)))), .p (i6 (0)), .p (i6 (0)), .p (i6 (0)), .p (i6 (0)), .p (bo (false))])], ⟨[], false⟩, []⟩ (And.intro (Shl .u64 1 ((a0.tmod 64)) c3_1) (And.intro (IxA4 3 1 ((IntKind.u8.wrap (a0.tdiv 64))) c3_2) (And.intro (StA4 3 73 [.p (i6 (2))] .u64 0 0 0 0 [.p (i6 (0)), .p (i6 (0)), .p (i6 (0)), .p (i6 (0)), .p (bo (false))] ((IntKind.u8.wrap (a0.tdiv 64))) ((IntKind.u64.wrap (1 * 2 ^ (min ((a0.tmod 64)).toNat IntKind.u64.bits)))) c3_2) (trivial)))) (by kernel_rfl) ?_
  refine WX.seq ?_
  obtain ⟨t4_2, h4_1, h⟩ := bind_some h
  refine WC.reg (n := 14) hn [(1, .co [] [] [] [(13, rowV 73 e_api_Node t4_2.Nodes)] (.agg [.own 13]))] [2] [2, 13] ⟨[(2, .ptr 2 0)], [(2, .box 41 [.own 13]), (13, rowV 73 e_api_Node t4_2.Nodes)], ⟨[], false⟩, []⟩ (And.intro (And.intro ((riddleref05_Leaf_ok h4_1).ren 26 13 (by kernel_rfl)) (trivial)) (trivial)) (by kernel_rfl) ?_
  refine WX.ret ?_
  exact WC.outO (by rw [← Option.some.inj h]; kernel_rfl)
theorem riddlelaw11_one_okP {a0 : Int} {r : api_Tree} (h : riddlelaw11_one a0 = some r) : Ans Tryd.prog 33 [.s (.int .u8 a0)] (.agg [slV e_api_Node r.Nodes]) := AnsO.ans (args := [.s (.int .u8 a0)]) (riddlelaw11_one_ok h) (by kernel_rfl)
def riddleref05_Repeat (k : Nat) (a0 : api_Tree) (a1 : Int) (a2 : Int) (a3 : Bool) : Option (api_Tree) :=
  (riddleref05_may k a0).bind fun t2_2 => (riddleref05_placed k ([]) t2_2).bind fun t2_4 => (if okApp 80 (t2_4.length + ([(api_Node.mk 5 ((Arr4.mk 0 0 0 0)) ((IntKind.i64.wrap ((t2_4.length : Int) - 1))) 0 a1 a2 a3)]).length) then some ((api_Tree.mk (t2_4 ++ ([(api_Node.mk 5 ((Arr4.mk 0 0 0 0)) ((IntKind.i64.wrap ((t2_4.length : Int) - 1))) 0 a1 a2 a3)])))) else none)
theorem riddleref05_Repeat_ok {k : Nat} {a0 : api_Tree} {a1 : Int} {a2 : Int} {a3 : Bool} {r : api_Tree} (h : riddleref05_Repeat k a0 a1 a2 a3 = some r) : AnsO Tryd.prog 34 [] [.p (.agg [slV e_api_Node a0.Nodes]), .p (i6 (a1)), .p (i6 (a2)), .p (bo (a3))] [(22, rowV 73 e_api_Node r.Nodes)] (.agg [.own 22]) := by
  refine W_fnO [22] Tryd.func34 rfl (by kernel_rfl) (by kernel_rfl) (by kernel_rfl) (by kernel_rfl) ?_
  intro X hro hn
  unfold riddleref05_Repeat at h
  refine WX.seq ?_
  refine WC.reg (n := 24) hn [] [1, 2, 3, 4, 8] [4, 8] ⟨[(1, .p (i6 (a1))), (2, .p (i6 (a2))), (3, .p (bo (a3))), (4, .ptr 4 0), (8, .ptr 8 0)], [(4, .box 41 [.p (slV e_api_Node a0.Nodes)]), (8, .box 41 [.p (.sl .nil 0 [])])], ⟨[], false⟩, []⟩ trivial (by kernel_rfl) ?_
  refine WX.seq ?_
  obtain ⟨t2_2, h2_1, h⟩ := bind_some h
  obtain ⟨t2_4, h2_3, h⟩ := bind_some h
  refine WC.reg (n := 24) hn [(1, .resP (.agg [slV e_api_Node t2_2.Nodes])), (2, .co [0] [] [] [(12, rowV 73 e_api_Node t2_4)] (.own 12))] [1, 2, 3, 8, 9] [8, 12] ⟨[(1, .p (i6 (a1))), (2, .p (i6 (a2))), (3, .p (bo (a3))), (8, .ptr 8 0), (9, .own 12)], [(8, .box 41 [.p (.sl .nil 0 [])]), (12, rowV 73 e_api_Node t2_4)], ⟨[], false⟩, []⟩ (And.intro ((riddleref05_may_ok h2_1)) (And.intro (And.intro (((riddleref05_placed_ok h2_3).nil 1000 (by kernel_rfl)).ren 56 12 (by kernel_rfl)) (trivial)) (trivial))) (by kernel_rfl) ?_
  refine WX.seq ?_
  obtain ⟨c3_1, h⟩ := if_some h
  refine WC.reg (n := 24) hn [(9, .app (some 12) (rowV 73 e_api_Node (t2_4 ++ ([(api_Node.mk 5 ((Arr4.mk 0 0 0 0)) ((IntKind.i64.wrap ((t2_4.length : Int) - 1))) 0 a1 a2 a3)]))))] [8] [8, 22] ⟨[(8, .ptr 8 0)], [(8, .box 41 [.own 22]), (22, rowV 73 e_api_Node (t2_4 ++ ([(api_Node.mk 5 ((Arr4.mk 0 0 0 0)) ((IntKind.i64.wrap ((t2_4.length : Int) - 1))) 0 a1 a2 a3)])))], ⟨[], false⟩, []⟩ (And.intro (Ap e_api_Node (some 12) 73 80 10 t2_4 ([(api_Node.mk 5 ((Arr4.mk 0 0 0 0)) ((IntKind.i64.wrap ((t2_4.length : Int) - 1))) 0 a1 a2 a3)]) c3_1) (trivial)) (by kernel_rfl) ?_
  refine WX.ret ?_
  exact WC.outO (by rw [← Option.some.inj h]; kernel_rfl)
theorem riddleref05_Repeat_okP {k : Nat} {a0 : api_Tree} {a1 : Int} {a2 : Int} {a3 : Bool} {r : api_Tree} (h : riddleref05_Repeat k a0 a1 a2 a3 = some r) : Ans Tryd.prog 34 [.agg [slV e_api_Node a0.Nodes], i6 (a1), i6 (a2), bo (a3)] (.agg [slV e_api_Node r.Nodes]) := AnsO.ans (args := [.agg [slV e_api_Node a0.Nodes], i6 (a1), i6 (a2), bo (a3)]) (riddleref05_Repeat_ok h) (by kernel_rfl)
def riddlelaw11_live (k : Nat)  : Option (Bool) :=
  (riddlelaw11_one 97).bind fun t2_2 => (riddlelaw11_one 98).bind fun t2_4 => (riddleref05_Repeat k t2_4 0 ((-1)) false).bind fun t2_6 => (riddleref05_Join k 3 t2_2 t2_6).bind fun t2_8 => (riddleref10_Of k t2_8).bind fun t2_10 => ((if (t2_10.2 == 0) = true then (riddlelaw11_ends k t2_10.1 ([97, 98, 98, 99]) 0).bind fun t3_2 => (slices_Equal_int_int k t3_2 ([1, 2, 3])).bind fun t3_4 => (if t3_4 = true then (riddlelaw11_events k t2_10.1 ([120, 97, 98, 97, 98]) false false).bind fun t3_6 => (slices_Equal_int_int k t3_6 ([2, 3, 4, 5])).bind fun t3_8 => some t3_8 else some false) else some false) : Option (Bool)).bind fun v3 => some v3
theorem riddlelaw11_live_ok {k : Nat}  {r : Bool} (h : riddlelaw11_live k = some r) : Ans Tryd.prog 8 [] (bo (r)) := by
  refine W_fn Tryd.func8 rfl (by kernel_rfl) (by kernel_rfl) ?_
  intro X hro hn
  unfold riddlelaw11_live at h
  refine WX.seq ?_
  refine WC.reg (n := 29) hn [] [] [] ⟨[], [], ⟨[], false⟩, []⟩ trivial (by kernel_rfl) ?_
  refine WX.seq ?_
  obtain ⟨t2_2, h2_1, h⟩ := bind_some h
  obtain ⟨t2_4, h2_3, h⟩ := bind_some h
  obtain ⟨t2_6, h2_5, h⟩ := bind_some h
  obtain ⟨t2_8, h2_7, h⟩ := bind_some h
  obtain ⟨t2_10, h2_9, h⟩ := bind_some h
  refine WC.reg (n := 29) hn [(0, .resP (.agg [slV e_api_Node t2_2.Nodes])), (1, .resP (.agg [slV e_api_Node t2_4.Nodes])), (2, .resP (.agg [slV e_api_Node t2_6.Nodes])), (3, .resP (.agg [slV e_api_Node t2_8.Nodes])), (4, .resP (.tup [.agg [sC t2_10.1.Classes, i6 (t2_10.1.First.N), sW t2_10.1.First.Words, i6 (t2_10.1.Last.N), sW t2_10.1.Last.Words, sB t2_10.1.Follow, bo (t2_10.1.Null)], i6 (t2_10.2)]))] [1, 2] [1] ⟨[(1, .ptr 1 0), (2, .p (i6 (t2_10.2)))], [(1, .box 28 [.p (sC t2_10.1.Classes), .p (i6 (t2_10.1.First.N)), .p (sW t2_10.1.First.Words), .p (i6 (t2_10.1.Last.N)), .p (sW t2_10.1.Last.Words), .p (sB t2_10.1.Follow), .p (bo (t2_10.1.Null))])], ⟨[], false⟩, []⟩ (And.intro ((riddlelaw11_one_okP h2_1)) (And.intro ((riddlelaw11_one_okP h2_3)) (And.intro ((riddleref05_Repeat_okP h2_5)) (And.intro ((riddleref05_Join_okP h2_7)) (And.intro ((riddleref10_Of_ok h2_9)) (trivial)))))) (by kernel_rfl) ?_
  refine WX.seq ?_
  obtain ⟨m3_1, g3, h⟩ := bind_some h
  refine WC.via (α := Bool) (fun v3 => ⟨[(0, .p (bo (v3)))], [], ⟨[], false⟩, []⟩) m3_1 (fun hk => ?_) ?_
  · rcases if_or g3 with ⟨b3_2, g3⟩ | ⟨b3_2, g3⟩
    · obtain ⟨t3_2, h3_1, g3⟩ := bind_some g3
      obtain ⟨t3_4, h3_3, g3⟩ := bind_some g3
      rcases if_or g3 with ⟨b3_10, g3⟩ | ⟨b3_10, g3⟩
      · obtain ⟨t3_6, h3_5, g3⟩ := bind_some g3
        obtain ⟨t3_8, h3_7, g3⟩ := bind_some g3
        exact WC.reg (n := 29) hn [(2, .val (.p (bo (true)))), (6, .co [] [] [] [(17, rowV 3 (eI .i64) t3_2)] (.own 17)), (8, .res (bo (t3_4))), (10, .val (.p (bo (true)))), (14, .co [] [] [] [(25, rowV 3 (eI .i64) t3_6)] (.own 25)), (16, .res (bo (t3_8)))] [0] [] ⟨[(0, .p (bo (t3_8)))], [], ⟨[], false⟩, []⟩ (And.intro (Bl b3_2) (And.intro (And.intro ((riddlelaw11_ends_ok h3_1).ren 21 17 (by kernel_rfl)) (trivial)) (And.intro (And.intro (slices_Equal_int_int_ok h3_3) (rfl : (bo (t3_4) : PV).flat = true)) (And.intro (Bl b3_10) (And.intro (And.intro ((riddlelaw11_events_ok h3_5).ren 24 25 (by kernel_rfl)) (trivial)) (And.intro (And.intro (slices_Equal_int_int_ok h3_7) (rfl : (bo (t3_8) : PV).flat = true)) (trivial))))))) (by kernel_rfl) (hk t3_8 (Option.some.inj g3))
      · exact WC.reg (n := 29) hn [(2, .val (.p (bo (true)))), (6, .co [] [] [] [(17, rowV 3 (eI .i64) t3_2)] (.own 17)), (8, .res (bo (t3_4))), (10, .val (.p (bo (false))))] [0] [] ⟨[(0, .p (bo (false)))], [], ⟨[], false⟩, []⟩ (And.intro (Bl b3_2) (And.intro (And.intro ((riddlelaw11_ends_ok h3_1).ren 21 17 (by kernel_rfl)) (trivial)) (And.intro (And.intro (slices_Equal_int_int_ok h3_3) (rfl : (bo (t3_4) : PV).flat = true)) (And.intro (Bl b3_10) (trivial))))) (by kernel_rfl) (hk false (Option.some.inj g3))
    · exact WC.reg (n := 29) hn [(2, .val (.p (bo (false))))] [0] [] ⟨[(0, .p (bo (false)))], [], ⟨[], false⟩, []⟩ (And.intro (Bl b3_2) (trivial)) (by kernel_rfl) (hk false (Option.some.inj g3))
  refine WX.ret ?_
  exact WC.outP (by rw [← Option.some.inj h]; kernel_rfl)
def riddlelaw11_short (a0 : (List Int)) : Option ((List Int)) :=
  (if (0 : Int) ≤ 0 ∧ 0 ≤ (minI ((a0.length : Int)) 60) ∧ (minI ((a0.length : Int)) 60) ≤ (a0.length : Nat) then some (sub_ a0 0 ((minI ((a0.length : Int)) 60))) else none)
theorem riddlelaw11_short_ok {a0 : (List Int)} {r : (List Int)} (h : riddlelaw11_short a0 = some r) : Ans Tryd.prog 9 [slV (eI .u8) a0] (slV (eI .u8) r) := by
  refine W_fn Tryd.func9 rfl (by kernel_rfl) (by kernel_rfl) ?_
  intro X hro hn
  unfold riddlelaw11_short at h
  refine WX.seq ?_
  refine WC.reg (n := 8) hn [] [0] [] ⟨[(0, .p (slV (eI .u8) a0))], [], ⟨[], false⟩, []⟩ trivial (by kernel_rfl) ?_
  refine WX.seq ?_
  obtain ⟨c2_1, h⟩ := if_some h
  refine WC.reg (n := 8) hn [(4, .val (.p (slV (eI .u8) (sub_ a0 0 ((minI ((a0.length : Int)) 60))))))] [2] [] ⟨[(2, .p (slV (eI .u8) (sub_ a0 0 ((minI ((a0.length : Int)) 60)))))], [], ⟨[], false⟩, []⟩ (And.intro (Sl (eI .u8) a0 0 ((minI ((a0.length : Int)) 60)) c2_1) (trivial)) (by kernel_rfl) ?_
  refine WX.ret ?_
  exact WC.outP (by rw [← Option.some.inj h]; kernel_rfl)
def riddleref11_may (k : Nat) (a0 : api_Nfa) : Option (api_Nfa) :=
  (riddleref10_Check k a0).bind fun t2_2 => (if (t2_2 != 0) = true then some ((api_Nfa.mk ([]) ((api_Bits.mk 0 ([]))) ((api_Bits.mk 0 ([]))) ([]) false)) else some a0)
theorem riddleref11_may_ok {k : Nat} {a0 : api_Nfa} {r : api_Nfa} (h : riddleref11_may k a0 = some r) : Ans Tryd.prog 36 [.agg [sC a0.Classes, i6 (a0.First.N), sW a0.First.Words, i6 (a0.Last.N), sW a0.Last.Words, sB a0.Follow, bo (a0.Null)]] (.agg [sC r.Classes, i6 (r.First.N), sW r.First.Words, i6 (r.Last.N), sW r.Last.Words, sB r.Follow, bo (r.Null)]) := by
  refine W_fn Tryd.func36 rfl (by kernel_rfl) (by kernel_rfl) ?_
  intro X hro hn
  unfold riddleref11_may at h
  refine WX.seq ?_
  refine WC.reg (n := 8) hn [] [1, 2] [1, 2] ⟨[(1, .ptr 1 0), (2, .ptr 2 0)], [(1, .box 28 [.p (sC a0.Classes), .p (i6 (a0.First.N)), .p (sW a0.First.Words), .p (i6 (a0.Last.N)), .p (sW a0.Last.Words), .p (sB a0.Follow), .p (bo (a0.Null))]), (2, .box 28 [.p (.sl .nil 0 []), .p (i6 (0)), .p (.sl .nil 0 []), .p (i6 (0)), .p (.sl .nil 0 []), .p (.sl .nil 0 []), .p (bo (false))])], ⟨[], false⟩, []⟩ trivial (by kernel_rfl) ?_
  refine WX.seq ?_
  refine WX.seq ?_
  obtain ⟨t2_2, h2_1, h⟩ := bind_some h
  refine WC.reg (n := 8) hn [(1, .resP (i6 (t2_2)))] [1, 2, 5] [1, 2] ⟨[(1, .ptr 1 0), (2, .ptr 2 0), (5, .p (bo (((t2_2 != 0)))))], [(1, .box 28 [.p (sC a0.Classes), .p (i6 (a0.First.N)), .p (sW a0.First.Words), .p (i6 (a0.Last.N)), .p (sW a0.Last.Words), .p (sB a0.Follow), .p (bo (a0.Null))]), (2, .box 28 [.p (.sl .nil 0 []), .p (i6 (0)), .p (.sl .nil 0 []), .p (i6 (0)), .p (.sl .nil 0 []), .p (.sl .nil 0 []), .p (bo (false))])], ⟨[], false⟩, []⟩ (And.intro ((riddleref10_Check_ok h2_1)) (trivial)) (by kernel_rfl) ?_
  rcases if_or h with ⟨c3, h⟩ | ⟨c3, h⟩
  · refine WC.condT c3 (by kernel_rfl) ?_
    refine WX.seq ?_
    refine WC.reg (n := 8) hn [] [2] [2] ⟨[(2, .ptr 2 0)], [(2, .box 28 [.p (.sl .nil 0 []), .p (i6 (0)), .p (.sl .nil 0 []), .p (i6 (0)), .p (.sl .nil 0 []), .p (.sl .nil 0 []), .p (bo (false))])], ⟨[], false⟩, []⟩ trivial (by kernel_rfl) ?_
    refine WX.ret ?_
    exact WC.outP (by rw [← Option.some.inj h]; kernel_rfl)
  · refine WC.condF c3 (by kernel_rfl) ?_
    refine WX.skip ?_
    refine WX.seq ?_
    refine WC.reg (n := 8) hn [] [2] [2] ⟨[(2, .ptr 2 0)], [(2, .box 28 [.p (sC a0.Classes), .p (i6 (a0.First.N)), .p (sW a0.First.Words), .p (i6 (a0.Last.N)), .p (sW a0.Last.Words), .p (sB a0.Follow), .p (bo (a0.Null))])], ⟨[], false⟩, []⟩ trivial (by kernel_rfl) ?_
    refine WX.ret ?_
    exact WC.outP (by rw [← Option.some.inj h]; kernel_rfl)
def riddleref11_None (k : Nat) (a0 : api_Nfa) : Option (api_Bits) :=
  (riddleref11_may k a0).bind fun t2_2 => (riddleref01_Zero ((t2_2.Classes.length : Int))).bind fun t2_4 => some t2_4
theorem riddleref11_None_ok {k : Nat} {a0 : api_Nfa} {r : api_Bits} (h : riddleref11_None k a0 = some r) : AnsO Tryd.prog 23 [] [.p (.agg [sC a0.Classes, i6 (a0.First.N), sW a0.First.Words, i6 (a0.Last.N), sW a0.Last.Words, sB a0.Follow, bo (a0.Null)])] [(7, rowV 69 (eI .u64) r.Words)] (.agg [.p (i6 (r.N)), .own 7]) := by
  refine W_fnO [7] Tryd.func23 rfl (by kernel_rfl) (by kernel_rfl) (by kernel_rfl) (by kernel_rfl) ?_
  intro X hro hn
  unfold riddleref11_None at h
  refine WX.seq ?_
  refine WC.reg (n := 8) hn [] [1, 2] [1, 2] ⟨[(1, .ptr 1 0), (2, .ptr 2 0)], [(1, .box 28 [.p (sC a0.Classes), .p (i6 (a0.First.N)), .p (sW a0.First.Words), .p (i6 (a0.Last.N)), .p (sW a0.Last.Words), .p (sB a0.Follow), .p (bo (a0.Null))]), (2, .box 25 [.p (i6 (0)), .p (.sl .nil 0 [])])], ⟨[], false⟩, []⟩ trivial (by kernel_rfl) ?_
  refine WX.seq ?_
  obtain ⟨t2_2, h2_1, h⟩ := bind_some h
  obtain ⟨t2_4, h2_3, h⟩ := bind_some h
  refine WC.reg (n := 8) hn [(1, .resP (.agg [sC t2_2.Classes, i6 (t2_2.First.N), sW t2_2.First.Words, i6 (t2_2.Last.N), sW t2_2.Last.Words, sB t2_2.Follow, bo (t2_2.Null)])), (4, .co [] [] [] [(7, rowV 69 (eI .u64) t2_4.Words)] (.agg [.p (i6 (t2_4.N)), .own 7]))] [2] [2, 7] ⟨[(2, .ptr 2 0)], [(2, .box 25 [.p (i6 (t2_4.N)), .own 7]), (7, rowV 69 (eI .u64) t2_4.Words)], ⟨[], false⟩, []⟩ (And.intro ((riddleref11_may_ok h2_1)) (And.intro (And.intro (riddleref01_Zero_ok h2_3) (trivial)) (trivial))) (by kernel_rfl) ?_
  refine WX.ret ?_
  exact WC.outO (by rw [← Option.some.inj h]; kernel_rfl)
theorem riddleref11_None_okP {k : Nat} {a0 : api_Nfa} {r : api_Bits} (h : riddleref11_None k a0 = some r) : Ans Tryd.prog 23 [.agg [sC a0.Classes, i6 (a0.First.N), sW a0.First.Words, i6 (a0.Last.N), sW a0.Last.Words, sB a0.Follow, bo (a0.Null)]] (.agg [i6 (r.N), sW r.Words]) := AnsO.ans (args := [.agg [sC a0.Classes, i6 (a0.First.N), sW a0.First.Words, i6 (a0.Last.N), sW a0.Last.Words, sB a0.Follow, bo (a0.Null)]]) (riddleref11_None_ok h) (by kernel_rfl)
def riddleref11_state (k : Nat) (a0 : api_Nfa) (a1 : api_Bits) : Option (api_Bits) :=
  (riddleref01_Check k a1).bind fun t2_2 => (if (((t2_2 != 0)) || ((a1.N != (a0.Classes.length : Int)))) = true then (riddleref11_None k a0).bind fun t4_2 => some t4_2 else some a1)
theorem riddleref11_state_ok {k : Nat} {a0 : api_Nfa} {a1 : api_Bits} {r : api_Bits} (h : riddleref11_state k a0 a1 = some r) : Ans Tryd.prog 58 [.agg [sC a0.Classes, i6 (a0.First.N), sW a0.First.Words, i6 (a0.Last.N), sW a0.Last.Words, sB a0.Follow, bo (a0.Null)], .agg [i6 (a1.N), sW a1.Words]] (.agg [i6 (r.N), sW r.Words]) := by
  refine W_fn Tryd.func58 rfl (by kernel_rfl) (by kernel_rfl) ?_
  intro X hro hn
  unfold riddleref11_state at h
  refine WX.seq ?_
  refine WC.reg (n := 19) hn [] [2, 3, 4] [2, 3, 4] ⟨[(2, .ptr 2 0), (3, .ptr 3 0), (4, .ptr 4 0)], [(2, .box 28 [.p (sC a0.Classes), .p (i6 (a0.First.N)), .p (sW a0.First.Words), .p (i6 (a0.Last.N)), .p (sW a0.Last.Words), .p (sB a0.Follow), .p (bo (a0.Null))]), (3, .box 25 [.p (i6 (a1.N)), .p (sW a1.Words)]), (4, .box 25 [.p (i6 (0)), .p (.sl .nil 0 [])])], ⟨[], false⟩, []⟩ trivial (by kernel_rfl) ?_
  refine WX.seq ?_
  refine WX.seq ?_
  obtain ⟨t2_2, h2_1, h⟩ := bind_some h
  refine WC.via (α := Bool) (fun v2 => ⟨[(2, .ptr 2 0), (3, .ptr 3 0), (4, .ptr 4 0), (15, .p (bo (v2)))], [(2, .box 28 [.p (sC a0.Classes), .p (i6 (a0.First.N)), .p (sW a0.First.Words), .p (i6 (a0.Last.N)), .p (sW a0.Last.Words), .p (sB a0.Follow), .p (bo (a0.Null))]), (3, .box 25 [.p (i6 (a1.N)), .p (sW a1.Words)]), (4, .box 25 [.p (i6 (0)), .p (.sl .nil 0 [])])], ⟨[], false⟩, []⟩) ((((t2_2 != 0)) || ((a1.N != (a0.Classes.length : Int))))) (fun hk => ?_) ?_
  · rcases Bool.eq_false_or_eq_true ((t2_2 != 0)) with b2_3 | b2_3
    · exact WC.reg (n := 19) hn [(1, .resP (i6 (t2_2))), (3, .val (.p (bo (true))))] [2, 3, 4, 15] [2, 3, 4] ⟨[(2, .ptr 2 0), (3, .ptr 3 0), (4, .ptr 4 0), (15, .p (bo (true)))], [(2, .box 28 [.p (sC a0.Classes), .p (i6 (a0.First.N)), .p (sW a0.First.Words), .p (i6 (a0.Last.N)), .p (sW a0.Last.Words), .p (sB a0.Follow), .p (bo (a0.Null))]), (3, .box 25 [.p (i6 (a1.N)), .p (sW a1.Words)]), (4, .box 25 [.p (i6 (0)), .p (.sl .nil 0 [])])], ⟨[], false⟩, []⟩ (And.intro ((riddleref01_Check_ok h2_1)) (And.intro (Bl b2_3) (trivial))) (by kernel_rfl) (hk true (by first | (rw [b2_3]; rfl) | simp [b2_3]))
    · exact WC.reg (n := 19) hn [(1, .resP (i6 (t2_2))), (3, .val (.p (bo (false))))] [2, 3, 4, 15] [2, 3, 4] ⟨[(2, .ptr 2 0), (3, .ptr 3 0), (4, .ptr 4 0), (15, .p (bo (((a1.N != (a0.Classes.length : Int))))))], [(2, .box 28 [.p (sC a0.Classes), .p (i6 (a0.First.N)), .p (sW a0.First.Words), .p (i6 (a0.Last.N)), .p (sW a0.Last.Words), .p (sB a0.Follow), .p (bo (a0.Null))]), (3, .box 25 [.p (i6 (a1.N)), .p (sW a1.Words)]), (4, .box 25 [.p (i6 (0)), .p (.sl .nil 0 [])])], ⟨[], false⟩, []⟩ (And.intro ((riddleref01_Check_ok h2_1)) (And.intro (Bl b2_3) (trivial))) (by kernel_rfl) (hk ((a1.N != (a0.Classes.length : Int))) (by first | (rw [b2_3]; rfl) | simp [b2_3]))
  rcases if_or h with ⟨c3, h⟩ | ⟨c3, h⟩
  · refine WC.condT c3 (by kernel_rfl) ?_
    refine WX.seq ?_
    obtain ⟨t4_2, h4_1, h⟩ := bind_some h
    refine WC.reg (n := 19) hn [(1, .co [] [] [] [(17, rowV 69 (eI .u64) t4_2.Words)] (.agg [.p (i6 (t4_2.N)), .own 17]))] [4] [4, 17] ⟨[(4, .ptr 4 0)], [(4, .box 25 [.p (i6 (t4_2.N)), .own 17]), (17, rowV 69 (eI .u64) t4_2.Words)], ⟨[], false⟩, []⟩ (And.intro (And.intro ((riddleref11_None_ok h4_1).ren 7 17 (by kernel_rfl)) (trivial)) (trivial)) (by kernel_rfl) ?_
    refine WX.ret ?_
    exact WC.outP (by rw [← Option.some.inj h]; kernel_rfl)
  · refine WC.condF c3 (by kernel_rfl) ?_
    refine WX.skip ?_
    refine WX.seq ?_
    refine WC.reg (n := 19) hn [] [4] [4] ⟨[(4, .ptr 4 0)], [(4, .box 25 [.p (i6 (a1.N)), .p (sW a1.Words)])], ⟨[], false⟩, []⟩ trivial (by kernel_rfl) ?_
    refine WX.ret ?_
    exact WC.outP (by rw [← Option.some.inj h]; kernel_rfl)
def riddleref02_Has (a0 : (Arr4 Int)) (a1 : Int) : Option (Bool) :=
  (if 0 ≤ (IntKind.u8.wrap (a1.tdiv 64)) ∧ (IntKind.u8.wrap (a1.tdiv 64)) < 4 then (if ¬ (a1.tmod 64) < 0 then some (((((((get4 a0.a0 a0.a1 a0.a2 a0.a3 ((IntKind.u8.wrap (a1.tdiv 64))))).fdiv (2 ^ (min ((a1.tmod 64)).toNat IntKind.u64.bits)))).tmod 2) == 1)) else none) else none)
theorem riddleref02_Has_ok {a0 : (Arr4 Int)} {a1 : Int} {r : Bool} (h : riddleref02_Has a0 a1 = some r) : Ans Tryd.prog 60 [.agg [.s (.int .u64 a0.a0), .s (.int .u64 a0.a1), .s (.int .u64 a0.a2), .s (.int .u64 a0.a3)], .s (.int .u8 a1)] (bo (r)) := by
  refine W_fn Tryd.func60 rfl (by kernel_rfl) (by kernel_rfl) ?_
  intro X hro hn
  unfold riddleref02_Has at h
  refine WX.seq ?_
  refine WC.reg (n := 14) hn [] [1, 2] [2] ⟨[(1, .p (.s (.int .u8 a1))), (2, .ptr 2 0)], [(2, .box 71 [.p (.s (.int .u64 a0.a0)), .p (.s (.int .u64 a0.a1)), .p (.s (.int .u64 a0.a2)), .p (.s (.int .u64 a0.a3))])], ⟨[], false⟩, []⟩ trivial (by kernel_rfl) ?_
  refine WX.seq ?_
  obtain ⟨c2_1, h⟩ := if_some h
  obtain ⟨c2_2, h⟩ := if_some h
  refine WC.reg (n := 14) hn [(2, .val (.ptr 2 (0 + ((IntKind.u8.wrap (a1.tdiv 64))).toNat * 1))), (3, .val (.p (.s (.int .u64 ((get4 a0.a0 a0.a1 a0.a2 a0.a3 ((IntKind.u8.wrap (a1.tdiv 64))))))))), (6, .val (.p (.s (.int .u64 (((get4 a0.a0 a0.a1 a0.a2 a0.a3 ((IntKind.u8.wrap (a1.tdiv 64))))).fdiv (2 ^ (min ((a1.tmod 64)).toNat IntKind.u64.bits)))))))] [4] [] ⟨[(4, .p (bo ((((((((get4 a0.a0 a0.a1 a0.a2 a0.a3 ((IntKind.u8.wrap (a1.tdiv 64))))).fdiv (2 ^ (min ((a1.tmod 64)).toNat IntKind.u64.bits)))).tmod 2) == 1)))))], [], ⟨[], false⟩, []⟩ (And.intro (IxA4 2 0 ((IntKind.u8.wrap (a1.tdiv 64))) c2_1) (And.intro (LdA4 Tryd.prog 69 [] .u64 a0.a0 a0.a1 a0.a2 a0.a3 [] ((IntKind.u8.wrap (a1.tdiv 64))) c2_1 rfl rfl) (And.intro (Shr .u64 ((get4 a0.a0 a0.a1 a0.a2 a0.a3 ((IntKind.u8.wrap (a1.tdiv 64))))) ((a1.tmod 64)) c2_2) (trivial)))) (by kernel_rfl) ?_
  refine WX.ret ?_
  exact WC.outP (by rw [← Option.some.inj h]; kernel_rfl)
def riddleref11_Next_l1 (t2_2 : api_Nfa) (t3_2 : api_Bits) (x48_1_2 : Int) (J91 : Bool → Option (api_Bits)) : Nat → (Bool × Int) → Option (api_Bits)
  | 0, _ => none
  | k + 1, (x106_1_1, x106_1_2) => (if (decide (x106_1_2 < (t2_2.Follow.length : Int))) = true then ((if x106_1_1 = true then some true else (riddleref01_Has k t3_2 x106_1_2).bind fun t117_2 => (if t117_2 = true then (at_ t2_2.Follow x106_1_2).bind fun t117_4 => (riddleref01_Has k t117_4 x48_1_2).bind fun t117_6 => some t117_6 else some false)) : Option (Bool)).bind fun v117 => riddleref11_Next_l1 t2_2 t3_2 x48_1_2 J91 k (v117, (IntKind.i64.wrap (x106_1_2 + 1))) else J91 x106_1_1)
def riddleref11_Next_l0 (a2 : Bool) (a3 : Int) (t2_2 : api_Nfa) (t3_2 : api_Bits) (J6 : List Int → Option (api_Bits)) : Nat → (List Int × Int) → Option (api_Bits)
  | 0, _ => none
  | k + 1, (x48_1_1, x48_1_2) => (if (decide (x48_1_2 < (t2_2.Classes.length : Int))) = true then ((if a2 = true then (riddleref01_Has k t2_2.First x48_1_2).bind fun t89_2 => some t89_2 else some false) : Option (Bool)).bind fun v89 => jn (fun (v91 : Bool) => ((if v91 = true then (at_ t2_2.Classes x48_1_2).bind fun t101_2 => (riddleref02_Has t101_2 a3).bind fun t101_4 => some t101_4 else some false) : Option (Bool)).bind fun v101 => (if v101 = true then (if okApp 8 (x48_1_1.length + ([x48_1_2]).length) then riddleref11_Next_l0 a2 a3 t2_2 t3_2 J6 k (x48_1_1 ++ ([x48_1_2]), (IntKind.i64.wrap (x48_1_2 + 1))) else none) else riddleref11_Next_l0 a2 a3 t2_2 t3_2 J6 k (x48_1_1, (IntKind.i64.wrap (x48_1_2 + 1))))) fun J91 => riddleref11_Next_l1 t2_2 t3_2 x48_1_2 J91 k (v89, 0) else J6 x48_1_1)
def riddleref11_Next (k : Nat) (a0 : api_Nfa) (a1 : api_Bits) (a2 : Bool) (a3 : Int) : Option (api_Bits) :=
  (riddleref11_may k a0).bind fun t2_2 => (riddleref11_state k t2_2 a1).bind fun t3_2 => jn (fun (v6 : List Int) => (riddleref01_New k ((t2_2.Classes.length : Int)) v6).bind fun t46_2 => some t46_2.1) fun J6 => riddleref11_Next_l0 a2 a3 t2_2 t3_2 J6 k (([] : List Int), 0)
theorem riddleref11_Next_ok {k : Nat} {a0 : api_Nfa} {a1 : api_Bits} {a2 : Bool} {a3 : Int} {r : api_Bits} (h : riddleref11_Next k a0 a1 a2 a3 = some r) : AnsO Tryd.prog 25 [] [.p (.agg [sC a0.Classes, i6 (a0.First.N), sW a0.First.Words, i6 (a0.Last.N), sW a0.Last.Words, sB a0.Follow, bo (a0.Null)]), .p (.agg [i6 (a1.N), sW a1.Words]), .p (bo (a2)), .p (.s (.int .u8 a3))] [(75, rowV 69 (eI .u64) r.Words)] (.agg [.p (i6 (r.N)), .own 75]) := by
  refine W_fnO [75] Tryd.func25 rfl (by kernel_rfl) (by kernel_rfl) (by kernel_rfl) (by kernel_rfl) ?_
  intro X hro hn
  unfold riddleref11_Next at h
  refine WX.seq ?_
  refine WC.reg (n := 79) hn [] [2, 3, 4, 5, 8] [4, 5, 8] ⟨[(2, .p (bo (a2))), (3, .p (.s (.int .u8 a3))), (4, .ptr 4 0), (5, .ptr 5 0), (8, .ptr 8 0)], [(4, .box 28 [.p (sC a0.Classes), .p (i6 (a0.First.N)), .p (sW a0.First.Words), .p (i6 (a0.Last.N)), .p (sW a0.Last.Words), .p (sB a0.Follow), .p (bo (a0.Null))]), (5, .box 25 [.p (i6 (a1.N)), .p (sW a1.Words)]), (8, .box 25 [.p (i6 (0)), .p (.sl .nil 0 [])])], ⟨[], false⟩, []⟩ trivial (by kernel_rfl) ?_
  refine WX.seq ?_
  obtain ⟨t2_2, h2_1, h⟩ := bind_some h
  refine WC.reg (n := 79) hn [(1, .resP (.agg [sC t2_2.Classes, i6 (t2_2.First.N), sW t2_2.First.Words, i6 (t2_2.Last.N), sW t2_2.Last.Words, sB t2_2.Follow, bo (t2_2.Null)]))] [2, 3, 4, 5, 8] [4, 5, 8] ⟨[(2, .p (bo (a2))), (3, .p (.s (.int .u8 a3))), (4, .ptr 4 0), (5, .ptr 5 0), (8, .ptr 8 0)], [(4, .box 28 [.p (sC t2_2.Classes), .p (i6 (t2_2.First.N)), .p (sW t2_2.First.Words), .p (i6 (t2_2.Last.N)), .p (sW t2_2.Last.Words), .p (sB t2_2.Follow), .p (bo (t2_2.Null))]), (5, .box 25 [.p (i6 (a1.N)), .p (sW a1.Words)]), (8, .box 25 [.p (i6 (0)), .p (.sl .nil 0 [])])], ⟨[], false⟩, []⟩ (And.intro ((riddleref11_may_ok h2_1)) (trivial)) (by kernel_rfl) ?_
  refine WX.seq ?_
  obtain ⟨t3_2, h3_1, h⟩ := bind_some h
  refine WC.reg (n := 79) hn [(2, .resP (.agg [i6 (t3_2.N), sW t3_2.Words]))] [2, 3, 4, 5, 8] [4, 5, 8] ⟨[(2, .p (bo (a2))), (3, .p (.s (.int .u8 a3))), (4, .ptr 4 0), (5, .ptr 5 0), (8, .ptr 8 0)], [(4, .box 28 [.p (sC t2_2.Classes), .p (i6 (t2_2.First.N)), .p (sW t2_2.First.Words), .p (i6 (t2_2.Last.N)), .p (sW t2_2.Last.Words), .p (sB t2_2.Follow), .p (bo (t2_2.Null))]), (5, .box 25 [.p (i6 (t3_2.N)), .p (sW t3_2.Words)]), (8, .box 25 [.p (i6 (0)), .p (.sl .nil 0 [])])], ⟨[], false⟩, []⟩ (And.intro ((riddleref11_state_ok h3_1)) (trivial)) (by kernel_rfl) ?_
  refine WX.seq ?_
  refine WC.reg (n := 79) hn [] [2, 3, 4, 5, 8, 9] [4, 5, 8] ⟨[(2, .p (bo (a2))), (3, .p (.s (.int .u8 a3))), (4, .ptr 4 0), (5, .ptr 5 0), (8, .ptr 8 0), (9, .p (.sl .nil 0 []))], [(4, .box 28 [.p (sC t2_2.Classes), .p (i6 (t2_2.First.N)), .p (sW t2_2.First.Words), .p (i6 (t2_2.Last.N)), .p (sW t2_2.Last.Words), .p (sB t2_2.Follow), .p (bo (t2_2.Null))]), (5, .box 25 [.p (i6 (t3_2.N)), .p (sW t3_2.Words)]), (8, .box 25 [.p (i6 (0)), .p (.sl .nil 0 [])])], ⟨[], false⟩, []⟩ trivial (by kernel_rfl) ?_
  refine WX.seq ?_
  refine WX.seq ?_
  refine WC.reg (n := 79) hn [] [2, 3, 4, 5, 8, 9, 10] [4, 5, 8] ⟨[(2, .p (bo (a2))), (3, .p (.s (.int .u8 a3))), (4, .ptr 4 0), (5, .ptr 5 0), (8, .ptr 8 0), (9, .p (.sl .nil 0 [])), (10, .p (i6 (0)))], [(4, .box 28 [.p (sC t2_2.Classes), .p (i6 (t2_2.First.N)), .p (sW t2_2.First.Words), .p (i6 (t2_2.Last.N)), .p (sW t2_2.Last.Words), .p (sB t2_2.Follow), .p (bo (t2_2.Null))]), (5, .box 25 [.p (i6 (t3_2.N)), .p (sW t3_2.Words)]), (8, .box 25 [.p (i6 (0)), .p (.sl .nil 0 [])])], ⟨[], false⟩, []⟩ trivial (by kernel_rfl) ?_
  obtain ⟨J6, eJ6, h⟩ := jn_some h
  try dsimp only at h
  refine WC.join (α := List Int) (fun v6 => ⟨[(4, .ptr 4 0), (8, .ptr 8 0), (9, .own 69)], [(4, .box 28 [.p (sC t2_2.Classes), .p (i6 (t2_2.First.N)), .p (sW t2_2.First.Words), .p (i6 (t2_2.Last.N)), .p (sW t2_2.Last.Words), .p (sB t2_2.Follow), .p (bo (t2_2.Null))]), (8, .box 25 [.p (i6 (0)), .p (.sl .nil 0 [])]), (69, rowV 3 (eI .i64) v6)], ⟨[], false⟩, []⟩) (fun v6 => J6 v6 = some r) ?_ (fun hJ6 => ?_)
  · rintro y6_1 h
    rw [eJ6] at h
    try dsimp only at h
    refine WX.seq ?_
    obtain ⟨t46_2, h46_1, h⟩ := bind_some h
    refine WC.reg (n := 79) hn [(4, .co [] [] [69] [(75, rowV 69 (eI .u64) t46_2.1.Words)] (.tup [.agg [.p (i6 (t46_2.1.N)), .own 75], .p (i6 (t46_2.2))]))] [8, 13] [8, 13, 75] ⟨[(8, .ptr 8 0), (13, .ptr 13 0)], [(8, .box 25 [.p (i6 (0)), .p (.sl .nil 0 [])]), (13, .box 25 [.p (i6 (t46_2.1.N)), .own 75]), (75, rowV 69 (eI .u64) t46_2.1.Words)], ⟨[], false⟩, []⟩ (And.intro (And.intro ((riddleref01_New_ok h46_1).ren 16 75 (by kernel_rfl)) (And.intro (rfl : (.tup [.agg [.p (i6 (t46_2.1.N)), .own 75], .p (i6 (t46_2.2))] : AV).flat = true) (And.intro (flats_encL (eI .u64) (fun _ => rfl) t46_2.1.Words) (trivial)))) (trivial)) (by kernel_rfl) ?_
    refine WX.seq ?_
    refine WC.reg (n := 79) hn [] [8] [8, 75] ⟨[(8, .ptr 8 0)], [(8, .box 25 [.p (i6 (t46_2.1.N)), .own 75]), (75, rowV 69 (eI .u64) t46_2.1.Words)], ⟨[], false⟩, []⟩ trivial (by kernel_rfl) ?_
    refine WX.ret ?_
    exact WC.outO (by rw [← Option.some.inj h]; kernel_rfl)
  · replace hJ6 := fun y6_1 => hJ6 y6_1
    refine WX.block ?_
    refine WC.nil (n := 79) hn [9] none 69 3 1 (by kernel_rfl) [2, 3, 4, 5, 8, 9, 10] [4, 5, 8, 69] (st' := ⟨[(2, .p (bo (a2))), (3, .p (.s (.int .u8 a3))), (4, .ptr 4 0), (5, .ptr 5 0), (8, .ptr 8 0), (9, .own 69), (10, .p (i6 (0)))], [(4, .box 28 [.p (sC t2_2.Classes), .p (i6 (t2_2.First.N)), .p (sW t2_2.First.Words), .p (i6 (t2_2.Last.N)), .p (sW t2_2.Last.Words), .p (sB t2_2.Follow), .p (bo (t2_2.Null))]), (5, .box 25 [.p (i6 (t3_2.N)), .p (sW t3_2.Words)]), (8, .box 25 [.p (i6 (0)), .p (.sl .nil 0 [])]), (69, rowV 3 (eI .i64) (([] : List Int)))], ⟨[], false⟩, []⟩) (by kernel_rfl) ?_
    refine WC.loop (V := List Int × Int) (riddleref11_Next_l0 a2 a3 t2_2 t3_2 J6) r (fun v48 => ⟨[(2, .p (bo (a2))), (3, .p (.s (.int .u8 a3))), (4, .ptr 4 0), (5, .ptr 5 0), (8, .ptr 8 0), (9, .own 69), (10, .p (i6 (v48.2)))], [(4, .box 28 [.p (sC t2_2.Classes), .p (i6 (t2_2.First.N)), .p (sW t2_2.First.Words), .p (i6 (t2_2.Last.N)), .p (sW t2_2.Last.Words), .p (sB t2_2.Follow), .p (bo (t2_2.Null))]), (5, .box 25 [.p (i6 (t3_2.N)), .p (sW t3_2.Words)]), (8, .box 25 [.p (i6 (0)), .p (.sl .nil 0 [])]), (69, rowV 3 (eI .i64) v48.1)], ⟨[], false⟩, []⟩) _ (([] : List Int), 0) h (fun _ => rfl) [2, 3, 4, 5, 8, 9, 10] [4, 5, 8, 69] (by kernel_rfl) ?_
    clear h; rintro k ⟨x48_1_1, x48_1_2⟩ h K48 hnext48 hexit48
    rw [riddleref11_Next_l0] at h
    refine WX.seq ?_
    refine WX.seq ?_
    refine WC.reg (n := 79) hn [] [2, 3, 4, 5, 8, 9, 10, 24] [4, 5, 8, 69] ⟨[(2, .p (bo (a2))), (3, .p (.s (.int .u8 a3))), (4, .ptr 4 0), (5, .ptr 5 0), (8, .ptr 8 0), (9, .own 69), (10, .p (i6 (x48_1_2))), (24, .p (bo (((decide (x48_1_2 < (t2_2.Classes.length : Int)))))))], [(4, .box 28 [.p (sC t2_2.Classes), .p (i6 (t2_2.First.N)), .p (sW t2_2.First.Words), .p (i6 (t2_2.Last.N)), .p (sW t2_2.Last.Words), .p (sB t2_2.Follow), .p (bo (t2_2.Null))]), (5, .box 25 [.p (i6 (t3_2.N)), .p (sW t3_2.Words)]), (8, .box 25 [.p (i6 (0)), .p (.sl .nil 0 [])]), (69, rowV 3 (eI .i64) x48_1_1)], ⟨[], false⟩, []⟩ trivial (by kernel_rfl) ?_
    rcases if_or h with ⟨c88, h⟩ | ⟨c88, h⟩
    · refine WC.condT c88 (by kernel_rfl) ?_
      refine WX.skip ?_
      refine WX.seq ?_
      refine WX.block ?_
      refine WX.seq ?_
      obtain ⟨m89_1, g89, h⟩ := bind_some h
      refine WC.via (α := Bool) (fun v89 => ⟨[(2, .p (bo (a2))), (3, .p (.s (.int .u8 a3))), (4, .ptr 4 0), (5, .ptr 5 0), (8, .ptr 8 0), (9, .own 69), (10, .p (i6 (x48_1_2))), (11, .p (bo (v89)))], [(4, .box 28 [.p (sC t2_2.Classes), .p (i6 (t2_2.First.N)), .p (sW t2_2.First.Words), .p (i6 (t2_2.Last.N)), .p (sW t2_2.Last.Words), .p (sB t2_2.Follow), .p (bo (t2_2.Null))]), (5, .box 25 [.p (i6 (t3_2.N)), .p (sW t3_2.Words)]), (8, .box 25 [.p (i6 (0)), .p (.sl .nil 0 [])]), (69, rowV 3 (eI .i64) x48_1_1)], ⟨[], false⟩, []⟩) m89_1 (fun hk => ?_) ?_
      · rcases if_or g89 with ⟨b89_1, g89⟩ | ⟨b89_1, g89⟩
        · obtain ⟨t89_2, h89_1, g89⟩ := bind_some g89
          exact WC.reg (n := 79) hn [(1, .val (.p (bo (true)))), (5, .resP (bo (t89_2)))] [2, 3, 4, 5, 8, 9, 10, 11] [4, 5, 8, 69] ⟨[(2, .p (bo (a2))), (3, .p (.s (.int .u8 a3))), (4, .ptr 4 0), (5, .ptr 5 0), (8, .ptr 8 0), (9, .own 69), (10, .p (i6 (x48_1_2))), (11, .p (bo (t89_2)))], [(4, .box 28 [.p (sC t2_2.Classes), .p (i6 (t2_2.First.N)), .p (sW t2_2.First.Words), .p (i6 (t2_2.Last.N)), .p (sW t2_2.Last.Words), .p (sB t2_2.Follow), .p (bo (t2_2.Null))]), (5, .box 25 [.p (i6 (t3_2.N)), .p (sW t3_2.Words)]), (8, .box 25 [.p (i6 (0)), .p (.sl .nil 0 [])]), (69, rowV 3 (eI .i64) x48_1_1)], ⟨[], false⟩, []⟩ (And.intro (Bl b89_1) (And.intro ((riddleref01_Has_ok h89_1)) (trivial))) (by kernel_rfl) (hk t89_2 (Option.some.inj g89))
        · exact WC.reg (n := 79) hn [(1, .val (.p (bo (false))))] [2, 3, 4, 5, 8, 9, 10, 11] [4, 5, 8, 69] ⟨[(2, .p (bo (a2))), (3, .p (.s (.int .u8 a3))), (4, .ptr 4 0), (5, .ptr 5 0), (8, .ptr 8 0), (9, .own 69), (10, .p (i6 (x48_1_2))), (11, .p (bo (false)))], [(4, .box 28 [.p (sC t2_2.Classes), .p (i6 (t2_2.First.N)), .p (sW t2_2.First.Words), .p (i6 (t2_2.Last.N)), .p (sW t2_2.Last.Words), .p (sB t2_2.Follow), .p (bo (t2_2.Null))]), (5, .box 25 [.p (i6 (t3_2.N)), .p (sW t3_2.Words)]), (8, .box 25 [.p (i6 (0)), .p (.sl .nil 0 [])]), (69, rowV 3 (eI .i64) x48_1_1)], ⟨[], false⟩, []⟩ (And.intro (Bl b89_1) (trivial)) (by kernel_rfl) (hk false (Option.some.inj g89))
      refine WX.seq ?_
      refine WX.seq ?_
      refine WC.reg (n := 79) hn [] [2, 3, 4, 5, 8, 9, 10, 11, 12] [4, 5, 8, 69] ⟨[(2, .p (bo (a2))), (3, .p (.s (.int .u8 a3))), (4, .ptr 4 0), (5, .ptr 5 0), (8, .ptr 8 0), (9, .own 69), (10, .p (i6 (x48_1_2))), (11, .p (bo (m89_1))), (12, .p (i6 (0)))], [(4, .box 28 [.p (sC t2_2.Classes), .p (i6 (t2_2.First.N)), .p (sW t2_2.First.Words), .p (i6 (t2_2.Last.N)), .p (sW t2_2.Last.Words), .p (sB t2_2.Follow), .p (bo (t2_2.Null))]), (5, .box 25 [.p (i6 (t3_2.N)), .p (sW t3_2.Words)]), (8, .box 25 [.p (i6 (0)), .p (.sl .nil 0 [])]), (69, rowV 3 (eI .i64) x48_1_1)], ⟨[], false⟩, []⟩ trivial (by kernel_rfl) ?_
      obtain ⟨J91, eJ91, h⟩ := jn_some h
      try dsimp only at h
      refine WC.join (α := Bool) (fun v91 => ⟨[(2, .p (bo (a2))), (3, .p (.s (.int .u8 a3))), (4, .ptr 4 0), (5, .ptr 5 0), (8, .ptr 8 0), (9, .own 69), (10, .p (i6 (x48_1_2))), (11, .p (bo (v91)))], [(4, .box 28 [.p (sC t2_2.Classes), .p (i6 (t2_2.First.N)), .p (sW t2_2.First.Words), .p (i6 (t2_2.Last.N)), .p (sW t2_2.Last.Words), .p (sB t2_2.Follow), .p (bo (t2_2.Null))]), (5, .box 25 [.p (i6 (t3_2.N)), .p (sW t3_2.Words)]), (8, .box 25 [.p (i6 (0)), .p (.sl .nil 0 [])]), (69, rowV 3 (eI .i64) x48_1_1)], ⟨[], false⟩, []⟩) (fun v91 => J91 v91 = some r) ?_ (fun hJ91 => ?_)
      · rintro y91_1 h
        rw [eJ91] at h
        try dsimp only at h
        refine WX.seq ?_
        obtain ⟨m101_1, g101, h⟩ := bind_some h
        refine WC.via (α := Bool) (fun v101 => ⟨[(2, .p (bo (a2))), (3, .p (.s (.int .u8 a3))), (4, .ptr 4 0), (5, .ptr 5 0), (8, .ptr 8 0), (9, .own 69), (10, .p (i6 (x48_1_2))), (65, .p (bo (v101)))], [(4, .box 28 [.p (sC t2_2.Classes), .p (i6 (t2_2.First.N)), .p (sW t2_2.First.Words), .p (i6 (t2_2.Last.N)), .p (sW t2_2.Last.Words), .p (sB t2_2.Follow), .p (bo (t2_2.Null))]), (5, .box 25 [.p (i6 (t3_2.N)), .p (sW t3_2.Words)]), (8, .box 25 [.p (i6 (0)), .p (.sl .nil 0 [])]), (69, rowV 3 (eI .i64) x48_1_1)], ⟨[], false⟩, []⟩) m101_1 (fun hk => ?_) ?_
        · rcases if_or g101 with ⟨b101_1, g101⟩ | ⟨b101_1, g101⟩
          · obtain ⟨t101_2, h101_1, g101⟩ := bind_some g101
            obtain ⟨t101_4, h101_3, g101⟩ := bind_some g101
            exact WC.reg (n := 79) hn [(1, .val (.p (bo (true)))), (5, .val (.p (.rop ((e4 (eI .u64)).cells t101_2 ++ encL (e4 (eI .u64)) (t2_2.Classes.drop (x48_1_2.toNat + 1)))))), (8, .resP (bo (t101_4)))] [2, 3, 4, 5, 8, 9, 10, 65] [4, 5, 8, 69] ⟨[(2, .p (bo (a2))), (3, .p (.s (.int .u8 a3))), (4, .ptr 4 0), (5, .ptr 5 0), (8, .ptr 8 0), (9, .own 69), (10, .p (i6 (x48_1_2))), (65, .p (bo (t101_4)))], [(4, .box 28 [.p (sC t2_2.Classes), .p (i6 (t2_2.First.N)), .p (sW t2_2.First.Words), .p (i6 (t2_2.Last.N)), .p (sW t2_2.Last.Words), .p (sB t2_2.Follow), .p (bo (t2_2.Null))]), (5, .box 25 [.p (i6 (t3_2.N)), .p (sW t3_2.Words)]), (8, .box 25 [.p (i6 (0)), .p (.sl .nil 0 [])]), (69, rowV 3 (eI .i64) x48_1_1)], ⟨[], false⟩, []⟩ (And.intro (Bl b101_1) (And.intro (Ix (e4 (eI .u64)) h101_1) (And.intro ((riddleref02_Has_ok h101_3)) (trivial)))) (by kernel_rfl) (hk t101_4 (Option.some.inj g101))
          · exact WC.reg (n := 79) hn [(1, .val (.p (bo (false))))] [2, 3, 4, 5, 8, 9, 10, 65] [4, 5, 8, 69] ⟨[(2, .p (bo (a2))), (3, .p (.s (.int .u8 a3))), (4, .ptr 4 0), (5, .ptr 5 0), (8, .ptr 8 0), (9, .own 69), (10, .p (i6 (x48_1_2))), (65, .p (bo (false)))], [(4, .box 28 [.p (sC t2_2.Classes), .p (i6 (t2_2.First.N)), .p (sW t2_2.First.Words), .p (i6 (t2_2.Last.N)), .p (sW t2_2.Last.Words), .p (sB t2_2.Follow), .p (bo (t2_2.Null))]), (5, .box 25 [.p (i6 (t3_2.N)), .p (sW t3_2.Words)]), (8, .box 25 [.p (i6 (0)), .p (.sl .nil 0 [])]), (69, rowV 3 (eI .i64) x48_1_1)], ⟨[], false⟩, []⟩ (And.intro (Bl b101_1) (trivial)) (by kernel_rfl) (hk false (Option.some.inj g101))
        rcases if_or h with ⟨c102, h⟩ | ⟨c102, h⟩
        · refine WC.condT c102 (by kernel_rfl) ?_
          obtain ⟨c103_1, h⟩ := if_some h
          refine WC.reg (n := 79) hn [(3, .app (some 69) (rowV 3 (eI .i64) (x48_1_1 ++ ([x48_1_2]))))] [2, 3, 4, 5, 8, 9, 10] [4, 5, 8, 69] ⟨[(2, .p (bo (a2))), (3, .p (.s (.int .u8 a3))), (4, .ptr 4 0), (5, .ptr 5 0), (8, .ptr 8 0), (9, .own 69), (10, .p (i6 (x48_1_2)))], [(4, .box 28 [.p (sC t2_2.Classes), .p (i6 (t2_2.First.N)), .p (sW t2_2.First.Words), .p (i6 (t2_2.Last.N)), .p (sW t2_2.Last.Words), .p (sB t2_2.Follow), .p (bo (t2_2.Null))]), (5, .box 25 [.p (i6 (t3_2.N)), .p (sW t3_2.Words)]), (8, .box 25 [.p (i6 (0)), .p (.sl .nil 0 [])]), (69, rowV 3 (eI .i64) (x48_1_1 ++ ([x48_1_2])))], ⟨[], false⟩, []⟩ (And.intro (Ap (eI .i64) (some 69) 3 8 1 x48_1_1 ([x48_1_2]) c103_1) (trivial)) (by kernel_rfl) ?_
          refine WX.popBlk ?_
          refine WC.reg (n := 79) hn [] [2, 3, 4, 5, 8, 9, 10] [4, 5, 8, 69] ⟨[(2, .p (bo (a2))), (3, .p (.s (.int .u8 a3))), (4, .ptr 4 0), (5, .ptr 5 0), (8, .ptr 8 0), (9, .own 69), (10, .p (i6 (((IntKind.i64.wrap (x48_1_2 + 1))))))], [(4, .box 28 [.p (sC t2_2.Classes), .p (i6 (t2_2.First.N)), .p (sW t2_2.First.Words), .p (i6 (t2_2.Last.N)), .p (sW t2_2.Last.Words), .p (sB t2_2.Follow), .p (bo (t2_2.Null))]), (5, .box 25 [.p (i6 (t3_2.N)), .p (sW t3_2.Words)]), (8, .box 25 [.p (i6 (0)), .p (.sl .nil 0 [])]), (69, rowV 3 (eI .i64) (x48_1_1 ++ ([x48_1_2])))], ⟨[], false⟩, []⟩ trivial (by kernel_rfl) ?_
          exact WC.next [2, 3, 4, 5, 8, 9, 10] [4, 5, 8, 69] (by kernel_rfl) (hnext48 (x48_1_1 ++ ([x48_1_2]), (IntKind.i64.wrap (x48_1_2 + 1))) h)
        · refine WC.condF c102 (by kernel_rfl) ?_
          refine WX.skip ?_
          refine WX.popBlk ?_
          refine WC.reg (n := 79) hn [] [2, 3, 4, 5, 8, 9, 10] [4, 5, 8, 69] ⟨[(2, .p (bo (a2))), (3, .p (.s (.int .u8 a3))), (4, .ptr 4 0), (5, .ptr 5 0), (8, .ptr 8 0), (9, .own 69), (10, .p (i6 (((IntKind.i64.wrap (x48_1_2 + 1))))))], [(4, .box 28 [.p (sC t2_2.Classes), .p (i6 (t2_2.First.N)), .p (sW t2_2.First.Words), .p (i6 (t2_2.Last.N)), .p (sW t2_2.Last.Words), .p (sB t2_2.Follow), .p (bo (t2_2.Null))]), (5, .box 25 [.p (i6 (t3_2.N)), .p (sW t3_2.Words)]), (8, .box 25 [.p (i6 (0)), .p (.sl .nil 0 [])]), (69, rowV 3 (eI .i64) x48_1_1)], ⟨[], false⟩, []⟩ trivial (by kernel_rfl) ?_
          exact WC.next [2, 3, 4, 5, 8, 9, 10] [4, 5, 8, 69] (by kernel_rfl) (hnext48 (x48_1_1, (IntKind.i64.wrap (x48_1_2 + 1))) h)
      · replace hJ91 := fun y91_1 => hJ91 y91_1
        refine WX.block ?_
        refine WC.loop (V := Bool × Int) (riddleref11_Next_l1 t2_2 t3_2 x48_1_2 J91) r (fun v106 => ⟨[(2, .p (bo (a2))), (3, .p (.s (.int .u8 a3))), (4, .ptr 4 0), (5, .ptr 5 0), (8, .ptr 8 0), (9, .own 69), (10, .p (i6 (x48_1_2))), (11, .p (bo (v106.1))), (12, .p (i6 (v106.2)))], [(4, .box 28 [.p (sC t2_2.Classes), .p (i6 (t2_2.First.N)), .p (sW t2_2.First.Words), .p (i6 (t2_2.Last.N)), .p (sW t2_2.Last.Words), .p (sB t2_2.Follow), .p (bo (t2_2.Null))]), (5, .box 25 [.p (i6 (t3_2.N)), .p (sW t3_2.Words)]), (8, .box 25 [.p (i6 (0)), .p (.sl .nil 0 [])]), (69, rowV 3 (eI .i64) x48_1_1)], ⟨[], false⟩, []⟩) _ (m89_1, 0) h (fun _ => rfl) [2, 3, 4, 5, 8, 9, 10, 11, 12] [4, 5, 8, 69] (by kernel_rfl) ?_
        clear h; rintro k ⟨x106_1_1, x106_1_2⟩ h K106 hnext106 hexit106
        rw [riddleref11_Next_l1] at h
        refine WX.seq ?_
        refine WX.seq ?_
        refine WC.reg (n := 79) hn [] [2, 3, 4, 5, 8, 9, 10, 11, 12, 38] [4, 5, 8, 69] ⟨[(2, .p (bo (a2))), (3, .p (.s (.int .u8 a3))), (4, .ptr 4 0), (5, .ptr 5 0), (8, .ptr 8 0), (9, .own 69), (10, .p (i6 (x48_1_2))), (11, .p (bo (x106_1_1))), (12, .p (i6 (x106_1_2))), (38, .p (bo (((decide (x106_1_2 < (t2_2.Follow.length : Int)))))))], [(4, .box 28 [.p (sC t2_2.Classes), .p (i6 (t2_2.First.N)), .p (sW t2_2.First.Words), .p (i6 (t2_2.Last.N)), .p (sW t2_2.Last.Words), .p (sB t2_2.Follow), .p (bo (t2_2.Null))]), (5, .box 25 [.p (i6 (t3_2.N)), .p (sW t3_2.Words)]), (8, .box 25 [.p (i6 (0)), .p (.sl .nil 0 [])]), (69, rowV 3 (eI .i64) x48_1_1)], ⟨[], false⟩, []⟩ trivial (by kernel_rfl) ?_
        rcases if_or h with ⟨c116, h⟩ | ⟨c116, h⟩
        · refine WC.condT c116 (by kernel_rfl) ?_
          refine WX.skip ?_
          refine WX.seq ?_
          refine WX.block ?_
          obtain ⟨m117_1, g117, h⟩ := bind_some h
          refine WC.via (α := Bool) (fun v117 => ⟨[(2, .p (bo (a2))), (3, .p (.s (.int .u8 a3))), (4, .ptr 4 0), (5, .ptr 5 0), (8, .ptr 8 0), (9, .own 69), (10, .p (i6 (x48_1_2))), (11, .p (bo (v117))), (12, .p (i6 (x106_1_2)))], [(4, .box 28 [.p (sC t2_2.Classes), .p (i6 (t2_2.First.N)), .p (sW t2_2.First.Words), .p (i6 (t2_2.Last.N)), .p (sW t2_2.Last.Words), .p (sB t2_2.Follow), .p (bo (t2_2.Null))]), (5, .box 25 [.p (i6 (t3_2.N)), .p (sW t3_2.Words)]), (8, .box 25 [.p (i6 (0)), .p (.sl .nil 0 [])]), (69, rowV 3 (eI .i64) x48_1_1)], ⟨[], false⟩, []⟩) m117_1 (fun hk => ?_) ?_
          · rcases if_or g117 with ⟨b117_1, g117⟩ | ⟨b117_1, g117⟩
            · exact WC.reg (n := 79) hn [(1, .val (.p (bo (true))))] [2, 3, 4, 5, 8, 9, 10, 11, 12] [4, 5, 8, 69] ⟨[(2, .p (bo (a2))), (3, .p (.s (.int .u8 a3))), (4, .ptr 4 0), (5, .ptr 5 0), (8, .ptr 8 0), (9, .own 69), (10, .p (i6 (x48_1_2))), (11, .p (bo (true))), (12, .p (i6 (x106_1_2)))], [(4, .box 28 [.p (sC t2_2.Classes), .p (i6 (t2_2.First.N)), .p (sW t2_2.First.Words), .p (i6 (t2_2.Last.N)), .p (sW t2_2.Last.Words), .p (sB t2_2.Follow), .p (bo (t2_2.Null))]), (5, .box 25 [.p (i6 (t3_2.N)), .p (sW t3_2.Words)]), (8, .box 25 [.p (i6 (0)), .p (.sl .nil 0 [])]), (69, rowV 3 (eI .i64) x48_1_1)], ⟨[], false⟩, []⟩ (And.intro (Bl b117_1) (trivial)) (by kernel_rfl) (hk true (Option.some.inj g117))
            · obtain ⟨t117_2, h117_1, g117⟩ := bind_some g117
              rcases if_or g117 with ⟨b117_5, g117⟩ | ⟨b117_5, g117⟩
              · obtain ⟨t117_4, h117_3, g117⟩ := bind_some g117
                obtain ⟨t117_6, h117_5, g117⟩ := bind_some g117
                exact WC.reg (n := 79) hn [(1, .val (.p (bo (false)))), (4, .resP (bo (t117_2))), (5, .val (.p (bo (true)))), (9, .val (.p (.rop (e_api_Bits.cells t117_4 ++ encL e_api_Bits (t2_2.Follow.drop (x106_1_2.toNat + 1)))))), (12, .resP (bo (t117_6)))] [2, 3, 4, 5, 8, 9, 10, 11, 12] [4, 5, 8, 69] ⟨[(2, .p (bo (a2))), (3, .p (.s (.int .u8 a3))), (4, .ptr 4 0), (5, .ptr 5 0), (8, .ptr 8 0), (9, .own 69), (10, .p (i6 (x48_1_2))), (11, .p (bo (t117_6))), (12, .p (i6 (x106_1_2)))], [(4, .box 28 [.p (sC t2_2.Classes), .p (i6 (t2_2.First.N)), .p (sW t2_2.First.Words), .p (i6 (t2_2.Last.N)), .p (sW t2_2.Last.Words), .p (sB t2_2.Follow), .p (bo (t2_2.Null))]), (5, .box 25 [.p (i6 (t3_2.N)), .p (sW t3_2.Words)]), (8, .box 25 [.p (i6 (0)), .p (.sl .nil 0 [])]), (69, rowV 3 (eI .i64) x48_1_1)], ⟨[], false⟩, []⟩ (And.intro (Bl b117_1) (And.intro ((riddleref01_Has_ok h117_1)) (And.intro (Bl b117_5) (And.intro (Ix e_api_Bits h117_3) (And.intro ((riddleref01_Has_ok h117_5)) (trivial)))))) (by kernel_rfl) (hk t117_6 (Option.some.inj g117))
              · exact WC.reg (n := 79) hn [(1, .val (.p (bo (false)))), (4, .resP (bo (t117_2))), (5, .val (.p (bo (false))))] [2, 3, 4, 5, 8, 9, 10, 11, 12] [4, 5, 8, 69] ⟨[(2, .p (bo (a2))), (3, .p (.s (.int .u8 a3))), (4, .ptr 4 0), (5, .ptr 5 0), (8, .ptr 8 0), (9, .own 69), (10, .p (i6 (x48_1_2))), (11, .p (bo (false))), (12, .p (i6 (x106_1_2)))], [(4, .box 28 [.p (sC t2_2.Classes), .p (i6 (t2_2.First.N)), .p (sW t2_2.First.Words), .p (i6 (t2_2.Last.N)), .p (sW t2_2.Last.Words), .p (sB t2_2.Follow), .p (bo (t2_2.Null))]), (5, .box 25 [.p (i6 (t3_2.N)), .p (sW t3_2.Words)]), (8, .box 25 [.p (i6 (0)), .p (.sl .nil 0 [])]), (69, rowV 3 (eI .i64) x48_1_1)], ⟨[], false⟩, []⟩ (And.intro (Bl b117_1) (And.intro ((riddleref01_Has_ok h117_1)) (And.intro (Bl b117_5) (trivial)))) (by kernel_rfl) (hk false (Option.some.inj g117))
          refine WX.popBlk ?_
          refine WC.reg (n := 79) hn [] [2, 3, 4, 5, 8, 9, 10, 11, 12] [4, 5, 8, 69] ⟨[(2, .p (bo (a2))), (3, .p (.s (.int .u8 a3))), (4, .ptr 4 0), (5, .ptr 5 0), (8, .ptr 8 0), (9, .own 69), (10, .p (i6 (x48_1_2))), (11, .p (bo (m117_1))), (12, .p (i6 (((IntKind.i64.wrap (x106_1_2 + 1))))))], [(4, .box 28 [.p (sC t2_2.Classes), .p (i6 (t2_2.First.N)), .p (sW t2_2.First.Words), .p (i6 (t2_2.Last.N)), .p (sW t2_2.Last.Words), .p (sB t2_2.Follow), .p (bo (t2_2.Null))]), (5, .box 25 [.p (i6 (t3_2.N)), .p (sW t3_2.Words)]), (8, .box 25 [.p (i6 (0)), .p (.sl .nil 0 [])]), (69, rowV 3 (eI .i64) x48_1_1)], ⟨[], false⟩, []⟩ trivial (by kernel_rfl) ?_
          exact WC.next [2, 3, 4, 5, 8, 9, 10, 11, 12] [4, 5, 8, 69] (by kernel_rfl) (hnext106 (m117_1, (IntKind.i64.wrap (x106_1_2 + 1))) h)
        · refine WC.condF c116 (by kernel_rfl) ?_
          refine WX.exit ?_
          refine WX.popCodeExit ?_
          refine WC.exit_nil (hexit106 _ _ (by simp) ?_)
          refine WX.popBlkHit ?_
          exact WC.keep [2, 3, 4, 5, 8, 9, 10, 11] [4, 5, 8, 69] (by kernel_rfl) (hJ91 x106_1_1 h)
    · refine WC.condF c88 (by kernel_rfl) ?_
      refine WX.exit ?_
      refine WX.popCodeExit ?_
      refine WC.exit_nil (hexit48 _ _ (by simp) ?_)
      refine WX.popBlkHit ?_
      exact WC.keep [4, 8, 9] [4, 8, 69] (by kernel_rfl) (hJ6 x48_1_1 h)
theorem riddleref11_Next_okP {k : Nat} {a0 : api_Nfa} {a1 : api_Bits} {a2 : Bool} {a3 : Int} {r : api_Bits} (h : riddleref11_Next k a0 a1 a2 a3 = some r) : Ans Tryd.prog 25 [.agg [sC a0.Classes, i6 (a0.First.N), sW a0.First.Words, i6 (a0.Last.N), sW a0.Last.Words, sB a0.Follow, bo (a0.Null)], .agg [i6 (a1.N), sW a1.Words], bo (a2), .s (.int .u8 a3)] (.agg [i6 (r.N), sW r.Words]) := AnsO.ans (args := [.agg [sC a0.Classes, i6 (a0.First.N), sW a0.First.Words, i6 (a0.Last.N), sW a0.Last.Words, sB a0.Follow, bo (a0.Null)], .agg [i6 (a1.N), sW a1.Words], bo (a2), .s (.int .u8 a3)]) (riddleref11_Next_ok h) (by kernel_rfl)
def riddleref01_List_l0 (a0 : api_Bits) (J4 : List Int → Option ((List Int))) : Nat → (List Int × Int) → Option ((List Int))
  | 0, _ => none
  | k + 1, (x21_1_1, x21_1_2) => (riddleref01_may k a0).bind fun t36_2 => (if (decide (x21_1_2 < t36_2.N)) = true then (riddleref01_Has k a0 x21_1_2).bind fun t38_2 => (if t38_2 = true then (if okApp 8 (x21_1_1.length + ([x21_1_2]).length) then riddleref01_List_l0 a0 J4 k (x21_1_1 ++ ([x21_1_2]), (IntKind.i64.wrap (x21_1_2 + 1))) else none) else riddleref01_List_l0 a0 J4 k (x21_1_1, (IntKind.i64.wrap (x21_1_2 + 1)))) else J4 x21_1_1)
def riddleref01_List (k : Nat) (a0 : api_Bits) : Option ((List Int)) :=
  jn (fun (v4 : List Int) => some v4) fun J4 => riddleref01_List_l0 a0 J4 k (([] : List Int), 0)
theorem riddleref01_List_ok {k : Nat} {a0 : api_Bits} {r : (List Int)} (h : riddleref01_List k a0 = some r) : AnsO Tryd.prog 63 [] [.p (.agg [i6 (a0.N), sW a0.Words])] [(18, rowV 3 (eI .i64) r)] (.own 18) := by
  refine W_fnO [18] Tryd.func63 rfl (by kernel_rfl) (by kernel_rfl) (by kernel_rfl) (by kernel_rfl) ?_
  intro X hro hn
  unfold riddleref01_List at h
  refine WX.seq ?_
  refine WC.reg (n := 20) hn [] [1] [1] ⟨[(1, .ptr 1 0)], [(1, .box 25 [.p (i6 (a0.N)), .p (sW a0.Words)])], ⟨[], false⟩, []⟩ trivial (by kernel_rfl) ?_
  refine WX.seq ?_
  refine WC.reg (n := 20) hn [] [1, 3] [1] ⟨[(1, .ptr 1 0), (3, .p (.sl .nil 0 []))], [(1, .box 25 [.p (i6 (a0.N)), .p (sW a0.Words)])], ⟨[], false⟩, []⟩ trivial (by kernel_rfl) ?_
  refine WX.seq ?_
  refine WX.seq ?_
  refine WC.reg (n := 20) hn [] [1, 3, 4] [1] ⟨[(1, .ptr 1 0), (3, .p (.sl .nil 0 [])), (4, .p (i6 (0)))], [(1, .box 25 [.p (i6 (a0.N)), .p (sW a0.Words)])], ⟨[], false⟩, []⟩ trivial (by kernel_rfl) ?_
  obtain ⟨J4, eJ4, h⟩ := jn_some h
  try dsimp only at h
  refine WC.join (α := List Int) (fun v4 => ⟨[(3, .own 18)], [(18, rowV 3 (eI .i64) v4)], ⟨[], false⟩, []⟩) (fun v4 => J4 v4 = some r) ?_ (fun hJ4 => ?_)
  · rintro y4_1 h
    rw [eJ4] at h
    try dsimp only at h
    refine WX.seq ?_
    refine WC.reg (n := 20) hn [] [2] [18] ⟨[(2, .own 18)], [(18, rowV 3 (eI .i64) y4_1)], ⟨[], false⟩, []⟩ trivial (by kernel_rfl) ?_
    refine WX.ret ?_
    exact WC.outO (by rw [← Option.some.inj h]; kernel_rfl)
  · replace hJ4 := fun y4_1 => hJ4 y4_1
    refine WX.block ?_
    refine WC.nil (n := 20) hn [3] none 18 3 1 (by kernel_rfl) [1, 3, 4] [1, 18] (st' := ⟨[(1, .ptr 1 0), (3, .own 18), (4, .p (i6 (0)))], [(1, .box 25 [.p (i6 (a0.N)), .p (sW a0.Words)]), (18, rowV 3 (eI .i64) (([] : List Int)))], ⟨[], false⟩, []⟩) (by kernel_rfl) ?_
    refine WC.loop (V := List Int × Int) (riddleref01_List_l0 a0 J4) r (fun v21 => ⟨[(1, .ptr 1 0), (3, .own 18), (4, .p (i6 (v21.2)))], [(1, .box 25 [.p (i6 (a0.N)), .p (sW a0.Words)]), (18, rowV 3 (eI .i64) v21.1)], ⟨[], false⟩, []⟩) _ (([] : List Int), 0) h (fun _ => rfl) [1, 3, 4] [1, 18] (by kernel_rfl) ?_
    clear h; rintro k ⟨x21_1_1, x21_1_2⟩ h K21 hnext21 hexit21
    rw [riddleref01_List_l0] at h
    refine WX.seq ?_
    refine WX.seq ?_
    obtain ⟨t36_2, h36_1, h⟩ := bind_some h
    refine WC.reg (n := 20) hn [(2, .resP (.agg [i6 (t36_2.N), sW t36_2.Words]))] [1, 3, 4, 9] [1, 18] ⟨[(1, .ptr 1 0), (3, .own 18), (4, .p (i6 (x21_1_2))), (9, .p (bo (((decide (x21_1_2 < t36_2.N))))))], [(1, .box 25 [.p (i6 (a0.N)), .p (sW a0.Words)]), (18, rowV 3 (eI .i64) x21_1_1)], ⟨[], false⟩, []⟩ (And.intro ((riddleref01_may_ok h36_1)) (trivial)) (by kernel_rfl) ?_
    rcases if_or h with ⟨c37, h⟩ | ⟨c37, h⟩
    · refine WC.condT c37 (by kernel_rfl) ?_
      refine WX.skip ?_
      refine WX.seq ?_
      refine WX.block ?_
      refine WX.seq ?_
      obtain ⟨t38_2, h38_1, h⟩ := bind_some h
      refine WC.reg (n := 20) hn [(2, .resP (bo (t38_2)))] [1, 3, 4, 14] [1, 18] ⟨[(1, .ptr 1 0), (3, .own 18), (4, .p (i6 (x21_1_2))), (14, .p (bo (t38_2)))], [(1, .box 25 [.p (i6 (a0.N)), .p (sW a0.Words)]), (18, rowV 3 (eI .i64) x21_1_1)], ⟨[], false⟩, []⟩ (And.intro ((riddleref01_Has_ok h38_1)) (trivial)) (by kernel_rfl) ?_
      rcases if_or h with ⟨c39, h⟩ | ⟨c39, h⟩
      · refine WC.condT c39 (by kernel_rfl) ?_
        obtain ⟨c40_1, h⟩ := if_some h
        refine WC.reg (n := 20) hn [(3, .app (some 18) (rowV 3 (eI .i64) (x21_1_1 ++ ([x21_1_2]))))] [1, 3, 4] [1, 18] ⟨[(1, .ptr 1 0), (3, .own 18), (4, .p (i6 (x21_1_2)))], [(1, .box 25 [.p (i6 (a0.N)), .p (sW a0.Words)]), (18, rowV 3 (eI .i64) (x21_1_1 ++ ([x21_1_2])))], ⟨[], false⟩, []⟩ (And.intro (Ap (eI .i64) (some 18) 3 8 1 x21_1_1 ([x21_1_2]) c40_1) (trivial)) (by kernel_rfl) ?_
        refine WX.popBlk ?_
        refine WC.reg (n := 20) hn [] [1, 3, 4] [1, 18] ⟨[(1, .ptr 1 0), (3, .own 18), (4, .p (i6 (((IntKind.i64.wrap (x21_1_2 + 1))))))], [(1, .box 25 [.p (i6 (a0.N)), .p (sW a0.Words)]), (18, rowV 3 (eI .i64) (x21_1_1 ++ ([x21_1_2])))], ⟨[], false⟩, []⟩ trivial (by kernel_rfl) ?_
        exact WC.next [1, 3, 4] [1, 18] (by kernel_rfl) (hnext21 (x21_1_1 ++ ([x21_1_2]), (IntKind.i64.wrap (x21_1_2 + 1))) h)
      · refine WC.condF c39 (by kernel_rfl) ?_
        refine WX.skip ?_
        refine WX.popBlk ?_
        refine WC.reg (n := 20) hn [] [1, 3, 4] [1, 18] ⟨[(1, .ptr 1 0), (3, .own 18), (4, .p (i6 (((IntKind.i64.wrap (x21_1_2 + 1))))))], [(1, .box 25 [.p (i6 (a0.N)), .p (sW a0.Words)]), (18, rowV 3 (eI .i64) x21_1_1)], ⟨[], false⟩, []⟩ trivial (by kernel_rfl) ?_
        exact WC.next [1, 3, 4] [1, 18] (by kernel_rfl) (hnext21 (x21_1_1, (IntKind.i64.wrap (x21_1_2 + 1))) h)
    · refine WC.condF c37 (by kernel_rfl) ?_
      refine WX.exit ?_
      refine WX.popCodeExit ?_
      refine WC.exit_nil (hexit21 _ _ (by simp) ?_)
      refine WX.popBlkHit ?_
      exact WC.keep [3] [18] (by kernel_rfl) (hJ4 x21_1_1 h)
theorem riddleref01_List_okP {k : Nat} {a0 : api_Bits} {r : (List Int)} (h : riddleref01_List k a0 = some r) : Ans Tryd.prog 63 [.agg [i6 (a0.N), sW a0.Words]] (slV (eI .i64) r) := AnsO.ans (args := [.agg [i6 (a0.N), sW a0.Words]]) (riddleref01_List_ok h) (by kernel_rfl)
def riddleref01_pick_l0 (a0 : api_Bits) (a1 : api_Bits) (a2 : Bool) (t2_4 : api_Bits) (J4 : List Int → Option (api_Bits)) : Nat → (Int × List Int) → Option (api_Bits)
  | 0, _ => none
  | k + 1, (x21_1_1, x21_1_2) => (if (decide (x21_1_1 < t2_4.N)) = true then (riddleref01_Has k a0 x21_1_1).bind fun t38_2 => ((if t38_2 = true then (riddleref01_Has k a1 x21_1_1).bind fun t38_4 => some ((t38_4 == a2)) else some false) : Option (Bool)).bind fun v38 => (if v38 = true then (riddleref01_put ((api_Bits.mk t2_4.N x21_1_2)) x21_1_1).bind fun t40_2 => riddleref01_pick_l0 a0 a1 a2 t2_4 J4 k ((IntKind.i64.wrap (x21_1_1 + 1)), t40_2) else riddleref01_pick_l0 a0 a1 a2 t2_4 J4 k ((IntKind.i64.wrap (x21_1_1 + 1)), x21_1_2)) else J4 x21_1_2)
def riddleref01_pick (k : Nat) (a0 : api_Bits) (a1 : api_Bits) (a2 : Bool) : Option (api_Bits) :=
  (riddleref01_may k a0).bind fun t2_2 => (riddleref01_Zero t2_2.N).bind fun t2_4 => jn (fun (v4 : List Int) => some ((api_Bits.mk t2_4.N v4))) fun J4 => riddleref01_pick_l0 a0 a1 a2 t2_4 J4 k (0, t2_4.Words)
theorem riddleref01_pick_ok {k : Nat} {a0 : api_Bits} {a1 : api_Bits} {a2 : Bool} {r : api_Bits} (h : riddleref01_pick k a0 a1 a2 = some r) : AnsO Tryd.prog 98 [] [.p (.agg [i6 (a0.N), sW a0.Words]), .p (.agg [i6 (a1.N), sW a1.Words]), .p (bo (a2))] [(12, rowV 69 (eI .u64) r.Words)] (.agg [.p (i6 (r.N)), .own 12]) := by
  refine W_fnO [12] Tryd.func98 rfl (by kernel_rfl) (by kernel_rfl) (by kernel_rfl) (by kernel_rfl) ?_
  intro X hro hn
  unfold riddleref01_pick at h
  refine WX.seq ?_
  refine WC.reg (n := 33) hn [] [2, 3, 4, 6] [3, 4, 6] ⟨[(2, .p (bo (a2))), (3, .ptr 3 0), (4, .ptr 4 0), (6, .ptr 6 0)], [(3, .box 25 [.p (i6 (a0.N)), .p (sW a0.Words)]), (4, .box 25 [.p (i6 (a1.N)), .p (sW a1.Words)]), (6, .box 25 [.p (i6 (0)), .p (.sl .nil 0 [])])], ⟨[], false⟩, []⟩ trivial (by kernel_rfl) ?_
  refine WX.seq ?_
  obtain ⟨t2_2, h2_1, h⟩ := bind_some h
  obtain ⟨t2_4, h2_3, h⟩ := bind_some h
  refine WC.reg (n := 33) hn [(1, .resP (.agg [i6 (t2_2.N), sW t2_2.Words])), (3, .co [] [] [] [(12, rowV 69 (eI .u64) t2_4.Words)] (.agg [.p (i6 (t2_4.N)), .own 12]))] [2, 3, 4, 6, 7] [3, 4, 6, 7, 12] ⟨[(2, .p (bo (a2))), (3, .ptr 3 0), (4, .ptr 4 0), (6, .ptr 6 0), (7, .ptr 7 0)], [(3, .box 25 [.p (i6 (a0.N)), .p (sW a0.Words)]), (4, .box 25 [.p (i6 (a1.N)), .p (sW a1.Words)]), (6, .box 25 [.p (i6 (0)), .p (.sl .nil 0 [])]), (7, .box 25 [.p (i6 (t2_4.N)), .own 12]), (12, rowV 69 (eI .u64) t2_4.Words)], ⟨[], false⟩, []⟩ (And.intro ((riddleref01_may_ok h2_1)) (And.intro (And.intro ((riddleref01_Zero_ok h2_3).ren 7 12 (by kernel_rfl)) (trivial)) (trivial))) (by kernel_rfl) ?_
  refine WX.seq ?_
  refine WX.seq ?_
  refine WC.reg (n := 33) hn [] [2, 3, 4, 6, 7, 8] [3, 4, 6, 7, 12] ⟨[(2, .p (bo (a2))), (3, .ptr 3 0), (4, .ptr 4 0), (6, .ptr 6 0), (7, .ptr 7 0), (8, .p (i6 (0)))], [(3, .box 25 [.p (i6 (a0.N)), .p (sW a0.Words)]), (4, .box 25 [.p (i6 (a1.N)), .p (sW a1.Words)]), (6, .box 25 [.p (i6 (0)), .p (.sl .nil 0 [])]), (7, .box 25 [.p (i6 (t2_4.N)), .own 12]), (12, rowV 69 (eI .u64) t2_4.Words)], ⟨[], false⟩, []⟩ trivial (by kernel_rfl) ?_
  obtain ⟨J4, eJ4, h⟩ := jn_some h
  try dsimp only at h
  refine WC.join (α := List Int) (fun v4 => ⟨[(6, .ptr 6 0), (7, .ptr 7 0)], [(6, .box 25 [.p (i6 (0)), .p (.sl .nil 0 [])]), (7, .box 25 [.p (i6 (t2_4.N)), .own 12]), (12, rowV 69 (eI .u64) v4)], ⟨[], false⟩, []⟩) (fun v4 => J4 v4 = some r) ?_ (fun hJ4 => ?_)
  · rintro y4_1 h
    rw [eJ4] at h
    try dsimp only at h
    refine WX.seq ?_
    refine WC.reg (n := 33) hn [] [6] [6, 12] ⟨[(6, .ptr 6 0)], [(6, .box 25 [.p (i6 (t2_4.N)), .own 12]), (12, rowV 69 (eI .u64) y4_1)], ⟨[], false⟩, []⟩ trivial (by kernel_rfl) ?_
    refine WX.ret ?_
    exact WC.outO (by rw [← Option.some.inj h]; kernel_rfl)
  · replace hJ4 := fun y4_1 => hJ4 y4_1
    refine WX.block ?_
    refine WC.loop (V := Int × List Int) (riddleref01_pick_l0 a0 a1 a2 t2_4 J4) r (fun v21 => ⟨[(2, .p (bo (a2))), (3, .ptr 3 0), (4, .ptr 4 0), (6, .ptr 6 0), (7, .ptr 7 0), (8, .p (i6 (v21.1)))], [(3, .box 25 [.p (i6 (a0.N)), .p (sW a0.Words)]), (4, .box 25 [.p (i6 (a1.N)), .p (sW a1.Words)]), (6, .box 25 [.p (i6 (0)), .p (.sl .nil 0 [])]), (7, .box 25 [.p (i6 (t2_4.N)), .own 12]), (12, rowV 69 (eI .u64) v21.2)], ⟨[], false⟩, []⟩) _ (0, t2_4.Words) h (fun _ => rfl) [2, 3, 4, 6, 7, 8] [3, 4, 6, 7, 12] (by kernel_rfl) ?_
    clear h; rintro k ⟨x21_1_1, x21_1_2⟩ h K21 hnext21 hexit21
    rw [riddleref01_pick_l0] at h
    refine WX.seq ?_
    refine WX.seq ?_
    refine WC.reg (n := 33) hn [] [2, 3, 4, 6, 7, 8, 16] [3, 4, 6, 7, 12] ⟨[(2, .p (bo (a2))), (3, .ptr 3 0), (4, .ptr 4 0), (6, .ptr 6 0), (7, .ptr 7 0), (8, .p (i6 (x21_1_1))), (16, .p (bo (((decide (x21_1_1 < t2_4.N))))))], [(3, .box 25 [.p (i6 (a0.N)), .p (sW a0.Words)]), (4, .box 25 [.p (i6 (a1.N)), .p (sW a1.Words)]), (6, .box 25 [.p (i6 (0)), .p (.sl .nil 0 [])]), (7, .box 25 [.p (i6 (t2_4.N)), .own 12]), (12, rowV 69 (eI .u64) x21_1_2)], ⟨[], false⟩, []⟩ trivial (by kernel_rfl) ?_
    rcases if_or h with ⟨c37, h⟩ | ⟨c37, h⟩
    · refine WC.condT c37 (by kernel_rfl) ?_
      refine WX.skip ?_
      refine WX.seq ?_
      refine WX.block ?_
      refine WX.seq ?_
      obtain ⟨t38_2, h38_1, h⟩ := bind_some h
      obtain ⟨m38_1, g38, h⟩ := bind_some h
      refine WC.via (α := Bool) (fun v38 => ⟨[(2, .p (bo (a2))), (3, .ptr 3 0), (4, .ptr 4 0), (6, .ptr 6 0), (7, .ptr 7 0), (8, .p (i6 (x21_1_1))), (28, .p (bo (v38)))], [(3, .box 25 [.p (i6 (a0.N)), .p (sW a0.Words)]), (4, .box 25 [.p (i6 (a1.N)), .p (sW a1.Words)]), (6, .box 25 [.p (i6 (0)), .p (.sl .nil 0 [])]), (7, .box 25 [.p (i6 (t2_4.N)), .own 12]), (12, rowV 69 (eI .u64) x21_1_2)], ⟨[], false⟩, []⟩) m38_1 (fun hk => ?_) ?_
      · rcases if_or g38 with ⟨b38_3, g38⟩ | ⟨b38_3, g38⟩
        · obtain ⟨t38_4, h38_3, g38⟩ := bind_some g38
          exact WC.reg (n := 33) hn [(2, .resP (bo (t38_2))), (3, .val (.p (bo (true)))), (6, .resP (bo (t38_4)))] [2, 3, 4, 6, 7, 8, 28] [3, 4, 6, 7, 12] ⟨[(2, .p (bo (a2))), (3, .ptr 3 0), (4, .ptr 4 0), (6, .ptr 6 0), (7, .ptr 7 0), (8, .p (i6 (x21_1_1))), (28, .p (bo (((t38_4 == a2)))))], [(3, .box 25 [.p (i6 (a0.N)), .p (sW a0.Words)]), (4, .box 25 [.p (i6 (a1.N)), .p (sW a1.Words)]), (6, .box 25 [.p (i6 (0)), .p (.sl .nil 0 [])]), (7, .box 25 [.p (i6 (t2_4.N)), .own 12]), (12, rowV 69 (eI .u64) x21_1_2)], ⟨[], false⟩, []⟩ (And.intro ((riddleref01_Has_ok h38_1)) (And.intro (Bl b38_3) (And.intro ((riddleref01_Has_ok h38_3)) (trivial)))) (by kernel_rfl) (hk ((t38_4 == a2)) (Option.some.inj g38))
        · exact WC.reg (n := 33) hn [(2, .resP (bo (t38_2))), (3, .val (.p (bo (false))))] [2, 3, 4, 6, 7, 8, 28] [3, 4, 6, 7, 12] ⟨[(2, .p (bo (a2))), (3, .ptr 3 0), (4, .ptr 4 0), (6, .ptr 6 0), (7, .ptr 7 0), (8, .p (i6 (x21_1_1))), (28, .p (bo (false)))], [(3, .box 25 [.p (i6 (a0.N)), .p (sW a0.Words)]), (4, .box 25 [.p (i6 (a1.N)), .p (sW a1.Words)]), (6, .box 25 [.p (i6 (0)), .p (.sl .nil 0 [])]), (7, .box 25 [.p (i6 (t2_4.N)), .own 12]), (12, rowV 69 (eI .u64) x21_1_2)], ⟨[], false⟩, []⟩ (And.intro ((riddleref01_Has_ok h38_1)) (And.intro (Bl b38_3) (trivial))) (by kernel_rfl) (hk false (Option.some.inj g38))
      rcases if_or h with ⟨c39, h⟩ | ⟨c39, h⟩
      · refine WC.condT c39 (by kernel_rfl) ?_
        obtain ⟨t40_2, h40_1, h⟩ := bind_some h
        refine WC.reg (n := 33) hn [(2, .co [] [12] [] [(12, rowV 69 (eI .u64) t40_2)] (.tup []))] [2, 3, 4, 6, 7, 8] [3, 4, 6, 7, 12] ⟨[(2, .p (bo (a2))), (3, .ptr 3 0), (4, .ptr 4 0), (6, .ptr 6 0), (7, .ptr 7 0), (8, .p (i6 (x21_1_1)))], [(3, .box 25 [.p (i6 (a0.N)), .p (sW a0.Words)]), (4, .box 25 [.p (i6 (a1.N)), .p (sW a1.Words)]), (6, .box 25 [.p (i6 (0)), .p (.sl .nil 0 [])]), (7, .box 25 [.p (i6 (t2_4.N)), .own 12]), (12, rowV 69 (eI .u64) t40_2)], ⟨[], false⟩, []⟩ (And.intro (And.intro ((riddleref01_put_ok h40_1).ren 1000 12 (by kernel_rfl)) (trivial)) (trivial)) (by kernel_rfl) ?_
        refine WX.popBlk ?_
        refine WC.reg (n := 33) hn [] [2, 3, 4, 6, 7, 8] [3, 4, 6, 7, 12] ⟨[(2, .p (bo (a2))), (3, .ptr 3 0), (4, .ptr 4 0), (6, .ptr 6 0), (7, .ptr 7 0), (8, .p (i6 (((IntKind.i64.wrap (x21_1_1 + 1))))))], [(3, .box 25 [.p (i6 (a0.N)), .p (sW a0.Words)]), (4, .box 25 [.p (i6 (a1.N)), .p (sW a1.Words)]), (6, .box 25 [.p (i6 (0)), .p (.sl .nil 0 [])]), (7, .box 25 [.p (i6 (t2_4.N)), .own 12]), (12, rowV 69 (eI .u64) t40_2)], ⟨[], false⟩, []⟩ trivial (by kernel_rfl) ?_
        exact WC.next [2, 3, 4, 6, 7, 8] [3, 4, 6, 7, 12] (by kernel_rfl) (hnext21 ((IntKind.i64.wrap (x21_1_1 + 1)), t40_2) h)
      · refine WC.condF c39 (by kernel_rfl) ?_
        refine WX.skip ?_
        refine WX.popBlk ?_
        refine WC.reg (n := 33) hn [] [2, 3, 4, 6, 7, 8] [3, 4, 6, 7, 12] ⟨[(2, .p (bo (a2))), (3, .ptr 3 0), (4, .ptr 4 0), (6, .ptr 6 0), (7, .ptr 7 0), (8, .p (i6 (((IntKind.i64.wrap (x21_1_1 + 1))))))], [(3, .box 25 [.p (i6 (a0.N)), .p (sW a0.Words)]), (4, .box 25 [.p (i6 (a1.N)), .p (sW a1.Words)]), (6, .box 25 [.p (i6 (0)), .p (.sl .nil 0 [])]), (7, .box 25 [.p (i6 (t2_4.N)), .own 12]), (12, rowV 69 (eI .u64) x21_1_2)], ⟨[], false⟩, []⟩ trivial (by kernel_rfl) ?_
        exact WC.next [2, 3, 4, 6, 7, 8] [3, 4, 6, 7, 12] (by kernel_rfl) (hnext21 ((IntKind.i64.wrap (x21_1_1 + 1)), x21_1_2) h)
    · refine WC.condF c37 (by kernel_rfl) ?_
      refine WX.exit ?_
      refine WX.popCodeExit ?_
      refine WC.exit_nil (hexit21 _ _ (by simp) ?_)
      refine WX.popBlkHit ?_
      exact WC.keep [6, 7] [6, 7, 12] (by kernel_rfl) (hJ4 x21_1_2 h)
theorem riddleref01_pick_okP {k : Nat} {a0 : api_Bits} {a1 : api_Bits} {a2 : Bool} {r : api_Bits} (h : riddleref01_pick k a0 a1 a2 = some r) : Ans Tryd.prog 98 [.agg [i6 (a0.N), sW a0.Words], .agg [i6 (a1.N), sW a1.Words], bo (a2)] (.agg [i6 (r.N), sW r.Words]) := AnsO.ans (args := [.agg [i6 (a0.N), sW a0.Words], .agg [i6 (a1.N), sW a1.Words], bo (a2)]) (riddleref01_pick_ok h) (by kernel_rfl)
def riddleref01_And (k : Nat) (a0 : api_Bits) (a1 : api_Bits) : Option (api_Bits) :=
  (riddleref01_pick k a0 a1 true).bind fun t2_2 => some t2_2
theorem riddleref01_And_ok {k : Nat} {a0 : api_Bits} {a1 : api_Bits} {r : api_Bits} (h : riddleref01_And k a0 a1 = some r) : AnsO Tryd.prog 64 [] [.p (.agg [i6 (a0.N), sW a0.Words]), .p (.agg [i6 (a1.N), sW a1.Words])] [(7, rowV 69 (eI .u64) r.Words)] (.agg [.p (i6 (r.N)), .own 7]) := by
  refine W_fnO [7] Tryd.func64 rfl (by kernel_rfl) (by kernel_rfl) (by kernel_rfl) (by kernel_rfl) ?_
  intro X hro hn
  unfold riddleref01_And at h
  refine WX.seq ?_
  refine WC.reg (n := 8) hn [] [2, 3, 4] [2, 3, 4] ⟨[(2, .ptr 2 0), (3, .ptr 3 0), (4, .ptr 4 0)], [(2, .box 25 [.p (i6 (a0.N)), .p (sW a0.Words)]), (3, .box 25 [.p (i6 (a1.N)), .p (sW a1.Words)]), (4, .box 25 [.p (i6 (0)), .p (.sl .nil 0 [])])], ⟨[], false⟩, []⟩ trivial (by kernel_rfl) ?_
  refine WX.seq ?_
  obtain ⟨t2_2, h2_1, h⟩ := bind_some h
  refine WC.reg (n := 8) hn [(2, .co [] [] [] [(7, rowV 69 (eI .u64) t2_2.Words)] (.agg [.p (i6 (t2_2.N)), .own 7]))] [4] [4, 7] ⟨[(4, .ptr 4 0)], [(4, .box 25 [.p (i6 (t2_2.N)), .own 7]), (7, rowV 69 (eI .u64) t2_2.Words)], ⟨[], false⟩, []⟩ (And.intro (And.intro ((riddleref01_pick_ok h2_1).ren 12 7 (by kernel_rfl)) (trivial)) (trivial)) (by kernel_rfl) ?_
  refine WX.ret ?_
  exact WC.outO (by rw [← Option.some.inj h]; kernel_rfl)
theorem riddleref01_And_okP {k : Nat} {a0 : api_Bits} {a1 : api_Bits} {r : api_Bits} (h : riddleref01_And k a0 a1 = some r) : Ans Tryd.prog 64 [.agg [i6 (a0.N), sW a0.Words], .agg [i6 (a1.N), sW a1.Words]] (.agg [i6 (r.N), sW r.Words]) := AnsO.ans (args := [.agg [i6 (a0.N), sW a0.Words], .agg [i6 (a1.N), sW a1.Words]]) (riddleref01_And_ok h) (by kernel_rfl)
def riddleref11_Accepts (k : Nat) (a0 : api_Nfa) (a1 : api_Bits) : Option (Bool) :=
  (riddleref11_may k a0).bind fun t2_2 => (riddleref11_state k t2_2 a1).bind fun t3_2 => (riddleref01_And k t3_2 t2_2.Last).bind fun t3_4 => (riddleref01_List k t3_4).bind fun t3_6 => some ((decide ((t3_6.length : Int) > 0)))
theorem riddleref11_Accepts_ok {k : Nat} {a0 : api_Nfa} {a1 : api_Bits} {r : Bool} (h : riddleref11_Accepts k a0 a1 = some r) : Ans Tryd.prog 28 [.agg [sC a0.Classes, i6 (a0.First.N), sW a0.First.Words, i6 (a0.Last.N), sW a0.Last.Words, sB a0.Follow, bo (a0.Null)], .agg [i6 (a1.N), sW a1.Words]] (bo (r)) := by
  refine W_fn Tryd.func28 rfl (by kernel_rfl) (by kernel_rfl) ?_
  intro X hro hn
  unfold riddleref11_Accepts at h
  refine WX.seq ?_
  refine WC.reg (n := 16) hn [] [2, 3] [2, 3] ⟨[(2, .ptr 2 0), (3, .ptr 3 0)], [(2, .box 28 [.p (sC a0.Classes), .p (i6 (a0.First.N)), .p (sW a0.First.Words), .p (i6 (a0.Last.N)), .p (sW a0.Last.Words), .p (sB a0.Follow), .p (bo (a0.Null))]), (3, .box 25 [.p (i6 (a1.N)), .p (sW a1.Words)])], ⟨[], false⟩, []⟩ trivial (by kernel_rfl) ?_
  refine WX.seq ?_
  obtain ⟨t2_2, h2_1, h⟩ := bind_some h
  refine WC.reg (n := 16) hn [(1, .resP (.agg [sC t2_2.Classes, i6 (t2_2.First.N), sW t2_2.First.Words, i6 (t2_2.Last.N), sW t2_2.Last.Words, sB t2_2.Follow, bo (t2_2.Null)]))] [2, 3] [2, 3] ⟨[(2, .ptr 2 0), (3, .ptr 3 0)], [(2, .box 28 [.p (sC t2_2.Classes), .p (i6 (t2_2.First.N)), .p (sW t2_2.First.Words), .p (i6 (t2_2.Last.N)), .p (sW t2_2.Last.Words), .p (sB t2_2.Follow), .p (bo (t2_2.Null))]), (3, .box 25 [.p (i6 (a1.N)), .p (sW a1.Words)])], ⟨[], false⟩, []⟩ (And.intro ((riddleref11_may_ok h2_1)) (trivial)) (by kernel_rfl) ?_
  refine WX.seq ?_
  obtain ⟨t3_2, h3_1, h⟩ := bind_some h
  obtain ⟨t3_4, h3_3, h⟩ := bind_some h
  obtain ⟨t3_6, h3_5, h⟩ := bind_some h
  refine WC.drw (n := 16) hn [] [] [(2, .resP (.agg [i6 (t3_2.N), sW t3_2.Words])), (5, .resP (.agg [i6 (t3_4.N), sW t3_4.Words])), (6, .resP (slV (eI .i64) t3_6))] [4] [] ⟨[(4, .p (bo (((decide ((t3_6.length : Int) > 0))))))], [], ⟨[], false⟩, []⟩ (And.intro ((riddleref11_state_ok h3_1)) (And.intro ((riddleref01_And_okP h3_3)) (And.intro ((riddleref01_List_okP h3_5)) (trivial)))) (by kernel_rfl) (by kernel_rfl) (by kernel_rfl) (by kernel_rfl) ?_
  refine WX.ret ?_
  exact WC.outP (by rw [← Option.some.inj h]; kernel_rfl)
def riddleref11_Ends_l0 (a1 : (List Int)) (a2 : Int) (t2_2 : api_Nfa) (J13 : List Int → Option ((List Int))) : Nat → (List Int × Int × Int × List Int) → Option ((List Int))
  | 0, _ => none
  | k + 1, (x33_1_1, x33_1_2, x33_1_3, x33_1_4) => (if (decide (x33_1_2 < (a1.length : Int))) = true then (at_ a1 x33_1_2).bind fun t53_2 => (riddleref11_Next k t2_2 ((api_Bits.mk x33_1_3 x33_1_4)) ((x33_1_2 == a2)) t53_2).bind fun t53_4 => (riddleref11_Accepts k t2_2 t53_4).bind fun t54_2 => (if t54_2 = true then (if okApp 8 (x33_1_1.length + ([(IntKind.i64.wrap (x33_1_2 + 1))]).length) then riddleref11_Ends_l0 a1 a2 t2_2 J13 k (x33_1_1 ++ ([(IntKind.i64.wrap (x33_1_2 + 1))]), (IntKind.i64.wrap (x33_1_2 + 1)), t53_4.N, t53_4.Words) else none) else riddleref11_Ends_l0 a1 a2 t2_2 J13 k (x33_1_1, (IntKind.i64.wrap (x33_1_2 + 1)), t53_4.N, t53_4.Words)) else J13 x33_1_1)
def riddleref11_Ends (k : Nat) (a0 : api_Nfa) (a1 : (List Int)) (a2 : Int) : Option ((List Int)) :=
  (riddleref11_may k a0).bind fun t2_2 => (if (((decide (a2 < 0))) || ((decide (a2 > (a1.length : Int))))) = true then some (([] : List Int)) else jn (fun (v8 : List Int) => (riddleref11_None k t2_2).bind fun t11_2 => jn (fun (v13 : List Int) => some v13) fun J13 => riddleref11_Ends_l0 a1 a2 t2_2 J13 k (v8, a2, t11_2.N, t11_2.Words)) fun J8 => (if t2_2.Null = true then (if okApp 8 (([] : List Int).length + ([a2]).length) then J8 (([] : List Int) ++ ([a2])) else none) else J8 (([] : List Int))))
theorem riddleref11_Ends_ok {k : Nat} {a0 : api_Nfa} {a1 : (List Int)} {a2 : Int} {r : (List Int)} (h : riddleref11_Ends k a0 a1 a2 = some r) : AnsO Tryd.prog 12 [] [.p (.agg [sC a0.Classes, i6 (a0.First.N), sW a0.First.Words, i6 (a0.Last.N), sW a0.Last.Words, sB a0.Follow, bo (a0.Null)]), .p (slV (eI .u8) a1), .p (i6 (a2))] [(25, rowV 3 (eI .i64) r)] (.own 25) := by
  refine W_fnO [25] Tryd.func12 rfl (by kernel_rfl) (by kernel_rfl) (by kernel_rfl) (by kernel_rfl) ?_
  intro X hro hn
  unfold riddleref11_Ends at h
  refine WX.seq ?_
  refine WC.reg (n := 54) hn [] [1, 2, 3] [3] ⟨[(1, .p (slV (eI .u8) a1)), (2, .p (i6 (a2))), (3, .ptr 3 0)], [(3, .box 28 [.p (sC a0.Classes), .p (i6 (a0.First.N)), .p (sW a0.First.Words), .p (i6 (a0.Last.N)), .p (sW a0.Last.Words), .p (sB a0.Follow), .p (bo (a0.Null))])], ⟨[], false⟩, []⟩ trivial (by kernel_rfl) ?_
  refine WX.seq ?_
  obtain ⟨t2_2, h2_1, h⟩ := bind_some h
  refine WC.reg (n := 54) hn [(1, .resP (.agg [sC t2_2.Classes, i6 (t2_2.First.N), sW t2_2.First.Words, i6 (t2_2.Last.N), sW t2_2.Last.Words, sB t2_2.Follow, bo (t2_2.Null)]))] [1, 2, 3] [3] ⟨[(1, .p (slV (eI .u8) a1)), (2, .p (i6 (a2))), (3, .ptr 3 0)], [(3, .box 28 [.p (sC t2_2.Classes), .p (i6 (t2_2.First.N)), .p (sW t2_2.First.Words), .p (i6 (t2_2.Last.N)), .p (sW t2_2.Last.Words), .p (sB t2_2.Follow), .p (bo (t2_2.Null))])], ⟨[], false⟩, []⟩ (And.intro ((riddleref11_may_ok h2_1)) (trivial)) (by kernel_rfl) ?_
  refine WX.seq ?_
  refine WX.seq ?_
  refine WC.via (α := Bool) (fun v3 => ⟨[(1, .p (slV (eI .u8) a1)), (2, .p (i6 (a2))), (3, .ptr 3 0), (19, .p (bo (v3)))], [(3, .box 28 [.p (sC t2_2.Classes), .p (i6 (t2_2.First.N)), .p (sW t2_2.First.Words), .p (i6 (t2_2.Last.N)), .p (sW t2_2.Last.Words), .p (sB t2_2.Follow), .p (bo (t2_2.Null))])], ⟨[], false⟩, []⟩) ((((decide (a2 < 0))) || ((decide (a2 > (a1.length : Int)))))) (fun hk => ?_) ?_
  · rcases Bool.eq_false_or_eq_true ((decide (a2 < 0))) with b3_2 | b3_2
    · exact WC.reg (n := 54) hn [(2, .val (.p (bo (true))))] [1, 2, 3, 19] [3] ⟨[(1, .p (slV (eI .u8) a1)), (2, .p (i6 (a2))), (3, .ptr 3 0), (19, .p (bo (true)))], [(3, .box 28 [.p (sC t2_2.Classes), .p (i6 (t2_2.First.N)), .p (sW t2_2.First.Words), .p (i6 (t2_2.Last.N)), .p (sW t2_2.Last.Words), .p (sB t2_2.Follow), .p (bo (t2_2.Null))])], ⟨[], false⟩, []⟩ (And.intro (Bl b3_2) (trivial)) (by kernel_rfl) (hk true (by first | (rw [b3_2]; rfl) | simp [b3_2]))
    · exact WC.reg (n := 54) hn [(2, .val (.p (bo (false))))] [1, 2, 3, 19] [3] ⟨[(1, .p (slV (eI .u8) a1)), (2, .p (i6 (a2))), (3, .ptr 3 0), (19, .p (bo (((decide (a2 > (a1.length : Int)))))))], [(3, .box 28 [.p (sC t2_2.Classes), .p (i6 (t2_2.First.N)), .p (sW t2_2.First.Words), .p (i6 (t2_2.Last.N)), .p (sW t2_2.Last.Words), .p (sB t2_2.Follow), .p (bo (t2_2.Null))])], ⟨[], false⟩, []⟩ (And.intro (Bl b3_2) (trivial)) (by kernel_rfl) (hk ((decide (a2 > (a1.length : Int)))) (by first | (rw [b3_2]; rfl) | simp [b3_2]))
  rcases if_or h with ⟨c4, h⟩ | ⟨c4, h⟩
  · refine WC.condT c4 (by kernel_rfl) ?_
    refine WX.seq ?_
    refine WC.reg (n := 54) hn [] [6] [] ⟨[(6, .p (.sl .nil 0 []))], [], ⟨[], false⟩, []⟩ trivial (by kernel_rfl) ?_
    refine WX.ret ?_
    refine WC.nil (n := 54) hn [6] none 25 3 1 (by kernel_rfl) [6] [25] (st' := ⟨[(6, .own 25)], [(25, rowV 3 (eI .i64) (([] : List Int)))], ⟨[], false⟩, []⟩) (by kernel_rfl) ?_
    exact WC.outO (by rw [← Option.some.inj h]; kernel_rfl)
  · refine WC.condF c4 (by kernel_rfl) ?_
    refine WX.skip ?_
    refine WX.seq ?_
    refine WC.reg (n := 54) hn [] [1, 2, 3, 7] [3] ⟨[(1, .p (slV (eI .u8) a1)), (2, .p (i6 (a2))), (3, .ptr 3 0), (7, .p (.sl .nil 0 []))], [(3, .box 28 [.p (sC t2_2.Classes), .p (i6 (t2_2.First.N)), .p (sW t2_2.First.Words), .p (i6 (t2_2.Last.N)), .p (sW t2_2.Last.Words), .p (sB t2_2.Follow), .p (bo (t2_2.Null))])], ⟨[], false⟩, []⟩ trivial (by kernel_rfl) ?_
    refine WX.seq ?_
    refine WX.seq ?_
    refine WC.reg (n := 54) hn [] [1, 2, 3, 7, 21] [3] ⟨[(1, .p (slV (eI .u8) a1)), (2, .p (i6 (a2))), (3, .ptr 3 0), (7, .p (.sl .nil 0 [])), (21, .p (bo (t2_2.Null)))], [(3, .box 28 [.p (sC t2_2.Classes), .p (i6 (t2_2.First.N)), .p (sW t2_2.First.Words), .p (i6 (t2_2.Last.N)), .p (sW t2_2.Last.Words), .p (sB t2_2.Follow), .p (bo (t2_2.Null))])], ⟨[], false⟩, []⟩ trivial (by kernel_rfl) ?_
    obtain ⟨J8, eJ8, h⟩ := jn_some h
    try dsimp only at h
    refine WC.join (α := List Int) (fun v8 => ⟨[(1, .p (slV (eI .u8) a1)), (2, .p (i6 (a2))), (3, .ptr 3 0), (7, .own 25)], [(3, .box 28 [.p (sC t2_2.Classes), .p (i6 (t2_2.First.N)), .p (sW t2_2.First.Words), .p (i6 (t2_2.Last.N)), .p (sW t2_2.Last.Words), .p (sB t2_2.Follow), .p (bo (t2_2.Null))]), (25, rowV 3 (eI .i64) v8)], ⟨[], false⟩, []⟩) (fun v8 => J8 v8 = some r) ?_ (fun hJ8 => ?_)
    · rintro y8_1 h
      rw [eJ8] at h
      try dsimp only at h
      refine WX.seq ?_
      obtain ⟨t11_2, h11_1, h⟩ := bind_some h
      refine WC.reg (n := 54) hn [(1, .co [] [] [] [(27, rowV 69 (eI .u64) t11_2.Words)] (.agg [.p (i6 (t11_2.N)), .own 27]))] [1, 2, 3, 7, 8] [3, 8, 25, 27] ⟨[(1, .p (slV (eI .u8) a1)), (2, .p (i6 (a2))), (3, .ptr 3 0), (7, .own 25), (8, .ptr 8 0)], [(3, .box 28 [.p (sC t2_2.Classes), .p (i6 (t2_2.First.N)), .p (sW t2_2.First.Words), .p (i6 (t2_2.Last.N)), .p (sW t2_2.Last.Words), .p (sB t2_2.Follow), .p (bo (t2_2.Null))]), (8, .box 25 [.p (i6 (t11_2.N)), .own 27]), (25, rowV 3 (eI .i64) y8_1), (27, rowV 69 (eI .u64) t11_2.Words)], ⟨[], false⟩, []⟩ (And.intro (And.intro ((riddleref11_None_ok h11_1).ren 7 27 (by kernel_rfl)) (trivial)) (trivial)) (by kernel_rfl) ?_
      refine WX.seq ?_
      refine WX.seq ?_
      refine WC.reg (n := 54) hn [] [1, 2, 3, 7, 8, 9] [3, 8, 25, 27] ⟨[(1, .p (slV (eI .u8) a1)), (2, .p (i6 (a2))), (3, .ptr 3 0), (7, .own 25), (8, .ptr 8 0), (9, .p (i6 (a2)))], [(3, .box 28 [.p (sC t2_2.Classes), .p (i6 (t2_2.First.N)), .p (sW t2_2.First.Words), .p (i6 (t2_2.Last.N)), .p (sW t2_2.Last.Words), .p (sB t2_2.Follow), .p (bo (t2_2.Null))]), (8, .box 25 [.p (i6 (t11_2.N)), .own 27]), (25, rowV 3 (eI .i64) y8_1), (27, rowV 69 (eI .u64) t11_2.Words)], ⟨[], false⟩, []⟩ trivial (by kernel_rfl) ?_
      obtain ⟨J13, eJ13, h⟩ := jn_some h
      try dsimp only at h
      refine WC.join (α := List Int) (fun v13 => ⟨[(7, .own 25)], [(25, rowV 3 (eI .i64) v13)], ⟨[], false⟩, []⟩) (fun v13 => J13 v13 = some r) ?_ (fun hJ13 => ?_)
      · rintro y13_1 h
        rw [eJ13] at h
        try dsimp only at h
        refine WX.seq ?_
        refine WC.reg (n := 54) hn [] [6] [25] ⟨[(6, .own 25)], [(25, rowV 3 (eI .i64) y13_1)], ⟨[], false⟩, []⟩ trivial (by kernel_rfl) ?_
        refine WX.ret ?_
        exact WC.outO (by rw [← Option.some.inj h]; kernel_rfl)
      · replace hJ13 := fun y13_1 => hJ13 y13_1
        refine WX.block ?_
        refine WC.frz 27 (st' := ⟨[(1, .p (slV (eI .u8) a1)), (2, .p (i6 (a2))), (3, .ptr 3 0), (7, .own 25), (8, .ptr 8 0), (9, .p (i6 (a2)))], [(3, .box 28 [.p (sC t2_2.Classes), .p (i6 (t2_2.First.N)), .p (sW t2_2.First.Words), .p (i6 (t2_2.Last.N)), .p (sW t2_2.Last.Words), .p (sB t2_2.Follow), .p (bo (t2_2.Null))]), (8, .box 25 [.p (i6 (t11_2.N)), .p (sW t11_2.Words)]), (25, rowV 3 (eI .i64) y8_1)], ⟨[], false⟩, []⟩) (by kernel_rfl) ?_
        refine WC.loop (V := List Int × Int × Int × List Int) (riddleref11_Ends_l0 a1 a2 t2_2 J13) r (fun v33 => ⟨[(1, .p (slV (eI .u8) a1)), (2, .p (i6 (a2))), (3, .ptr 3 0), (7, .own 25), (8, .ptr 8 0), (9, .p (i6 (v33.2.1)))], [(3, .box 28 [.p (sC t2_2.Classes), .p (i6 (t2_2.First.N)), .p (sW t2_2.First.Words), .p (i6 (t2_2.Last.N)), .p (sW t2_2.Last.Words), .p (sB t2_2.Follow), .p (bo (t2_2.Null))]), (8, .box 25 [.p (i6 (v33.2.2.1)), .p (sW v33.2.2.2)]), (25, rowV 3 (eI .i64) v33.1)], ⟨[], false⟩, []⟩) _ (y8_1, a2, t11_2.N, t11_2.Words) h (fun _ => rfl) [1, 2, 3, 7, 8, 9] [3, 8, 25] (by kernel_rfl) ?_
        clear h; rintro k ⟨x33_1_1, x33_1_2, x33_1_3, x33_1_4⟩ h K33 hnext33 hexit33
        rw [riddleref11_Ends_l0] at h
        refine WX.seq ?_
        refine WX.seq ?_
        refine WC.reg (n := 54) hn [] [1, 2, 3, 7, 8, 9, 32] [3, 8, 25] ⟨[(1, .p (slV (eI .u8) a1)), (2, .p (i6 (a2))), (3, .ptr 3 0), (7, .own 25), (8, .ptr 8 0), (9, .p (i6 (x33_1_2))), (32, .p (bo (((decide (x33_1_2 < (a1.length : Int)))))))], [(3, .box 28 [.p (sC t2_2.Classes), .p (i6 (t2_2.First.N)), .p (sW t2_2.First.Words), .p (i6 (t2_2.Last.N)), .p (sW t2_2.Last.Words), .p (sB t2_2.Follow), .p (bo (t2_2.Null))]), (8, .box 25 [.p (i6 (x33_1_3)), .p (sW x33_1_4)]), (25, rowV 3 (eI .i64) x33_1_1)], ⟨[], false⟩, []⟩ trivial (by kernel_rfl) ?_
        rcases if_or h with ⟨c52, h⟩ | ⟨c52, h⟩
        · refine WC.condT c52 (by kernel_rfl) ?_
          refine WX.skip ?_
          refine WX.seq ?_
          refine WX.block ?_
          refine WX.seq ?_
          obtain ⟨t53_2, h53_1, h⟩ := bind_some h
          obtain ⟨t53_4, h53_3, h⟩ := bind_some h
          refine WC.drw (n := 54) hn [(10, [])] [] [(7, .val (.p (.rop ((eI .u8).cells t53_2 ++ encL (eI .u8) (a1.drop (x33_1_2.toNat + 1)))))), (9, .resP (.agg [i6 (t53_4.N), sW t53_4.Words]))] [1, 2, 3, 7, 8, 9] [3, 8, 25] ⟨[(1, .p (slV (eI .u8) a1)), (2, .p (i6 (a2))), (3, .ptr 3 0), (7, .own 25), (8, .ptr 8 0), (9, .p (i6 (x33_1_2)))], [(3, .box 28 [.p (sC t2_2.Classes), .p (i6 (t2_2.First.N)), .p (sW t2_2.First.Words), .p (i6 (t2_2.Last.N)), .p (sW t2_2.Last.Words), .p (sB t2_2.Follow), .p (bo (t2_2.Null))]), (8, .box 25 [.p (i6 (t53_4.N)), .p (sW t53_4.Words)]), (25, rowV 3 (eI .i64) x33_1_1)], ⟨[], false⟩, []⟩ (And.intro (Ix (eI .u8) h53_1) (And.intro ((riddleref11_Next_okP h53_3)) (trivial))) (by kernel_rfl) (by kernel_rfl) (by kernel_rfl) (by kernel_rfl) ?_
          refine WX.seq ?_
          obtain ⟨t54_2, h54_1, h⟩ := bind_some h
          refine WC.reg (n := 54) hn [(2, .resP (bo (t54_2)))] [1, 2, 3, 7, 8, 9, 47] [3, 8, 25] ⟨[(1, .p (slV (eI .u8) a1)), (2, .p (i6 (a2))), (3, .ptr 3 0), (7, .own 25), (8, .ptr 8 0), (9, .p (i6 (x33_1_2))), (47, .p (bo (t54_2)))], [(3, .box 28 [.p (sC t2_2.Classes), .p (i6 (t2_2.First.N)), .p (sW t2_2.First.Words), .p (i6 (t2_2.Last.N)), .p (sW t2_2.Last.Words), .p (sB t2_2.Follow), .p (bo (t2_2.Null))]), (8, .box 25 [.p (i6 (t53_4.N)), .p (sW t53_4.Words)]), (25, rowV 3 (eI .i64) x33_1_1)], ⟨[], false⟩, []⟩ (And.intro ((riddleref11_Accepts_ok h54_1)) (trivial)) (by kernel_rfl) ?_
          rcases if_or h with ⟨c55, h⟩ | ⟨c55, h⟩
          · refine WC.condT c55 (by kernel_rfl) ?_
            obtain ⟨c56_1, h⟩ := if_some h
            refine WC.reg (n := 54) hn [(4, .app (some 25) (rowV 3 (eI .i64) (x33_1_1 ++ ([(IntKind.i64.wrap (x33_1_2 + 1))]))))] [1, 2, 3, 7, 8, 9] [3, 8, 52] ⟨[(1, .p (slV (eI .u8) a1)), (2, .p (i6 (a2))), (3, .ptr 3 0), (7, .own 52), (8, .ptr 8 0), (9, .p (i6 (x33_1_2)))], [(3, .box 28 [.p (sC t2_2.Classes), .p (i6 (t2_2.First.N)), .p (sW t2_2.First.Words), .p (i6 (t2_2.Last.N)), .p (sW t2_2.Last.Words), .p (sB t2_2.Follow), .p (bo (t2_2.Null))]), (8, .box 25 [.p (i6 (t53_4.N)), .p (sW t53_4.Words)]), (52, rowV 3 (eI .i64) (x33_1_1 ++ ([(IntKind.i64.wrap (x33_1_2 + 1))])))], ⟨[], false⟩, []⟩ (And.intro (Ap (eI .i64) (some 25) 3 8 1 x33_1_1 ([(IntKind.i64.wrap (x33_1_2 + 1))]) c56_1) (trivial)) (by kernel_rfl) ?_
            refine WX.popBlk ?_
            refine WC.reg (n := 54) hn [] [1, 2, 3, 7, 8, 9] [3, 8, 52] ⟨[(1, .p (slV (eI .u8) a1)), (2, .p (i6 (a2))), (3, .ptr 3 0), (7, .own 52), (8, .ptr 8 0), (9, .p (i6 (((IntKind.i64.wrap (x33_1_2 + 1))))))], [(3, .box 28 [.p (sC t2_2.Classes), .p (i6 (t2_2.First.N)), .p (sW t2_2.First.Words), .p (i6 (t2_2.Last.N)), .p (sW t2_2.Last.Words), .p (sB t2_2.Follow), .p (bo (t2_2.Null))]), (8, .box 25 [.p (i6 (t53_4.N)), .p (sW t53_4.Words)]), (52, rowV 3 (eI .i64) (x33_1_1 ++ ([(IntKind.i64.wrap (x33_1_2 + 1))])))], ⟨[], false⟩, []⟩ trivial (by kernel_rfl) ?_
            refine WC.ren (n := 54) hn 52 25 (by kernel_rfl) [1, 2, 3, 7, 8, 9] [3, 8, 25] (st' := ⟨[(1, .p (slV (eI .u8) a1)), (2, .p (i6 (a2))), (3, .ptr 3 0), (7, .own 25), (8, .ptr 8 0), (9, .p (i6 (((IntKind.i64.wrap (x33_1_2 + 1))))))], [(3, .box 28 [.p (sC t2_2.Classes), .p (i6 (t2_2.First.N)), .p (sW t2_2.First.Words), .p (i6 (t2_2.Last.N)), .p (sW t2_2.Last.Words), .p (sB t2_2.Follow), .p (bo (t2_2.Null))]), (8, .box 25 [.p (i6 (t53_4.N)), .p (sW t53_4.Words)]), (25, rowV 3 (eI .i64) (x33_1_1 ++ ([(IntKind.i64.wrap (x33_1_2 + 1))])))], ⟨[], false⟩, []⟩) (by kernel_rfl) ?_
            exact WC.next [1, 2, 3, 7, 8, 9] [3, 8, 25] (by kernel_rfl) (hnext33 (x33_1_1 ++ ([(IntKind.i64.wrap (x33_1_2 + 1))]), (IntKind.i64.wrap (x33_1_2 + 1)), t53_4.N, t53_4.Words) h)
          · refine WC.condF c55 (by kernel_rfl) ?_
            refine WX.skip ?_
            refine WX.popBlk ?_
            refine WC.reg (n := 54) hn [] [1, 2, 3, 7, 8, 9] [3, 8, 25] ⟨[(1, .p (slV (eI .u8) a1)), (2, .p (i6 (a2))), (3, .ptr 3 0), (7, .own 25), (8, .ptr 8 0), (9, .p (i6 (((IntKind.i64.wrap (x33_1_2 + 1))))))], [(3, .box 28 [.p (sC t2_2.Classes), .p (i6 (t2_2.First.N)), .p (sW t2_2.First.Words), .p (i6 (t2_2.Last.N)), .p (sW t2_2.Last.Words), .p (sB t2_2.Follow), .p (bo (t2_2.Null))]), (8, .box 25 [.p (i6 (t53_4.N)), .p (sW t53_4.Words)]), (25, rowV 3 (eI .i64) x33_1_1)], ⟨[], false⟩, []⟩ trivial (by kernel_rfl) ?_
            exact WC.next [1, 2, 3, 7, 8, 9] [3, 8, 25] (by kernel_rfl) (hnext33 (x33_1_1, (IntKind.i64.wrap (x33_1_2 + 1)), t53_4.N, t53_4.Words) h)
        · refine WC.condF c52 (by kernel_rfl) ?_
          refine WX.exit ?_
          refine WX.popCodeExit ?_
          refine WC.exit_nil (hexit33 _ _ (by simp) ?_)
          refine WX.popBlkHit ?_
          exact WC.keep [7] [25] (by kernel_rfl) (hJ13 x33_1_1 h)
    · replace hJ8 := fun y8_1 => hJ8 y8_1
      rcases if_or h with ⟨c59, h⟩ | ⟨c59, h⟩
      · refine WC.condT c59 (by kernel_rfl) ?_
        obtain ⟨c60_1, h⟩ := if_some h
        refine WC.reg (n := 54) hn [(3, .app none (rowV 3 (eI .i64) (([] : List Int) ++ ([a2]))))] [1, 2, 3, 7] [3, 25] ⟨[(1, .p (slV (eI .u8) a1)), (2, .p (i6 (a2))), (3, .ptr 3 0), (7, .own 25)], [(3, .box 28 [.p (sC t2_2.Classes), .p (i6 (t2_2.First.N)), .p (sW t2_2.First.Words), .p (i6 (t2_2.Last.N)), .p (sW t2_2.Last.Words), .p (sB t2_2.Follow), .p (bo (t2_2.Null))]), (25, rowV 3 (eI .i64) (([] : List Int) ++ ([a2])))], ⟨[], false⟩, []⟩ (And.intro (Ap (eI .i64) none 3 8 1 ([] : List Int) ([a2]) c60_1) (trivial)) (by kernel_rfl) ?_
        exact WC.keep [1, 2, 3, 7] [3, 25] (by kernel_rfl) (hJ8 (([] : List Int) ++ ([a2])) h)
      · refine WC.condF c59 (by kernel_rfl) ?_
        refine WX.skip ?_
        refine WC.keep [1, 2, 3, 7] [3] (st' := ⟨[(1, .p (slV (eI .u8) a1)), (2, .p (i6 (a2))), (3, .ptr 3 0), (7, .p (.sl .nil 0 []))], [(3, .box 28 [.p (sC t2_2.Classes), .p (i6 (t2_2.First.N)), .p (sW t2_2.First.Words), .p (i6 (t2_2.Last.N)), .p (sW t2_2.Last.Words), .p (sB t2_2.Follow), .p (bo (t2_2.Null))])], ⟨[], false⟩, []⟩) (by kernel_rfl) ?_
        refine WC.nil (n := 54) hn [7] none 25 3 1 (by kernel_rfl) [1, 2, 3, 7] [3, 25] (st' := ⟨[(1, .p (slV (eI .u8) a1)), (2, .p (i6 (a2))), (3, .ptr 3 0), (7, .own 25)], [(3, .box 28 [.p (sC t2_2.Classes), .p (i6 (t2_2.First.N)), .p (sW t2_2.First.Words), .p (i6 (t2_2.Last.N)), .p (sW t2_2.Last.Words), .p (sB t2_2.Follow), .p (bo (t2_2.Null))]), (25, rowV 3 (eI .i64) (([] : List Int)))], ⟨[], false⟩, []⟩) (by kernel_rfl) ?_
        exact WC.keep [1, 2, 3, 7] [3, 25] (by kernel_rfl) (hJ8 (([] : List Int)) h)
theorem riddleref11_Ends_okP {k : Nat} {a0 : api_Nfa} {a1 : (List Int)} {a2 : Int} {r : (List Int)} (h : riddleref11_Ends k a0 a1 a2 = some r) : Ans Tryd.prog 12 [.agg [sC a0.Classes, i6 (a0.First.N), sW a0.First.Words, i6 (a0.Last.N), sW a0.Last.Words, sB a0.Follow, bo (a0.Null)], slV (eI .u8) a1, i6 (a2)] (slV (eI .i64) r) := AnsO.ans (args := [.agg [sC a0.Classes, i6 (a0.First.N), sW a0.First.Words, i6 (a0.Last.N), sW a0.Last.Words, sB a0.Follow, bo (a0.Null)], slV (eI .u8) a1, i6 (a2)]) (riddleref11_Ends_ok h) (by kernel_rfl)
def riddleref11_begins (a0 : (List Int)) (a1 : Int) (a2 : Bool) (a3 : Bool) : Option (Bool) :=
  ((if (!a2) = true then some true else (if (a1 == 0) = true then some true else (if a3 = true then (at_ a0 ((IntKind.i64.wrap (a1 - 1)))).bind fun t2_2 => some ((t2_2 == 10)) else some false))) : Option (Bool)).bind fun v2 => some v2
theorem riddleref11_begins_ok {a0 : (List Int)} {a1 : Int} {a2 : Bool} {a3 : Bool} {r : Bool} (h : riddleref11_begins a0 a1 a2 a3 = some r) : Ans Tryd.prog 38 [slV (eI .u8) a0, i6 (a1), bo (a2), bo (a3)] (bo (r)) := by
  refine W_fn Tryd.func38 rfl (by kernel_rfl) (by kernel_rfl) ?_
  intro X hro hn
  unfold riddleref11_begins at h
  refine WX.seq ?_
  refine WC.reg (n := 26) hn [] [0, 1, 2, 3] [] ⟨[(0, .p (slV (eI .u8) a0)), (1, .p (i6 (a1))), (2, .p (bo (a2))), (3, .p (bo (a3)))], [], ⟨[], false⟩, []⟩ trivial (by kernel_rfl) ?_
  refine WX.seq ?_
  obtain ⟨m2_1, g2, h⟩ := bind_some h
  refine WC.via (α := Bool) (fun v2 => ⟨[(8, .p (bo (v2)))], [], ⟨[], false⟩, []⟩) m2_1 (fun hk => ?_) ?_
  · rcases if_or g2 with ⟨b2_2, g2⟩ | ⟨b2_2, g2⟩
    · exact WC.reg (n := 26) hn [(2, .val (.p (bo (true))))] [8] [] ⟨[(8, .p (bo (true)))], [], ⟨[], false⟩, []⟩ (And.intro (Bl b2_2) (trivial)) (by kernel_rfl) (hk true (Option.some.inj g2))
    · rcases if_or g2 with ⟨b2_6, g2⟩ | ⟨b2_6, g2⟩
      · exact WC.reg (n := 26) hn [(2, .val (.p (bo (false)))), (6, .val (.p (bo (true))))] [8] [] ⟨[(8, .p (bo (true)))], [], ⟨[], false⟩, []⟩ (And.intro (Bl b2_2) (And.intro (Bl b2_6) (trivial))) (by kernel_rfl) (hk true (Option.some.inj g2))
      · rcases if_or g2 with ⟨b2_8, g2⟩ | ⟨b2_8, g2⟩
        · obtain ⟨t2_2, h2_1, g2⟩ := bind_some g2
          exact WC.reg (n := 26) hn [(2, .val (.p (bo (false)))), (6, .val (.p (bo (false)))), (8, .val (.p (bo (true)))), (12, .val (.p (.rop ((eI .u8).cells t2_2 ++ encL (eI .u8) (a0.drop (((IntKind.i64.wrap (a1 - 1))).toNat + 1))))))] [8] [] ⟨[(8, .p (bo (((t2_2 == 10)))))], [], ⟨[], false⟩, []⟩ (And.intro (Bl b2_2) (And.intro (Bl b2_6) (And.intro (Bl b2_8) (And.intro (Ix (eI .u8) h2_1) (trivial))))) (by kernel_rfl) (hk ((t2_2 == 10)) (Option.some.inj g2))
        · exact WC.reg (n := 26) hn [(2, .val (.p (bo (false)))), (6, .val (.p (bo (false)))), (8, .val (.p (bo (false))))] [8] [] ⟨[(8, .p (bo (false)))], [], ⟨[], false⟩, []⟩ (And.intro (Bl b2_2) (And.intro (Bl b2_6) (And.intro (Bl b2_8) (trivial)))) (by kernel_rfl) (hk false (Option.some.inj g2))
  refine WX.ret ?_
  exact WC.outP (by rw [← Option.some.inj h]; kernel_rfl)
def riddleref11_Events_l0 (a1 : (List Int)) (a2 : Bool) (a3 : Bool) (t2_2 : api_Nfa) (J6 : List Int → Option ((List Int))) : Nat → (List Int × Int × Int × List Int) → Option ((List Int))
  | 0, _ => none
  | k + 1, (x26_1_1, x26_1_2, x26_1_3, x26_1_4) => (if (decide (x26_1_2 < (a1.length : Int))) = true then (riddleref11_begins a1 x26_1_2 a2 a3).bind fun t46_2 => (at_ a1 x26_1_2).bind fun t46_4 => (riddleref11_Next k t2_2 ((api_Bits.mk x26_1_3 x26_1_4)) t46_2 t46_4).bind fun t46_6 => (riddleref11_Accepts k t2_2 t46_6).bind fun t47_2 => (if t47_2 = true then (if okApp 8 (x26_1_1.length + ([(IntKind.i64.wrap (x26_1_2 + 1))]).length) then riddleref11_Events_l0 a1 a2 a3 t2_2 J6 k (x26_1_1 ++ ([(IntKind.i64.wrap (x26_1_2 + 1))]), (IntKind.i64.wrap (x26_1_2 + 1)), t46_6.N, t46_6.Words) else none) else riddleref11_Events_l0 a1 a2 a3 t2_2 J6 k (x26_1_1, (IntKind.i64.wrap (x26_1_2 + 1)), t46_6.N, t46_6.Words)) else J6 x26_1_1)
def riddleref11_Events (k : Nat) (a0 : api_Nfa) (a1 : (List Int)) (a2 : Bool) (a3 : Bool) : Option ((List Int)) :=
  (riddleref11_may k a0).bind fun t2_2 => (riddleref11_None k t2_2).bind fun t4_2 => jn (fun (v6 : List Int) => some v6) fun J6 => riddleref11_Events_l0 a1 a2 a3 t2_2 J6 k (([] : List Int), 0, t4_2.N, t4_2.Words)
theorem riddleref11_Events_ok {k : Nat} {a0 : api_Nfa} {a1 : (List Int)} {a2 : Bool} {a3 : Bool} {r : (List Int)} (h : riddleref11_Events k a0 a1 a2 a3 = some r) : AnsO Tryd.prog 14 [] [.p (.agg [sC a0.Classes, i6 (a0.First.N), sW a0.First.Words, i6 (a0.Last.N), sW a0.Last.Words, sB a0.Follow, bo (a0.Null)]), .p (slV (eI .u8) a1), .p (bo (a2)), .p (bo (a3))] [(41, rowV 3 (eI .i64) r)] (.own 41) := by
  refine W_fnO [41] Tryd.func14 rfl (by kernel_rfl) (by kernel_rfl) (by kernel_rfl) (by kernel_rfl) ?_
  intro X hro hn
  unfold riddleref11_Events at h
  refine WX.seq ?_
  refine WC.reg (n := 43) hn [] [1, 2, 3, 4] [4] ⟨[(1, .p (slV (eI .u8) a1)), (2, .p (bo (a2))), (3, .p (bo (a3))), (4, .ptr 4 0)], [(4, .box 28 [.p (sC a0.Classes), .p (i6 (a0.First.N)), .p (sW a0.First.Words), .p (i6 (a0.Last.N)), .p (sW a0.Last.Words), .p (sB a0.Follow), .p (bo (a0.Null))])], ⟨[], false⟩, []⟩ trivial (by kernel_rfl) ?_
  refine WX.seq ?_
  obtain ⟨t2_2, h2_1, h⟩ := bind_some h
  refine WC.reg (n := 43) hn [(1, .resP (.agg [sC t2_2.Classes, i6 (t2_2.First.N), sW t2_2.First.Words, i6 (t2_2.Last.N), sW t2_2.Last.Words, sB t2_2.Follow, bo (t2_2.Null)]))] [1, 2, 3, 4] [4] ⟨[(1, .p (slV (eI .u8) a1)), (2, .p (bo (a2))), (3, .p (bo (a3))), (4, .ptr 4 0)], [(4, .box 28 [.p (sC t2_2.Classes), .p (i6 (t2_2.First.N)), .p (sW t2_2.First.Words), .p (i6 (t2_2.Last.N)), .p (sW t2_2.Last.Words), .p (sB t2_2.Follow), .p (bo (t2_2.Null))])], ⟨[], false⟩, []⟩ (And.intro ((riddleref11_may_ok h2_1)) (trivial)) (by kernel_rfl) ?_
  refine WX.seq ?_
  refine WC.reg (n := 43) hn [] [1, 2, 3, 4, 9] [4] ⟨[(1, .p (slV (eI .u8) a1)), (2, .p (bo (a2))), (3, .p (bo (a3))), (4, .ptr 4 0), (9, .p (.sl .nil 0 []))], [(4, .box 28 [.p (sC t2_2.Classes), .p (i6 (t2_2.First.N)), .p (sW t2_2.First.Words), .p (i6 (t2_2.Last.N)), .p (sW t2_2.Last.Words), .p (sB t2_2.Follow), .p (bo (t2_2.Null))])], ⟨[], false⟩, []⟩ trivial (by kernel_rfl) ?_
  refine WX.seq ?_
  obtain ⟨t4_2, h4_1, h⟩ := bind_some h
  refine WC.reg (n := 43) hn [(1, .co [] [] [] [(15, rowV 69 (eI .u64) t4_2.Words)] (.agg [.p (i6 (t4_2.N)), .own 15]))] [1, 2, 3, 4, 9, 10] [4, 10, 15] ⟨[(1, .p (slV (eI .u8) a1)), (2, .p (bo (a2))), (3, .p (bo (a3))), (4, .ptr 4 0), (9, .p (.sl .nil 0 [])), (10, .ptr 10 0)], [(4, .box 28 [.p (sC t2_2.Classes), .p (i6 (t2_2.First.N)), .p (sW t2_2.First.Words), .p (i6 (t2_2.Last.N)), .p (sW t2_2.Last.Words), .p (sB t2_2.Follow), .p (bo (t2_2.Null))]), (10, .box 25 [.p (i6 (t4_2.N)), .own 15]), (15, rowV 69 (eI .u64) t4_2.Words)], ⟨[], false⟩, []⟩ (And.intro (And.intro ((riddleref11_None_ok h4_1).ren 7 15 (by kernel_rfl)) (trivial)) (trivial)) (by kernel_rfl) ?_
  refine WX.seq ?_
  refine WX.seq ?_
  refine WC.reg (n := 43) hn [] [1, 2, 3, 4, 9, 10, 11] [4, 10, 15] ⟨[(1, .p (slV (eI .u8) a1)), (2, .p (bo (a2))), (3, .p (bo (a3))), (4, .ptr 4 0), (9, .p (.sl .nil 0 [])), (10, .ptr 10 0), (11, .p (i6 (0)))], [(4, .box 28 [.p (sC t2_2.Classes), .p (i6 (t2_2.First.N)), .p (sW t2_2.First.Words), .p (i6 (t2_2.Last.N)), .p (sW t2_2.Last.Words), .p (sB t2_2.Follow), .p (bo (t2_2.Null))]), (10, .box 25 [.p (i6 (t4_2.N)), .own 15]), (15, rowV 69 (eI .u64) t4_2.Words)], ⟨[], false⟩, []⟩ trivial (by kernel_rfl) ?_
  obtain ⟨J6, eJ6, h⟩ := jn_some h
  try dsimp only at h
  refine WC.join (α := List Int) (fun v6 => ⟨[(9, .own 41)], [(41, rowV 3 (eI .i64) v6)], ⟨[], false⟩, []⟩) (fun v6 => J6 v6 = some r) ?_ (fun hJ6 => ?_)
  · rintro y6_1 h
    rw [eJ6] at h
    try dsimp only at h
    refine WX.seq ?_
    refine WC.reg (n := 43) hn [] [8] [41] ⟨[(8, .own 41)], [(41, rowV 3 (eI .i64) y6_1)], ⟨[], false⟩, []⟩ trivial (by kernel_rfl) ?_
    refine WX.ret ?_
    exact WC.outO (by rw [← Option.some.inj h]; kernel_rfl)
  · replace hJ6 := fun y6_1 => hJ6 y6_1
    refine WX.block ?_
    refine WC.nil (n := 43) hn [9] none 41 3 1 (by kernel_rfl) [1, 2, 3, 4, 9, 10, 11] [4, 10, 15, 41] (st' := ⟨[(1, .p (slV (eI .u8) a1)), (2, .p (bo (a2))), (3, .p (bo (a3))), (4, .ptr 4 0), (9, .own 41), (10, .ptr 10 0), (11, .p (i6 (0)))], [(4, .box 28 [.p (sC t2_2.Classes), .p (i6 (t2_2.First.N)), .p (sW t2_2.First.Words), .p (i6 (t2_2.Last.N)), .p (sW t2_2.Last.Words), .p (sB t2_2.Follow), .p (bo (t2_2.Null))]), (10, .box 25 [.p (i6 (t4_2.N)), .own 15]), (15, rowV 69 (eI .u64) t4_2.Words), (41, rowV 3 (eI .i64) (([] : List Int)))], ⟨[], false⟩, []⟩) (by kernel_rfl) ?_
    refine WC.frz 15 (st' := ⟨[(1, .p (slV (eI .u8) a1)), (2, .p (bo (a2))), (3, .p (bo (a3))), (4, .ptr 4 0), (9, .own 41), (10, .ptr 10 0), (11, .p (i6 (0)))], [(4, .box 28 [.p (sC t2_2.Classes), .p (i6 (t2_2.First.N)), .p (sW t2_2.First.Words), .p (i6 (t2_2.Last.N)), .p (sW t2_2.Last.Words), .p (sB t2_2.Follow), .p (bo (t2_2.Null))]), (10, .box 25 [.p (i6 (t4_2.N)), .p (sW t4_2.Words)]), (41, rowV 3 (eI .i64) (([] : List Int)))], ⟨[], false⟩, []⟩) (by kernel_rfl) ?_
    refine WC.loop (V := List Int × Int × Int × List Int) (riddleref11_Events_l0 a1 a2 a3 t2_2 J6) r (fun v26 => ⟨[(1, .p (slV (eI .u8) a1)), (2, .p (bo (a2))), (3, .p (bo (a3))), (4, .ptr 4 0), (9, .own 41), (10, .ptr 10 0), (11, .p (i6 (v26.2.1)))], [(4, .box 28 [.p (sC t2_2.Classes), .p (i6 (t2_2.First.N)), .p (sW t2_2.First.Words), .p (i6 (t2_2.Last.N)), .p (sW t2_2.Last.Words), .p (sB t2_2.Follow), .p (bo (t2_2.Null))]), (10, .box 25 [.p (i6 (v26.2.2.1)), .p (sW v26.2.2.2)]), (41, rowV 3 (eI .i64) v26.1)], ⟨[], false⟩, []⟩) _ (([] : List Int), 0, t4_2.N, t4_2.Words) h (fun _ => rfl) [1, 2, 3, 4, 9, 10, 11] [4, 10, 41] (by kernel_rfl) ?_
    clear h; rintro k ⟨x26_1_1, x26_1_2, x26_1_3, x26_1_4⟩ h K26 hnext26 hexit26
    rw [riddleref11_Events_l0] at h
    refine WX.seq ?_
    refine WX.seq ?_
    refine WC.reg (n := 43) hn [] [1, 2, 3, 4, 9, 10, 11, 19] [4, 10, 41] ⟨[(1, .p (slV (eI .u8) a1)), (2, .p (bo (a2))), (3, .p (bo (a3))), (4, .ptr 4 0), (9, .own 41), (10, .ptr 10 0), (11, .p (i6 (x26_1_2))), (19, .p (bo (((decide (x26_1_2 < (a1.length : Int)))))))], [(4, .box 28 [.p (sC t2_2.Classes), .p (i6 (t2_2.First.N)), .p (sW t2_2.First.Words), .p (i6 (t2_2.Last.N)), .p (sW t2_2.Last.Words), .p (sB t2_2.Follow), .p (bo (t2_2.Null))]), (10, .box 25 [.p (i6 (x26_1_3)), .p (sW x26_1_4)]), (41, rowV 3 (eI .i64) x26_1_1)], ⟨[], false⟩, []⟩ trivial (by kernel_rfl) ?_
    rcases if_or h with ⟨c45, h⟩ | ⟨c45, h⟩
    · refine WC.condT c45 (by kernel_rfl) ?_
      refine WX.skip ?_
      refine WX.seq ?_
      refine WX.block ?_
      refine WX.seq ?_
      obtain ⟨t46_2, h46_1, h⟩ := bind_some h
      obtain ⟨t46_4, h46_3, h⟩ := bind_some h
      obtain ⟨t46_6, h46_5, h⟩ := bind_some h
      refine WC.drw (n := 43) hn [(12, [])] [] [(6, .resP (bo (t46_2))), (9, .val (.p (.rop ((eI .u8).cells t46_4 ++ encL (eI .u8) (a1.drop (x26_1_2.toNat + 1)))))), (11, .resP (.agg [i6 (t46_6.N), sW t46_6.Words]))] [1, 2, 3, 4, 9, 10, 11] [4, 10, 41] ⟨[(1, .p (slV (eI .u8) a1)), (2, .p (bo (a2))), (3, .p (bo (a3))), (4, .ptr 4 0), (9, .own 41), (10, .ptr 10 0), (11, .p (i6 (x26_1_2)))], [(4, .box 28 [.p (sC t2_2.Classes), .p (i6 (t2_2.First.N)), .p (sW t2_2.First.Words), .p (i6 (t2_2.Last.N)), .p (sW t2_2.Last.Words), .p (sB t2_2.Follow), .p (bo (t2_2.Null))]), (10, .box 25 [.p (i6 (t46_6.N)), .p (sW t46_6.Words)]), (41, rowV 3 (eI .i64) x26_1_1)], ⟨[], false⟩, []⟩ (And.intro ((riddleref11_begins_ok h46_1)) (And.intro (Ix (eI .u8) h46_3) (And.intro ((riddleref11_Next_okP h46_5)) (trivial)))) (by kernel_rfl) (by kernel_rfl) (by kernel_rfl) (by kernel_rfl) ?_
      refine WX.seq ?_
      obtain ⟨t47_2, h47_1, h⟩ := bind_some h
      refine WC.reg (n := 43) hn [(2, .resP (bo (t47_2)))] [1, 2, 3, 4, 9, 10, 11, 36] [4, 10, 41] ⟨[(1, .p (slV (eI .u8) a1)), (2, .p (bo (a2))), (3, .p (bo (a3))), (4, .ptr 4 0), (9, .own 41), (10, .ptr 10 0), (11, .p (i6 (x26_1_2))), (36, .p (bo (t47_2)))], [(4, .box 28 [.p (sC t2_2.Classes), .p (i6 (t2_2.First.N)), .p (sW t2_2.First.Words), .p (i6 (t2_2.Last.N)), .p (sW t2_2.Last.Words), .p (sB t2_2.Follow), .p (bo (t2_2.Null))]), (10, .box 25 [.p (i6 (t46_6.N)), .p (sW t46_6.Words)]), (41, rowV 3 (eI .i64) x26_1_1)], ⟨[], false⟩, []⟩ (And.intro ((riddleref11_Accepts_ok h47_1)) (trivial)) (by kernel_rfl) ?_
      rcases if_or h with ⟨c48, h⟩ | ⟨c48, h⟩
      · refine WC.condT c48 (by kernel_rfl) ?_
        obtain ⟨c49_1, h⟩ := if_some h
        refine WC.reg (n := 43) hn [(4, .app (some 41) (rowV 3 (eI .i64) (x26_1_1 ++ ([(IntKind.i64.wrap (x26_1_2 + 1))]))))] [1, 2, 3, 4, 9, 10, 11] [4, 10, 41] ⟨[(1, .p (slV (eI .u8) a1)), (2, .p (bo (a2))), (3, .p (bo (a3))), (4, .ptr 4 0), (9, .own 41), (10, .ptr 10 0), (11, .p (i6 (x26_1_2)))], [(4, .box 28 [.p (sC t2_2.Classes), .p (i6 (t2_2.First.N)), .p (sW t2_2.First.Words), .p (i6 (t2_2.Last.N)), .p (sW t2_2.Last.Words), .p (sB t2_2.Follow), .p (bo (t2_2.Null))]), (10, .box 25 [.p (i6 (t46_6.N)), .p (sW t46_6.Words)]), (41, rowV 3 (eI .i64) (x26_1_1 ++ ([(IntKind.i64.wrap (x26_1_2 + 1))])))], ⟨[], false⟩, []⟩ (And.intro (Ap (eI .i64) (some 41) 3 8 1 x26_1_1 ([(IntKind.i64.wrap (x26_1_2 + 1))]) c49_1) (trivial)) (by kernel_rfl) ?_
        refine WX.popBlk ?_
        refine WC.reg (n := 43) hn [] [1, 2, 3, 4, 9, 10, 11] [4, 10, 41] ⟨[(1, .p (slV (eI .u8) a1)), (2, .p (bo (a2))), (3, .p (bo (a3))), (4, .ptr 4 0), (9, .own 41), (10, .ptr 10 0), (11, .p (i6 (((IntKind.i64.wrap (x26_1_2 + 1))))))], [(4, .box 28 [.p (sC t2_2.Classes), .p (i6 (t2_2.First.N)), .p (sW t2_2.First.Words), .p (i6 (t2_2.Last.N)), .p (sW t2_2.Last.Words), .p (sB t2_2.Follow), .p (bo (t2_2.Null))]), (10, .box 25 [.p (i6 (t46_6.N)), .p (sW t46_6.Words)]), (41, rowV 3 (eI .i64) (x26_1_1 ++ ([(IntKind.i64.wrap (x26_1_2 + 1))])))], ⟨[], false⟩, []⟩ trivial (by kernel_rfl) ?_
        exact WC.next [1, 2, 3, 4, 9, 10, 11] [4, 10, 41] (by kernel_rfl) (hnext26 (x26_1_1 ++ ([(IntKind.i64.wrap (x26_1_2 + 1))]), (IntKind.i64.wrap (x26_1_2 + 1)), t46_6.N, t46_6.Words) h)
      · refine WC.condF c48 (by kernel_rfl) ?_
        refine WX.skip ?_
        refine WX.popBlk ?_
        refine WC.reg (n := 43) hn [] [1, 2, 3, 4, 9, 10, 11] [4, 10, 41] ⟨[(1, .p (slV (eI .u8) a1)), (2, .p (bo (a2))), (3, .p (bo (a3))), (4, .ptr 4 0), (9, .own 41), (10, .ptr 10 0), (11, .p (i6 (((IntKind.i64.wrap (x26_1_2 + 1))))))], [(4, .box 28 [.p (sC t2_2.Classes), .p (i6 (t2_2.First.N)), .p (sW t2_2.First.Words), .p (i6 (t2_2.Last.N)), .p (sW t2_2.Last.Words), .p (sB t2_2.Follow), .p (bo (t2_2.Null))]), (10, .box 25 [.p (i6 (t46_6.N)), .p (sW t46_6.Words)]), (41, rowV 3 (eI .i64) x26_1_1)], ⟨[], false⟩, []⟩ trivial (by kernel_rfl) ?_
        exact WC.next [1, 2, 3, 4, 9, 10, 11] [4, 10, 41] (by kernel_rfl) (hnext26 (x26_1_1, (IntKind.i64.wrap (x26_1_2 + 1)), t46_6.N, t46_6.Words) h)
    · refine WC.condF c45 (by kernel_rfl) ?_
      refine WX.exit ?_
      refine WX.popCodeExit ?_
      refine WC.exit_nil (hexit26 _ _ (by simp) ?_)
      refine WX.popBlkHit ?_
      exact WC.keep [9] [41] (by kernel_rfl) (hJ6 x26_1_1 h)
theorem riddleref11_Events_okP {k : Nat} {a0 : api_Nfa} {a1 : (List Int)} {a2 : Bool} {a3 : Bool} {r : (List Int)} (h : riddleref11_Events k a0 a1 a2 a3 = some r) : Ans Tryd.prog 14 [.agg [sC a0.Classes, i6 (a0.First.N), sW a0.First.Words, i6 (a0.Last.N), sW a0.Last.Words, sB a0.Follow, bo (a0.Null)], slV (eI .u8) a1, bo (a2), bo (a3)] (slV (eI .i64) r) := AnsO.ans (args := [.agg [sC a0.Classes, i6 (a0.First.N), sW a0.First.Words, i6 (a0.Last.N), sW a0.Last.Words, sB a0.Follow, bo (a0.Null)], slV (eI .u8) a1, bo (a2), bo (a3)]) (riddleref11_Events_ok h) (by kernel_rfl)
def riddlelaw11_NfaTells (k : Nat) (a0 : riddlelaw11_Case) : Option (Bool) :=
  (riddlelaw11_live k).bind fun t2_2 => (if (!t2_2) = true then some false else (riddlelaw11_short a0.W).bind fun t5_2 => (riddlelaw11_ends k a0.Nfa t5_2 a0.From).bind fun t6_2 => (riddleref11_Ends k a0.Nfa t5_2 a0.From).bind fun t6_4 => (slices_Equal_int_int k t6_2 t6_4).bind fun t6_6 => ((if t6_6 = true then (riddlelaw11_events k a0.Nfa t5_2 a0.Hat a0.Multi).bind fun t6_8 => (riddleref11_Events k a0.Nfa t5_2 a0.Hat a0.Multi).bind fun t6_10 => (slices_Equal_int_int k t6_8 t6_10).bind fun t6_12 => some t6_12 else some false) : Option (Bool)).bind fun v6 => some v6)
theorem riddlelaw11_NfaTells_ok {k : Nat} {a0 : riddlelaw11_Case} {r : Bool} (h : riddlelaw11_NfaTells k a0 = some r) : Ans Tryd.prog 3 [.agg [sC a0.Nfa.Classes, i6 (a0.Nfa.First.N), sW a0.Nfa.First.Words, i6 (a0.Nfa.Last.N), sW a0.Nfa.Last.Words, sB a0.Nfa.Follow, bo (a0.Nfa.Null), i6 (a0.State.N), sW a0.State.Words, bo (a0.Begin), slV (eI .u8) a0.W, i6 (a0.From), bo (a0.Hat), bo (a0.Multi)]] (bo (r)) := by
  refine W_fn Tryd.func3 rfl (by kernel_rfl) (by kernel_rfl) ?_
  intro X hro hn
  unfold riddlelaw11_NfaTells at h
  refine WX.seq ?_
  refine WC.reg (n := 41) hn [] [1] [1] ⟨[(1, .ptr 1 0)], [(1, .box 31 [.p (sC a0.Nfa.Classes), .p (i6 (a0.Nfa.First.N)), .p (sW a0.Nfa.First.Words), .p (i6 (a0.Nfa.Last.N)), .p (sW a0.Nfa.Last.Words), .p (sB a0.Nfa.Follow), .p (bo (a0.Nfa.Null)), .p (i6 (a0.State.N)), .p (sW a0.State.Words), .p (bo (a0.Begin)), .p (slV (eI .u8) a0.W), .p (i6 (a0.From)), .p (bo (a0.Hat)), .p (bo (a0.Multi))])], ⟨[], false⟩, []⟩ trivial (by kernel_rfl) ?_
  refine WX.seq ?_
  refine WX.seq ?_
  obtain ⟨t2_2, h2_1, h⟩ := bind_some h
  refine WC.reg (n := 41) hn [(0, .resP (bo (t2_2)))] [1, 5] [1] ⟨[(1, .ptr 1 0), (5, .p (bo (((!t2_2)))))], [(1, .box 31 [.p (sC a0.Nfa.Classes), .p (i6 (a0.Nfa.First.N)), .p (sW a0.Nfa.First.Words), .p (i6 (a0.Nfa.Last.N)), .p (sW a0.Nfa.Last.Words), .p (sB a0.Nfa.Follow), .p (bo (a0.Nfa.Null)), .p (i6 (a0.State.N)), .p (sW a0.State.Words), .p (bo (a0.Begin)), .p (slV (eI .u8) a0.W), .p (i6 (a0.From)), .p (bo (a0.Hat)), .p (bo (a0.Multi))])], ⟨[], false⟩, []⟩ (And.intro ((riddlelaw11_live_ok h2_1)) (trivial)) (by kernel_rfl) ?_
  rcases if_or h with ⟨c3, h⟩ | ⟨c3, h⟩
  · refine WC.condT c3 (by kernel_rfl) ?_
    refine WX.seq ?_
    refine WC.reg (n := 41) hn [] [2] [] ⟨[(2, .p (bo (false)))], [], ⟨[], false⟩, []⟩ trivial (by kernel_rfl) ?_
    refine WX.ret ?_
    exact WC.outP (by rw [← Option.some.inj h]; kernel_rfl)
  · refine WC.condF c3 (by kernel_rfl) ?_
    refine WX.skip ?_
    refine WX.seq ?_
    obtain ⟨t5_2, h5_1, h⟩ := bind_some h
    refine WC.reg (n := 41) hn [(2, .resP (slV (eI .u8) t5_2))] [1, 3] [1] ⟨[(1, .ptr 1 0), (3, .p (slV (eI .u8) t5_2))], [(1, .box 31 [.p (sC a0.Nfa.Classes), .p (i6 (a0.Nfa.First.N)), .p (sW a0.Nfa.First.Words), .p (i6 (a0.Nfa.Last.N)), .p (sW a0.Nfa.Last.Words), .p (sB a0.Nfa.Follow), .p (bo (a0.Nfa.Null)), .p (i6 (a0.State.N)), .p (sW a0.State.Words), .p (bo (a0.Begin)), .p (slV (eI .u8) a0.W), .p (i6 (a0.From)), .p (bo (a0.Hat)), .p (bo (a0.Multi))])], ⟨[], false⟩, []⟩ (And.intro ((riddlelaw11_short_ok h5_1)) (trivial)) (by kernel_rfl) ?_
    refine WX.seq ?_
    obtain ⟨t6_2, h6_1, h⟩ := bind_some h
    obtain ⟨t6_4, h6_3, h⟩ := bind_some h
    obtain ⟨t6_6, h6_5, h⟩ := bind_some h
    obtain ⟨m6_1, g6, h⟩ := bind_some h
    refine WC.via (α := Bool) (fun v6 => ⟨[(2, .p (bo (v6)))], [], ⟨[], false⟩, []⟩) m6_1 (fun hk => ?_) ?_
    · rcases if_or g6 with ⟨b6_13, g6⟩ | ⟨b6_13, g6⟩
      · obtain ⟨t6_8, h6_7, g6⟩ := bind_some g6
        obtain ⟨t6_10, h6_9, g6⟩ := bind_some g6
        obtain ⟨t6_12, h6_11, g6⟩ := bind_some g6
        exact WC.drw (n := 41) hn [] [] [(5, .resP (slV (eI .i64) t6_2)), (11, .resP (slV (eI .i64) t6_4)), (12, .resP (bo (t6_6))), (13, .val (.p (bo (true)))), (21, .resP (slV (eI .i64) t6_8)), (29, .resP (slV (eI .i64) t6_10)), (30, .resP (bo (t6_12)))] [2] [] ⟨[(2, .p (bo (t6_12)))], [], ⟨[], false⟩, []⟩ (And.intro ((riddlelaw11_ends_okP h6_1)) (And.intro ((riddleref11_Ends_okP h6_3)) (And.intro ((slices_Equal_int_int_ok h6_5)) (And.intro (Bl b6_13) (And.intro ((riddlelaw11_events_okP h6_7)) (And.intro ((riddleref11_Events_okP h6_9)) (And.intro ((slices_Equal_int_int_ok h6_11)) (trivial)))))))) (by kernel_rfl) (by kernel_rfl) (by kernel_rfl) (by kernel_rfl) (hk t6_12 (Option.some.inj g6))
      · exact WC.drw (n := 41) hn [] [] [(5, .resP (slV (eI .i64) t6_2)), (11, .resP (slV (eI .i64) t6_4)), (12, .resP (bo (t6_6))), (13, .val (.p (bo (false))))] [2] [] ⟨[(2, .p (bo (false)))], [], ⟨[], false⟩, []⟩ (And.intro ((riddlelaw11_ends_okP h6_1)) (And.intro ((riddleref11_Ends_okP h6_3)) (And.intro ((slices_Equal_int_int_ok h6_5)) (And.intro (Bl b6_13) (trivial))))) (by kernel_rfl) (by kernel_rfl) (by kernel_rfl) (by kernel_rfl) (hk false (Option.some.inj g6))
    refine WX.ret ?_
    exact WC.outP (by rw [← Option.some.inj h]; kernel_rfl)
def nfa_state (k : Nat) (a0 : api_Nfa) (a1 : api_Bits) : Option (api_Bits) :=
  (bits_Check a1).bind fun t2_2 => (if (((t2_2 != 0)) || ((a1.N != (a0.Classes.length : Int)))) = true then (nfa_None k a0).bind fun t4_2 => some t4_2 else some a1)
theorem nfa_state_ok {k : Nat} {a0 : api_Nfa} {a1 : api_Bits} {r : api_Bits} (h : nfa_state k a0 a1 = some r) : Ans Tryd.prog 52 [.agg [sC a0.Classes, i6 (a0.First.N), sW a0.First.Words, i6 (a0.Last.N), sW a0.Last.Words, sB a0.Follow, bo (a0.Null)], .agg [i6 (a1.N), sW a1.Words]] (.agg [i6 (r.N), sW r.Words]) := by
  refine W_fn Tryd.func52 rfl (by kernel_rfl) (by kernel_rfl) ?_
  intro X hro hn
  unfold nfa_state at h
  refine WX.seq ?_
  refine WC.reg (n := 19) hn [] [2, 3, 4] [2, 3, 4] ⟨[(2, .ptr 2 0), (3, .ptr 3 0), (4, .ptr 4 0)], [(2, .box 28 [.p (sC a0.Classes), .p (i6 (a0.First.N)), .p (sW a0.First.Words), .p (i6 (a0.Last.N)), .p (sW a0.Last.Words), .p (sB a0.Follow), .p (bo (a0.Null))]), (3, .box 25 [.p (i6 (a1.N)), .p (sW a1.Words)]), (4, .box 25 [.p (i6 (0)), .p (.sl .nil 0 [])])], ⟨[], false⟩, []⟩ trivial (by kernel_rfl) ?_
  refine WX.seq ?_
  refine WX.seq ?_
  obtain ⟨t2_2, h2_1, h⟩ := bind_some h
  refine WC.via (α := Bool) (fun v2 => ⟨[(2, .ptr 2 0), (3, .ptr 3 0), (4, .ptr 4 0), (15, .p (bo (v2)))], [(2, .box 28 [.p (sC a0.Classes), .p (i6 (a0.First.N)), .p (sW a0.First.Words), .p (i6 (a0.Last.N)), .p (sW a0.Last.Words), .p (sB a0.Follow), .p (bo (a0.Null))]), (3, .box 25 [.p (i6 (a1.N)), .p (sW a1.Words)]), (4, .box 25 [.p (i6 (0)), .p (.sl .nil 0 [])])], ⟨[], false⟩, []⟩) ((((t2_2 != 0)) || ((a1.N != (a0.Classes.length : Int))))) (fun hk => ?_) ?_
  · rcases Bool.eq_false_or_eq_true ((t2_2 != 0)) with b2_3 | b2_3
    · exact WC.reg (n := 19) hn [(1, .resP (i6 (t2_2))), (3, .val (.p (bo (true))))] [2, 3, 4, 15] [2, 3, 4] ⟨[(2, .ptr 2 0), (3, .ptr 3 0), (4, .ptr 4 0), (15, .p (bo (true)))], [(2, .box 28 [.p (sC a0.Classes), .p (i6 (a0.First.N)), .p (sW a0.First.Words), .p (i6 (a0.Last.N)), .p (sW a0.Last.Words), .p (sB a0.Follow), .p (bo (a0.Null))]), (3, .box 25 [.p (i6 (a1.N)), .p (sW a1.Words)]), (4, .box 25 [.p (i6 (0)), .p (.sl .nil 0 [])])], ⟨[], false⟩, []⟩ (And.intro ((bits_Check_ok h2_1)) (And.intro (Bl b2_3) (trivial))) (by kernel_rfl) (hk true (by first | (rw [b2_3]; rfl) | simp [b2_3]))
    · exact WC.reg (n := 19) hn [(1, .resP (i6 (t2_2))), (3, .val (.p (bo (false))))] [2, 3, 4, 15] [2, 3, 4] ⟨[(2, .ptr 2 0), (3, .ptr 3 0), (4, .ptr 4 0), (15, .p (bo (((a1.N != (a0.Classes.length : Int))))))], [(2, .box 28 [.p (sC a0.Classes), .p (i6 (a0.First.N)), .p (sW a0.First.Words), .p (i6 (a0.Last.N)), .p (sW a0.Last.Words), .p (sB a0.Follow), .p (bo (a0.Null))]), (3, .box 25 [.p (i6 (a1.N)), .p (sW a1.Words)]), (4, .box 25 [.p (i6 (0)), .p (.sl .nil 0 [])])], ⟨[], false⟩, []⟩ (And.intro ((bits_Check_ok h2_1)) (And.intro (Bl b2_3) (trivial))) (by kernel_rfl) (hk ((a1.N != (a0.Classes.length : Int))) (by first | (rw [b2_3]; rfl) | simp [b2_3]))
  rcases if_or h with ⟨c3, h⟩ | ⟨c3, h⟩
  · refine WC.condT c3 (by kernel_rfl) ?_
    refine WX.seq ?_
    obtain ⟨t4_2, h4_1, h⟩ := bind_some h
    refine WC.reg (n := 19) hn [(1, .co [] [] [] [(17, rowV 69 (eI .u64) t4_2.Words)] (.agg [.p (i6 (t4_2.N)), .own 17]))] [4] [4, 17] ⟨[(4, .ptr 4 0)], [(4, .box 25 [.p (i6 (t4_2.N)), .own 17]), (17, rowV 69 (eI .u64) t4_2.Words)], ⟨[], false⟩, []⟩ (And.intro (And.intro ((nfa_None_ok h4_1).ren 10 17 (by kernel_rfl)) (trivial)) (trivial)) (by kernel_rfl) ?_
    refine WX.ret ?_
    exact WC.outP (by rw [← Option.some.inj h]; kernel_rfl)
  · refine WC.condF c3 (by kernel_rfl) ?_
    refine WX.skip ?_
    refine WX.seq ?_
    refine WC.reg (n := 19) hn [] [4] [4] ⟨[(4, .ptr 4 0)], [(4, .box 25 [.p (i6 (a1.N)), .p (sW a1.Words)])], ⟨[], false⟩, []⟩ trivial (by kernel_rfl) ?_
    refine WX.ret ?_
    exact WC.outP (by rw [← Option.some.inj h]; kernel_rfl)
def nfa_Run_l0 (a2 : (List Int)) (t2_2 : api_Nfa) (J5 : (Int × List Int) → Option (api_Bits)) : Nat → (Int × Int × List Int) → Option (api_Bits)
  | 0, _ => none
  | k + 1, (x18_1_1, x18_1_2, x18_1_3) => (if (decide (x18_1_1 < (a2.length : Int))) = true then (at_ a2 x18_1_1).bind fun t31_2 => (nfa_step k t2_2 ((api_Bits.mk x18_1_2 x18_1_3)) false t31_2).bind fun t32_2 => nfa_Run_l0 a2 t2_2 J5 k ((IntKind.i64.wrap (x18_1_1 + 1)), t32_2.N, t32_2.Words) else J5 (x18_1_2, x18_1_3))
def nfa_Run (k : Nat) (a0 : api_Nfa) (a1 : api_Bits) (a2 : (List Int)) : Option (api_Bits) :=
  (nfa_may k a0).bind fun t2_2 => (nfa_state k t2_2 a1).bind fun t3_2 => jn (fun (v5 : Int × List Int) => some ((api_Bits.mk v5.1 v5.2))) fun J5 => nfa_Run_l0 a2 t2_2 J5 k (0, t3_2.N, t3_2.Words)
theorem nfa_Run_ok {k : Nat} {a0 : api_Nfa} {a1 : api_Bits} {a2 : (List Int)} {r : api_Bits} (h : nfa_Run k a0 a1 a2 = some r) : Ans Tryd.prog 17 [.agg [sC a0.Classes, i6 (a0.First.N), sW a0.First.Words, i6 (a0.Last.N), sW a0.Last.Words, sB a0.Follow, bo (a0.Null)], .agg [i6 (a1.N), sW a1.Words], slV (eI .u8) a2] (.agg [i6 (r.N), sW r.Words]) := by
  refine W_fn Tryd.func17 rfl (by kernel_rfl) (by kernel_rfl) ?_
  intro X hro hn
  unfold nfa_Run at h
  refine WX.seq ?_
  refine WC.reg (n := 26) hn [] [2, 3, 4, 6] [3, 4, 6] ⟨[(2, .p (slV (eI .u8) a2)), (3, .ptr 3 0), (4, .ptr 4 0), (6, .ptr 6 0)], [(3, .box 28 [.p (sC a0.Classes), .p (i6 (a0.First.N)), .p (sW a0.First.Words), .p (i6 (a0.Last.N)), .p (sW a0.Last.Words), .p (sB a0.Follow), .p (bo (a0.Null))]), (4, .box 25 [.p (i6 (a1.N)), .p (sW a1.Words)]), (6, .box 25 [.p (i6 (0)), .p (.sl .nil 0 [])])], ⟨[], false⟩, []⟩ trivial (by kernel_rfl) ?_
  refine WX.seq ?_
  obtain ⟨t2_2, h2_1, h⟩ := bind_some h
  refine WC.reg (n := 26) hn [(1, .resP (.agg [sC t2_2.Classes, i6 (t2_2.First.N), sW t2_2.First.Words, i6 (t2_2.Last.N), sW t2_2.Last.Words, sB t2_2.Follow, bo (t2_2.Null)]))] [2, 3, 4, 6] [3, 4, 6] ⟨[(2, .p (slV (eI .u8) a2)), (3, .ptr 3 0), (4, .ptr 4 0), (6, .ptr 6 0)], [(3, .box 28 [.p (sC t2_2.Classes), .p (i6 (t2_2.First.N)), .p (sW t2_2.First.Words), .p (i6 (t2_2.Last.N)), .p (sW t2_2.Last.Words), .p (sB t2_2.Follow), .p (bo (t2_2.Null))]), (4, .box 25 [.p (i6 (a1.N)), .p (sW a1.Words)]), (6, .box 25 [.p (i6 (0)), .p (.sl .nil 0 [])])], ⟨[], false⟩, []⟩ (And.intro ((nfa_may_ok h2_1)) (trivial)) (by kernel_rfl) ?_
  refine WX.seq ?_
  obtain ⟨t3_2, h3_1, h⟩ := bind_some h
  refine WC.reg (n := 26) hn [(2, .resP (.agg [i6 (t3_2.N), sW t3_2.Words]))] [2, 3, 4, 6] [3, 4, 6] ⟨[(2, .p (slV (eI .u8) a2)), (3, .ptr 3 0), (4, .ptr 4 0), (6, .ptr 6 0)], [(3, .box 28 [.p (sC t2_2.Classes), .p (i6 (t2_2.First.N)), .p (sW t2_2.First.Words), .p (i6 (t2_2.Last.N)), .p (sW t2_2.Last.Words), .p (sB t2_2.Follow), .p (bo (t2_2.Null))]), (4, .box 25 [.p (i6 (t3_2.N)), .p (sW t3_2.Words)]), (6, .box 25 [.p (i6 (0)), .p (.sl .nil 0 [])])], ⟨[], false⟩, []⟩ (And.intro ((nfa_state_ok h3_1)) (trivial)) (by kernel_rfl) ?_
  refine WX.seq ?_
  refine WX.seq ?_
  refine WC.reg (n := 26) hn [] [3, 4, 6, 14, 15, 16] [3, 4, 6] ⟨[(3, .ptr 3 0), (4, .ptr 4 0), (6, .ptr 6 0), (14, .p (slV (eI .u8) a2)), (15, .p (i6 (((a2.length : Int))))), (16, .p (i6 (0)))], [(3, .box 28 [.p (sC t2_2.Classes), .p (i6 (t2_2.First.N)), .p (sW t2_2.First.Words), .p (i6 (t2_2.Last.N)), .p (sW t2_2.Last.Words), .p (sB t2_2.Follow), .p (bo (t2_2.Null))]), (4, .box 25 [.p (i6 (t3_2.N)), .p (sW t3_2.Words)]), (6, .box 25 [.p (i6 (0)), .p (.sl .nil 0 [])])], ⟨[], false⟩, []⟩ trivial (by kernel_rfl) ?_
  obtain ⟨J5, eJ5, h⟩ := jn_some h
  try dsimp only at h
  refine WC.join (α := Int × List Int) (fun v5 => ⟨[(4, .ptr 4 0), (6, .ptr 6 0)], [(4, .box 25 [.p (i6 (v5.1)), .p (sW v5.2)]), (6, .box 25 [.p (i6 (0)), .p (.sl .nil 0 [])])], ⟨[], false⟩, []⟩) (fun v5 => J5 v5 = some r) ?_ (fun hJ5 => ?_)
  · rintro ⟨y5_1, y5_2⟩ h
    rw [eJ5] at h
    try dsimp only at h
    refine WX.seq ?_
    refine WC.reg (n := 26) hn [] [6] [6] ⟨[(6, .ptr 6 0)], [(6, .box 25 [.p (i6 (y5_1)), .p (sW y5_2)])], ⟨[], false⟩, []⟩ trivial (by kernel_rfl) ?_
    refine WX.ret ?_
    exact WC.outP (by rw [← Option.some.inj h]; kernel_rfl)
  · replace hJ5 := fun y5_1 y5_2 => hJ5 (y5_1, y5_2)
    refine WX.block ?_
    refine WC.loop (V := Int × Int × List Int) (nfa_Run_l0 a2 t2_2 J5) r (fun v18 => ⟨[(3, .ptr 3 0), (4, .ptr 4 0), (6, .ptr 6 0), (14, .p (slV (eI .u8) a2)), (15, .p (i6 (((a2.length : Int))))), (16, .p (i6 (v18.1)))], [(3, .box 28 [.p (sC t2_2.Classes), .p (i6 (t2_2.First.N)), .p (sW t2_2.First.Words), .p (i6 (t2_2.Last.N)), .p (sW t2_2.Last.Words), .p (sB t2_2.Follow), .p (bo (t2_2.Null))]), (4, .box 25 [.p (i6 (v18.2.1)), .p (sW v18.2.2)]), (6, .box 25 [.p (i6 (0)), .p (.sl .nil 0 [])])], ⟨[], false⟩, []⟩) _ (0, t3_2.N, t3_2.Words) h (fun _ => rfl) [3, 4, 6, 14, 15, 16] [3, 4, 6] (by kernel_rfl) ?_
    clear h; rintro k ⟨x18_1_1, x18_1_2, x18_1_3⟩ h K18 hnext18 hexit18
    rw [nfa_Run_l0] at h
    refine WX.seq ?_
    refine WC.reg (n := 26) hn [] [3, 4, 6, 14, 15, 16, 17] [3, 4, 6] ⟨[(3, .ptr 3 0), (4, .ptr 4 0), (6, .ptr 6 0), (14, .p (slV (eI .u8) a2)), (15, .p (i6 (((a2.length : Int))))), (16, .p (i6 (x18_1_1))), (17, .p (bo (((decide (x18_1_1 < (a2.length : Int)))))))], [(3, .box 28 [.p (sC t2_2.Classes), .p (i6 (t2_2.First.N)), .p (sW t2_2.First.Words), .p (i6 (t2_2.Last.N)), .p (sW t2_2.Last.Words), .p (sB t2_2.Follow), .p (bo (t2_2.Null))]), (4, .box 25 [.p (i6 (x18_1_2)), .p (sW x18_1_3)]), (6, .box 25 [.p (i6 (0)), .p (.sl .nil 0 [])])], ⟨[], false⟩, []⟩ trivial (by kernel_rfl) ?_
    refine WX.seq ?_
    rcases if_or h with ⟨c30, h⟩ | ⟨c30, h⟩
    · refine WC.condT c30 (by kernel_rfl) ?_
      refine WX.skip ?_
      refine WX.seq ?_
      refine WX.block ?_
      refine WX.seq ?_
      obtain ⟨t31_2, h31_1, h⟩ := bind_some h
      refine WC.reg (n := 26) hn [(0, .val (.p (.rop ((eI .u8).cells t31_2 ++ encL (eI .u8) (a2.drop (x18_1_1.toNat + 1))))))] [3, 4, 6, 8, 14, 15, 16] [3, 4, 6] ⟨[(3, .ptr 3 0), (4, .ptr 4 0), (6, .ptr 6 0), (8, .p (.s (.int .u8 t31_2))), (14, .p (slV (eI .u8) a2)), (15, .p (i6 (((a2.length : Int))))), (16, .p (i6 (x18_1_1)))], [(3, .box 28 [.p (sC t2_2.Classes), .p (i6 (t2_2.First.N)), .p (sW t2_2.First.Words), .p (i6 (t2_2.Last.N)), .p (sW t2_2.Last.Words), .p (sB t2_2.Follow), .p (bo (t2_2.Null))]), (4, .box 25 [.p (i6 (x18_1_2)), .p (sW x18_1_3)]), (6, .box 25 [.p (i6 (0)), .p (.sl .nil 0 [])])], ⟨[], false⟩, []⟩ (And.intro (Ix (eI .u8) h31_1) (trivial)) (by kernel_rfl) ?_
      obtain ⟨t32_2, h32_1, h⟩ := bind_some h
      refine WC.reg (n := 26) hn [(3, .co [] [] [] [(23, rowV 69 (eI .u64) t32_2.Words)] (.agg [.p (i6 (t32_2.N)), .own 23]))] [3, 4, 6, 14, 15, 16] [3, 4, 6, 23] ⟨[(3, .ptr 3 0), (4, .ptr 4 0), (6, .ptr 6 0), (14, .p (slV (eI .u8) a2)), (15, .p (i6 (((a2.length : Int))))), (16, .p (i6 (x18_1_1)))], [(3, .box 28 [.p (sC t2_2.Classes), .p (i6 (t2_2.First.N)), .p (sW t2_2.First.Words), .p (i6 (t2_2.Last.N)), .p (sW t2_2.Last.Words), .p (sB t2_2.Follow), .p (bo (t2_2.Null))]), (4, .box 25 [.p (i6 (t32_2.N)), .own 23]), (6, .box 25 [.p (i6 (0)), .p (.sl .nil 0 [])]), (23, rowV 69 (eI .u64) t32_2.Words)], ⟨[], false⟩, []⟩ (And.intro (And.intro ((nfa_step_ok h32_1).ren 31 23 (by kernel_rfl)) (trivial)) (trivial)) (by kernel_rfl) ?_
      refine WX.popBlk ?_
      refine WC.reg (n := 26) hn [] [3, 4, 6, 14, 15, 16] [3, 4, 6, 23] ⟨[(3, .ptr 3 0), (4, .ptr 4 0), (6, .ptr 6 0), (14, .p (slV (eI .u8) a2)), (15, .p (i6 (((a2.length : Int))))), (16, .p (i6 (((IntKind.i64.wrap (x18_1_1 + 1))))))], [(3, .box 28 [.p (sC t2_2.Classes), .p (i6 (t2_2.First.N)), .p (sW t2_2.First.Words), .p (i6 (t2_2.Last.N)), .p (sW t2_2.Last.Words), .p (sB t2_2.Follow), .p (bo (t2_2.Null))]), (4, .box 25 [.p (i6 (t32_2.N)), .own 23]), (6, .box 25 [.p (i6 (0)), .p (.sl .nil 0 [])]), (23, rowV 69 (eI .u64) t32_2.Words)], ⟨[], false⟩, []⟩ trivial (by kernel_rfl) ?_
      refine WC.frz 23 (st' := ⟨[(3, .ptr 3 0), (4, .ptr 4 0), (6, .ptr 6 0), (14, .p (slV (eI .u8) a2)), (15, .p (i6 (((a2.length : Int))))), (16, .p (i6 (((IntKind.i64.wrap (x18_1_1 + 1))))))], [(3, .box 28 [.p (sC t2_2.Classes), .p (i6 (t2_2.First.N)), .p (sW t2_2.First.Words), .p (i6 (t2_2.Last.N)), .p (sW t2_2.Last.Words), .p (sB t2_2.Follow), .p (bo (t2_2.Null))]), (4, .box 25 [.p (i6 (t32_2.N)), .p (sW t32_2.Words)]), (6, .box 25 [.p (i6 (0)), .p (.sl .nil 0 [])])], ⟨[], false⟩, []⟩) (by kernel_rfl) ?_
      exact WC.next [3, 4, 6, 14, 15, 16] [3, 4, 6] (by kernel_rfl) (hnext18 ((IntKind.i64.wrap (x18_1_1 + 1)), t32_2.N, t32_2.Words) h)
    · refine WC.condF c30 (by kernel_rfl) ?_
      refine WX.exit ?_
      refine WX.popCodeExit ?_
      refine WC.exit_nil (hexit18 _ _ (by simp) ?_)
      refine WX.popBlkHit ?_
      exact WC.keep [4, 6] [4, 6] (by kernel_rfl) (hJ5 x18_1_2 x18_1_3 h)
def riddleref01_Exact_l0 (a0 : api_Bits) (a1 : api_Bits) (J6 : Unit → Option (Bool)) : Nat → Int → Option (Bool)
  | 0, _ => none
  | k + 1, x21_1_1 => (if (decide (x21_1_1 < (a0.Words.length : Int))) = true then (at_ a0.Words x21_1_1).bind fun t36_2 => (at_ a1.Words x21_1_1).bind fun t36_4 => (if (t36_2 != t36_4) = true then some false else riddleref01_Exact_l0 a0 a1 J6 k ((IntKind.i64.wrap (x21_1_1 + 1)))) else J6 ())
def riddleref01_Exact (k : Nat) (a0 : api_Bits) (a1 : api_Bits) : Option (Bool) :=
  (if (((a0.N != a1.N)) || (((a0.Words.length : Int) != (a1.Words.length : Int)))) = true then some false else jn (fun (v6 : Unit) => some true) fun J6 => riddleref01_Exact_l0 a0 a1 J6 k 0)
theorem riddleref01_Exact_ok {k : Nat} {a0 : api_Bits} {a1 : api_Bits} {r : Bool} (h : riddleref01_Exact k a0 a1 = some r) : Ans Tryd.prog 19 [.agg [i6 (a0.N), sW a0.Words], .agg [i6 (a1.N), sW a1.Words]] (bo (r)) := by
  refine W_fn Tryd.func19 rfl (by kernel_rfl) (by kernel_rfl) ?_
  intro X hro hn
  unfold riddleref01_Exact at h
  refine WX.seq ?_
  refine WC.reg (n := 38) hn [] [2, 3] [2, 3] ⟨[(2, .ptr 2 0), (3, .ptr 3 0)], [(2, .box 25 [.p (i6 (a0.N)), .p (sW a0.Words)]), (3, .box 25 [.p (i6 (a1.N)), .p (sW a1.Words)])], ⟨[], false⟩, []⟩ trivial (by kernel_rfl) ?_
  refine WX.seq ?_
  refine WX.seq ?_
  refine WC.via (α := Bool) (fun v2 => ⟨[(2, .ptr 2 0), (3, .ptr 3 0), (19, .p (bo (v2)))], [(2, .box 25 [.p (i6 (a0.N)), .p (sW a0.Words)]), (3, .box 25 [.p (i6 (a1.N)), .p (sW a1.Words)])], ⟨[], false⟩, []⟩) ((((a0.N != a1.N)) || (((a0.Words.length : Int) != (a1.Words.length : Int))))) (fun hk => ?_) ?_
  · rcases Bool.eq_false_or_eq_true ((a0.N != a1.N)) with b2_5 | b2_5
    · exact WC.reg (n := 38) hn [(5, .val (.p (bo (true))))] [2, 3, 19] [2, 3] ⟨[(2, .ptr 2 0), (3, .ptr 3 0), (19, .p (bo (true)))], [(2, .box 25 [.p (i6 (a0.N)), .p (sW a0.Words)]), (3, .box 25 [.p (i6 (a1.N)), .p (sW a1.Words)])], ⟨[], false⟩, []⟩ (And.intro (Bl b2_5) (trivial)) (by kernel_rfl) (hk true (by first | (rw [b2_5]; rfl) | simp [b2_5]))
    · exact WC.reg (n := 38) hn [(5, .val (.p (bo (false))))] [2, 3, 19] [2, 3] ⟨[(2, .ptr 2 0), (3, .ptr 3 0), (19, .p (bo ((((a0.Words.length : Int) != (a1.Words.length : Int))))))], [(2, .box 25 [.p (i6 (a0.N)), .p (sW a0.Words)]), (3, .box 25 [.p (i6 (a1.N)), .p (sW a1.Words)])], ⟨[], false⟩, []⟩ (And.intro (Bl b2_5) (trivial)) (by kernel_rfl) (hk (((a0.Words.length : Int) != (a1.Words.length : Int))) (by first | (rw [b2_5]; rfl) | simp [b2_5]))
  rcases if_or h with ⟨c3, h⟩ | ⟨c3, h⟩
  · refine WC.condT c3 (by kernel_rfl) ?_
    refine WX.seq ?_
    refine WC.reg (n := 38) hn [] [4] [] ⟨[(4, .p (bo (false)))], [], ⟨[], false⟩, []⟩ trivial (by kernel_rfl) ?_
    refine WX.ret ?_
    exact WC.outP (by rw [← Option.some.inj h]; kernel_rfl)
  · refine WC.condF c3 (by kernel_rfl) ?_
    refine WX.skip ?_
    refine WX.seq ?_
    refine WX.seq ?_
    refine WC.reg (n := 38) hn [] [2, 3, 5] [2, 3] ⟨[(2, .ptr 2 0), (3, .ptr 3 0), (5, .p (i6 (0)))], [(2, .box 25 [.p (i6 (a0.N)), .p (sW a0.Words)]), (3, .box 25 [.p (i6 (a1.N)), .p (sW a1.Words)])], ⟨[], false⟩, []⟩ trivial (by kernel_rfl) ?_
    obtain ⟨J6, eJ6, h⟩ := jn_some h
    try dsimp only at h
    refine WC.join (α := Unit) (fun v6 => ⟨[], [], ⟨[], false⟩, []⟩) (fun v6 => J6 v6 = some r) ?_ (fun hJ6 => ?_)
    · rintro _ h
      rw [eJ6] at h
      try dsimp only at h
      refine WX.seq ?_
      refine WC.reg (n := 38) hn [] [4] [] ⟨[(4, .p (bo (true)))], [], ⟨[], false⟩, []⟩ trivial (by kernel_rfl) ?_
      refine WX.ret ?_
      exact WC.outP (by rw [← Option.some.inj h]; kernel_rfl)
    · skip
      refine WX.block ?_
      refine WC.loop (V := Int) (riddleref01_Exact_l0 a0 a1 J6) r (fun v21 => ⟨[(2, .ptr 2 0), (3, .ptr 3 0), (5, .p (i6 (v21)))], [(2, .box 25 [.p (i6 (a0.N)), .p (sW a0.Words)]), (3, .box 25 [.p (i6 (a1.N)), .p (sW a1.Words)])], ⟨[], false⟩, []⟩) _ 0 h (fun _ => rfl) [2, 3, 5] [2, 3] (by kernel_rfl) ?_
      clear h; rintro k x21_1_1 h K21 hnext21 hexit21
      rw [riddleref01_Exact_l0] at h
      refine WX.seq ?_
      refine WX.seq ?_
      refine WC.reg (n := 38) hn [] [2, 3, 5, 24] [2, 3] ⟨[(2, .ptr 2 0), (3, .ptr 3 0), (5, .p (i6 (x21_1_1))), (24, .p (bo (((decide (x21_1_1 < (a0.Words.length : Int)))))))], [(2, .box 25 [.p (i6 (a0.N)), .p (sW a0.Words)]), (3, .box 25 [.p (i6 (a1.N)), .p (sW a1.Words)])], ⟨[], false⟩, []⟩ trivial (by kernel_rfl) ?_
      rcases if_or h with ⟨c35, h⟩ | ⟨c35, h⟩
      · refine WC.condT c35 (by kernel_rfl) ?_
        refine WX.skip ?_
        refine WX.seq ?_
        refine WX.block ?_
        refine WX.seq ?_
        obtain ⟨t36_2, h36_1, h⟩ := bind_some h
        obtain ⟨t36_4, h36_3, h⟩ := bind_some h
        refine WC.drw (n := 38) hn [] [] [(3, .val (.p (.rop ((eI .u64).cells t36_2 ++ encL (eI .u64) (a0.Words.drop (x21_1_1.toNat + 1)))))), (8, .val (.p (.rop ((eI .u64).cells t36_4 ++ encL (eI .u64) (a1.Words.drop (x21_1_1.toNat + 1))))))] [2, 3, 5, 37] [2, 3] ⟨[(2, .ptr 2 0), (3, .ptr 3 0), (5, .p (i6 (x21_1_1))), (37, .p (bo (((t36_2 != t36_4)))))], [(2, .box 25 [.p (i6 (a0.N)), .p (sW a0.Words)]), (3, .box 25 [.p (i6 (a1.N)), .p (sW a1.Words)])], ⟨[], false⟩, []⟩ (And.intro (Ix (eI .u64) h36_1) (And.intro (Ix (eI .u64) h36_3) (trivial))) (by kernel_rfl) (by kernel_rfl) (by kernel_rfl) (by kernel_rfl) ?_
        rcases if_or h with ⟨c37, h⟩ | ⟨c37, h⟩
        · refine WC.condT c37 (by kernel_rfl) ?_
          refine WX.seq ?_
          refine WC.reg (n := 38) hn [] [4] [] ⟨[(4, .p (bo (false)))], [], ⟨[], false⟩, []⟩ trivial (by kernel_rfl) ?_
          refine WX.ret ?_
          refine WC.ret_all (hexit21 _ _ (by simp) ?_)
          exact WC.outP (by rw [← Option.some.inj h]; kernel_rfl)
        · refine WC.condF c37 (by kernel_rfl) ?_
          refine WX.skip ?_
          refine WX.popBlk ?_
          refine WC.reg (n := 38) hn [] [2, 3, 5] [2, 3] ⟨[(2, .ptr 2 0), (3, .ptr 3 0), (5, .p (i6 (((IntKind.i64.wrap (x21_1_1 + 1))))))], [(2, .box 25 [.p (i6 (a0.N)), .p (sW a0.Words)]), (3, .box 25 [.p (i6 (a1.N)), .p (sW a1.Words)])], ⟨[], false⟩, []⟩ trivial (by kernel_rfl) ?_
          exact WC.next [2, 3, 5] [2, 3] (by kernel_rfl) (hnext21 ((IntKind.i64.wrap (x21_1_1 + 1))) h)
      · refine WC.condF c35 (by kernel_rfl) ?_
        refine WX.exit ?_
        refine WX.popCodeExit ?_
        refine WC.exit_nil (hexit21 _ _ (by simp) ?_)
        refine WX.popBlkHit ?_
        exact WC.keep [] [] (by kernel_rfl) (hJ6 () h)
def nfa_Dead (k : Nat) (a0 : api_Nfa) (a1 : api_Bits) : Option (Bool) :=
  (nfa_may k a0).bind fun t2_2 => (nfa_state k t2_2 a1).bind fun t3_2 => (bits_First k t3_2 0).bind fun t3_4 => some ((!t3_4.2))
theorem nfa_Dead_ok {k : Nat} {a0 : api_Nfa} {a1 : api_Bits} {r : Bool} (h : nfa_Dead k a0 a1 = some r) : Ans Tryd.prog 20 [.agg [sC a0.Classes, i6 (a0.First.N), sW a0.First.Words, i6 (a0.Last.N), sW a0.Last.Words, sB a0.Follow, bo (a0.Null)], .agg [i6 (a1.N), sW a1.Words]] (bo (r)) := by
  refine W_fn Tryd.func20 rfl (by kernel_rfl) (by kernel_rfl) ?_
  intro X hro hn
  unfold nfa_Dead at h
  refine WX.seq ?_
  refine WC.reg (n := 18) hn [] [2, 3] [2, 3] ⟨[(2, .ptr 2 0), (3, .ptr 3 0)], [(2, .box 28 [.p (sC a0.Classes), .p (i6 (a0.First.N)), .p (sW a0.First.Words), .p (i6 (a0.Last.N)), .p (sW a0.Last.Words), .p (sB a0.Follow), .p (bo (a0.Null))]), (3, .box 25 [.p (i6 (a1.N)), .p (sW a1.Words)])], ⟨[], false⟩, []⟩ trivial (by kernel_rfl) ?_
  refine WX.seq ?_
  obtain ⟨t2_2, h2_1, h⟩ := bind_some h
  refine WC.reg (n := 18) hn [(1, .resP (.agg [sC t2_2.Classes, i6 (t2_2.First.N), sW t2_2.First.Words, i6 (t2_2.Last.N), sW t2_2.Last.Words, sB t2_2.Follow, bo (t2_2.Null)]))] [2, 3] [2, 3] ⟨[(2, .ptr 2 0), (3, .ptr 3 0)], [(2, .box 28 [.p (sC t2_2.Classes), .p (i6 (t2_2.First.N)), .p (sW t2_2.First.Words), .p (i6 (t2_2.Last.N)), .p (sW t2_2.Last.Words), .p (sB t2_2.Follow), .p (bo (t2_2.Null))]), (3, .box 25 [.p (i6 (a1.N)), .p (sW a1.Words)])], ⟨[], false⟩, []⟩ (And.intro ((nfa_may_ok h2_1)) (trivial)) (by kernel_rfl) ?_
  refine WX.seq ?_
  obtain ⟨t3_2, h3_1, h⟩ := bind_some h
  obtain ⟨t3_4, h3_3, h⟩ := bind_some h
  refine WC.reg (n := 18) hn [(2, .resP (.agg [i6 (t3_2.N), sW t3_2.Words])), (3, .resP (.tup [i6 (t3_4.1), bo (t3_4.2)]))] [6] [] ⟨[(6, .p (bo (t3_4.2)))], [], ⟨[], false⟩, []⟩ (And.intro ((nfa_state_ok h3_1)) (And.intro ((bits_First_ok h3_3)) (trivial))) (by kernel_rfl) ?_
  refine WX.seq ?_
  refine WC.reg (n := 18) hn [] [4] [] ⟨[(4, .p (bo (((!t3_4.2)))))], [], ⟨[], false⟩, []⟩ trivial (by kernel_rfl) ?_
  refine WX.ret ?_
  exact WC.outP (by rw [← Option.some.inj h]; kernel_rfl)
def nfa_Next (k : Nat) (a0 : api_Nfa) (a1 : api_Bits) (a2 : Bool) (a3 : Int) : Option (api_Bits) :=
  (nfa_may k a0).bind fun t2_2 => (nfa_state k t2_2 a1).bind fun t3_2 => (nfa_step k t2_2 t3_2 a2 a3).bind fun t3_4 => some t3_4
theorem nfa_Next_ok {k : Nat} {a0 : api_Nfa} {a1 : api_Bits} {a2 : Bool} {a3 : Int} {r : api_Bits} (h : nfa_Next k a0 a1 a2 a3 = some r) : Ans Tryd.prog 24 [.agg [sC a0.Classes, i6 (a0.First.N), sW a0.First.Words, i6 (a0.Last.N), sW a0.Last.Words, sB a0.Follow, bo (a0.Null)], .agg [i6 (a1.N), sW a1.Words], bo (a2), .s (.int .u8 a3)] (.agg [i6 (r.N), sW r.Words]) := by
  refine W_fn Tryd.func24 rfl (by kernel_rfl) (by kernel_rfl) ?_
  intro X hro hn
  unfold nfa_Next at h
  refine WX.seq ?_
  refine WC.reg (n := 18) hn [] [2, 3, 4, 5, 8] [4, 5, 8] ⟨[(2, .p (bo (a2))), (3, .p (.s (.int .u8 a3))), (4, .ptr 4 0), (5, .ptr 5 0), (8, .ptr 8 0)], [(4, .box 28 [.p (sC a0.Classes), .p (i6 (a0.First.N)), .p (sW a0.First.Words), .p (i6 (a0.Last.N)), .p (sW a0.Last.Words), .p (sB a0.Follow), .p (bo (a0.Null))]), (5, .box 25 [.p (i6 (a1.N)), .p (sW a1.Words)]), (8, .box 25 [.p (i6 (0)), .p (.sl .nil 0 [])])], ⟨[], false⟩, []⟩ trivial (by kernel_rfl) ?_
  refine WX.seq ?_
  obtain ⟨t2_2, h2_1, h⟩ := bind_some h
  refine WC.reg (n := 18) hn [(1, .resP (.agg [sC t2_2.Classes, i6 (t2_2.First.N), sW t2_2.First.Words, i6 (t2_2.Last.N), sW t2_2.Last.Words, sB t2_2.Follow, bo (t2_2.Null)]))] [2, 3, 4, 5, 8] [4, 5, 8] ⟨[(2, .p (bo (a2))), (3, .p (.s (.int .u8 a3))), (4, .ptr 4 0), (5, .ptr 5 0), (8, .ptr 8 0)], [(4, .box 28 [.p (sC t2_2.Classes), .p (i6 (t2_2.First.N)), .p (sW t2_2.First.Words), .p (i6 (t2_2.Last.N)), .p (sW t2_2.Last.Words), .p (sB t2_2.Follow), .p (bo (t2_2.Null))]), (5, .box 25 [.p (i6 (a1.N)), .p (sW a1.Words)]), (8, .box 25 [.p (i6 (0)), .p (.sl .nil 0 [])])], ⟨[], false⟩, []⟩ (And.intro ((nfa_may_ok h2_1)) (trivial)) (by kernel_rfl) ?_
  refine WX.seq ?_
  obtain ⟨t3_2, h3_1, h⟩ := bind_some h
  obtain ⟨t3_4, h3_3, h⟩ := bind_some h
  refine WC.drw (n := 18) hn [(7, [])] [] [(3, .resP (.agg [i6 (t3_2.N), sW t3_2.Words])), (6, .resP (.agg [i6 (t3_4.N), sW t3_4.Words]))] [8] [8] ⟨[(8, .ptr 8 0)], [(8, .box 25 [.p (i6 (t3_4.N)), .p (sW t3_4.Words)])], ⟨[], false⟩, []⟩ (And.intro ((nfa_state_ok h3_1)) (And.intro ((nfa_step_okP h3_3)) (trivial))) (by kernel_rfl) (by kernel_rfl) (by kernel_rfl) (by kernel_rfl) ?_
  refine WX.ret ?_
  exact WC.outP (by rw [← Option.some.inj h]; kernel_rfl)
end Go.Proofs.YtfejcecgnonabaaDoor
