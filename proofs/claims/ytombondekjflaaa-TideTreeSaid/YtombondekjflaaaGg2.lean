/- YtombondekjflaaaGg2: a part of the proof; see the last text for what is proved. -/
import Derived.Test.YtombondekjflaaaGg
import Derived.Test.YtombondekjflaaaProg
import Derived.KernelRfl
set_option maxRecDepth 100000
set_option linter.unusedVariables false
set_option linter.unusedSimpArgs false
namespace Go.Proofs.Ytombondekjflaaa
open Go.AE
def riddleref05_Leaf (a0 : api_Node) : Option (api_Tree) :=
  (if (((a0.Kind == 3)) || ((((a0.Kind == 4)) || ((((a0.Kind == 5)) || ((((decide (a0.Kind < 1))) || ((decide (a0.Kind > 7)))))))))) = true then (riddleref05_Empty).bind fun t4_2 => some t4_2 else some ((api_Tree.mk ([(api_Node.mk a0.Kind a0.Class 0 0 a0.Least a0.Most a0.Lazy)]))))
theorem riddleref05_Leaf_ok {a0 : api_Node} {r : api_Tree} (h : riddleref05_Leaf a0 = some r) : AnsO Try.prog 40 [] [.p (.agg [.s (.int .i64 a0.Kind), .s (.int .u64 a0.Class.a0), .s (.int .u64 a0.Class.a1), .s (.int .u64 a0.Class.a2), .s (.int .u64 a0.Class.a3), .s (.int .i64 a0.A), .s (.int .i64 a0.B), .s (.int .i64 a0.Least), .s (.int .i64 a0.Most), .s (.bool a0.Lazy)])] [(26, rowV 70 e_api_Node r.Nodes)] (.agg [.own 26]) := by
  refine W_fnO [26] Try.func40 rfl (by kernel_rfl) (by kernel_rfl) (by kernel_rfl) (by kernel_rfl) ?_
  intro X hro hn
  unfold riddleref05_Leaf at h
  refine WX.seq ?_
  refine WC.reg (n := 32) hn [] [1, 2] [1, 2] ⟨[(1, .ptr 1 0), (2, .ptr 2 0)], [(1, .box 70 [.p (.s (.int .i64 a0.Kind)), .p (.s (.int .u64 a0.Class.a0)), .p (.s (.int .u64 a0.Class.a1)), .p (.s (.int .u64 a0.Class.a2)), .p (.s (.int .u64 a0.Class.a3)), .p (.s (.int .i64 a0.A)), .p (.s (.int .i64 a0.B)), .p (.s (.int .i64 a0.Least)), .p (.s (.int .i64 a0.Most)), .p (.s (.bool a0.Lazy))]), (2, .box 47 [.p (.sl .nil 0 [])])], ⟨[], false⟩, []⟩ trivial (by kernel_rfl) ?_
  refine WX.seq ?_
  refine WX.seq ?_
  refine WC.via (α := Bool) (fun v2 => ⟨[(1, .ptr 1 0), (2, .ptr 2 0), (25, .p (.s (.bool v2)))], [(1, .box 70 [.p (.s (.int .i64 a0.Kind)), .p (.s (.int .u64 a0.Class.a0)), .p (.s (.int .u64 a0.Class.a1)), .p (.s (.int .u64 a0.Class.a2)), .p (.s (.int .u64 a0.Class.a3)), .p (.s (.int .i64 a0.A)), .p (.s (.int .i64 a0.B)), .p (.s (.int .i64 a0.Least)), .p (.s (.int .i64 a0.Most)), .p (.s (.bool a0.Lazy))]), (2, .box 47 [.p (.sl .nil 0 [])])], ⟨[], false⟩, []⟩) ((((a0.Kind == 3)) || ((((a0.Kind == 4)) || ((((a0.Kind == 5)) || ((((decide (a0.Kind < 1))) || ((decide (a0.Kind > 7))))))))))) (fun hk => ?_) ?_
  · rcases Bool.eq_false_or_eq_true ((a0.Kind == 3)) with b2_3 | b2_3
    · exact WC.reg (n := 32) hn [(3, .val (.p (.s (.bool true))))] [1, 2, 25] [1, 2] ⟨[(1, .ptr 1 0), (2, .ptr 2 0), (25, .p (.s (.bool true)))], [(1, .box 70 [.p (.s (.int .i64 a0.Kind)), .p (.s (.int .u64 a0.Class.a0)), .p (.s (.int .u64 a0.Class.a1)), .p (.s (.int .u64 a0.Class.a2)), .p (.s (.int .u64 a0.Class.a3)), .p (.s (.int .i64 a0.A)), .p (.s (.int .i64 a0.B)), .p (.s (.int .i64 a0.Least)), .p (.s (.int .i64 a0.Most)), .p (.s (.bool a0.Lazy))]), (2, .box 47 [.p (.sl .nil 0 [])])], ⟨[], false⟩, []⟩ (And.intro (Bl b2_3) (trivial)) (by kernel_rfl) (hk true (by first | (rw [b2_3]; rfl) | simp [b2_3]))
    · rcases Bool.eq_false_or_eq_true ((a0.Kind == 4)) with b2_8 | b2_8
      · exact WC.reg (n := 32) hn [(3, .val (.p (.s (.bool false)))), (8, .val (.p (.s (.bool true))))] [1, 2, 25] [1, 2] ⟨[(1, .ptr 1 0), (2, .ptr 2 0), (25, .p (.s (.bool true)))], [(1, .box 70 [.p (.s (.int .i64 a0.Kind)), .p (.s (.int .u64 a0.Class.a0)), .p (.s (.int .u64 a0.Class.a1)), .p (.s (.int .u64 a0.Class.a2)), .p (.s (.int .u64 a0.Class.a3)), .p (.s (.int .i64 a0.A)), .p (.s (.int .i64 a0.B)), .p (.s (.int .i64 a0.Least)), .p (.s (.int .i64 a0.Most)), .p (.s (.bool a0.Lazy))]), (2, .box 47 [.p (.sl .nil 0 [])])], ⟨[], false⟩, []⟩ (And.intro (Bl b2_3) (And.intro (Bl b2_8) (trivial))) (by kernel_rfl) (hk true (by first | (rw [b2_3, b2_8]; rfl) | simp [b2_3, b2_8]))
      · rcases Bool.eq_false_or_eq_true ((a0.Kind == 5)) with b2_13 | b2_13
        · exact WC.reg (n := 32) hn [(3, .val (.p (.s (.bool false)))), (8, .val (.p (.s (.bool false)))), (13, .val (.p (.s (.bool true))))] [1, 2, 25] [1, 2] ⟨[(1, .ptr 1 0), (2, .ptr 2 0), (25, .p (.s (.bool true)))], [(1, .box 70 [.p (.s (.int .i64 a0.Kind)), .p (.s (.int .u64 a0.Class.a0)), .p (.s (.int .u64 a0.Class.a1)), .p (.s (.int .u64 a0.Class.a2)), .p (.s (.int .u64 a0.Class.a3)), .p (.s (.int .i64 a0.A)), .p (.s (.int .i64 a0.B)), .p (.s (.int .i64 a0.Least)), .p (.s (.int .i64 a0.Most)), .p (.s (.bool a0.Lazy))]), (2, .box 47 [.p (.sl .nil 0 [])])], ⟨[], false⟩, []⟩ (And.intro (Bl b2_3) (And.intro (Bl b2_8) (And.intro (Bl b2_13) (trivial)))) (by kernel_rfl) (hk true (by first | (rw [b2_3, b2_8, b2_13]; rfl) | simp [b2_3, b2_8, b2_13]))
        · rcases Bool.eq_false_or_eq_true ((decide (a0.Kind < 1))) with b2_18 | b2_18
          · exact WC.reg (n := 32) hn [(3, .val (.p (.s (.bool false)))), (8, .val (.p (.s (.bool false)))), (13, .val (.p (.s (.bool false)))), (18, .val (.p (.s (.bool true))))] [1, 2, 25] [1, 2] ⟨[(1, .ptr 1 0), (2, .ptr 2 0), (25, .p (.s (.bool true)))], [(1, .box 70 [.p (.s (.int .i64 a0.Kind)), .p (.s (.int .u64 a0.Class.a0)), .p (.s (.int .u64 a0.Class.a1)), .p (.s (.int .u64 a0.Class.a2)), .p (.s (.int .u64 a0.Class.a3)), .p (.s (.int .i64 a0.A)), .p (.s (.int .i64 a0.B)), .p (.s (.int .i64 a0.Least)), .p (.s (.int .i64 a0.Most)), .p (.s (.bool a0.Lazy))]), (2, .box 47 [.p (.sl .nil 0 [])])], ⟨[], false⟩, []⟩ (And.intro (Bl b2_3) (And.intro (Bl b2_8) (And.intro (Bl b2_13) (And.intro (Bl b2_18) (trivial))))) (by kernel_rfl) (hk true (by first | (rw [b2_3, b2_8, b2_13, b2_18]; rfl) | simp [b2_3, b2_8, b2_13, b2_18]))
          · exact WC.reg (n := 32) hn [(3, .val (.p (.s (.bool false)))), (8, .val (.p (.s (.bool false)))), (13, .val (.p (.s (.bool false)))), (18, .val (.p (.s (.bool false))))] [1, 2, 25] [1, 2] ⟨[(1, .ptr 1 0), (2, .ptr 2 0), (25, .p (.s (.bool ((decide (a0.Kind > 7))))))], [(1, .box 70 [.p (.s (.int .i64 a0.Kind)), .p (.s (.int .u64 a0.Class.a0)), .p (.s (.int .u64 a0.Class.a1)), .p (.s (.int .u64 a0.Class.a2)), .p (.s (.int .u64 a0.Class.a3)), .p (.s (.int .i64 a0.A)), .p (.s (.int .i64 a0.B)), .p (.s (.int .i64 a0.Least)), .p (.s (.int .i64 a0.Most)), .p (.s (.bool a0.Lazy))]), (2, .box 47 [.p (.sl .nil 0 [])])], ⟨[], false⟩, []⟩ (And.intro (Bl b2_3) (And.intro (Bl b2_8) (And.intro (Bl b2_13) (And.intro (Bl b2_18) (trivial))))) (by kernel_rfl) (hk ((decide (a0.Kind > 7))) (by first | (rw [b2_3, b2_8, b2_13, b2_18]; rfl) | simp [b2_3, b2_8, b2_13, b2_18]))
  rcases if_or h with ⟨c3, h⟩ | ⟨c3, h⟩
  · refine WC.condT c3 (by kernel_rfl) ?_
    refine WX.seq ?_
    obtain ⟨t4_2, h4_1, h⟩ := bind_some h
    refine WC.reg (n := 32) hn [(0, .co [] [] [] [(26, rowV 70 e_api_Node t4_2.Nodes)] (.agg [.own 26]))] [2] [2, 26] ⟨[(2, .ptr 2 0)], [(2, .box 47 [.own 26]), (26, rowV 70 e_api_Node t4_2.Nodes)], ⟨[], false⟩, []⟩ (And.intro (And.intro ((riddleref05_Empty_ok h4_1).ren 2 26 (by kernel_rfl)) (trivial)) (trivial)) (by kernel_rfl) ?_
    refine WX.ret ?_
    exact WC.outO (by rw [← Option.some.inj h]; kernel_rfl)
  · refine WC.condF c3 (by kernel_rfl) ?_
    refine WX.skip ?_
    refine WX.seq ?_
    refine WC.reg (n := 32) hn [] [1, 2] [1, 2] ⟨[(1, .ptr 1 0), (2, .ptr 2 0)], [(1, .box 70 [.p (.s (.int .i64 a0.Kind)), .p (.s (.int .u64 a0.Class.a0)), .p (.s (.int .u64 a0.Class.a1)), .p (.s (.int .u64 a0.Class.a2)), .p (.s (.int .u64 a0.Class.a3)), .p (.s (.int .i64 0)), .p (.s (.int .i64 a0.B)), .p (.s (.int .i64 a0.Least)), .p (.s (.int .i64 a0.Most)), .p (.s (.bool a0.Lazy))]), (2, .box 47 [.p (.sl .nil 0 [])])], ⟨[], false⟩, []⟩ trivial (by kernel_rfl) ?_
    refine WX.seq ?_
    refine WC.reg (n := 32) hn [] [1, 2] [1, 2] ⟨[(1, .ptr 1 0), (2, .ptr 2 0)], [(1, .box 70 [.p (.s (.int .i64 a0.Kind)), .p (.s (.int .u64 a0.Class.a0)), .p (.s (.int .u64 a0.Class.a1)), .p (.s (.int .u64 a0.Class.a2)), .p (.s (.int .u64 a0.Class.a3)), .p (.s (.int .i64 0)), .p (.s (.int .i64 0)), .p (.s (.int .i64 a0.Least)), .p (.s (.int .i64 a0.Most)), .p (.s (.bool a0.Lazy))]), (2, .box 47 [.p (.sl .nil 0 [])])], ⟨[], false⟩, []⟩ trivial (by kernel_rfl) ?_
    refine WX.seq ?_
    refine WC.reg (n := 32) hn [] [2] [2, 30] ⟨[(2, .ptr 2 0)], [(2, .box 47 [.own 30]), (30, rowV 70 e_api_Node ([(api_Node.mk a0.Kind a0.Class 0 0 a0.Least a0.Most a0.Lazy)]))], ⟨[], false⟩, []⟩ trivial (by kernel_rfl) ?_
    refine WX.ret ?_
    refine WC.ren (n := 32) hn 30 26 (by kernel_rfl) [2] [2, 26] (st' := ⟨[(2, .ptr 2 0)], [(2, .box 47 [.own 26]), (26, rowV 70 e_api_Node ([(api_Node.mk a0.Kind a0.Class 0 0 a0.Least a0.Most a0.Lazy)]))], ⟨[], false⟩, []⟩) (by kernel_rfl) ?_
    exact WC.outO (by rw [← Option.some.inj h]; kernel_rfl)
theorem riddleref05_Leaf_okP {a0 : api_Node} {r : api_Tree} (h : riddleref05_Leaf a0 = some r) : Ans Try.prog 40 [.agg [.s (.int .i64 a0.Kind), .s (.int .u64 a0.Class.a0), .s (.int .u64 a0.Class.a1), .s (.int .u64 a0.Class.a2), .s (.int .u64 a0.Class.a3), .s (.int .i64 a0.A), .s (.int .i64 a0.B), .s (.int .i64 a0.Least), .s (.int .i64 a0.Most), .s (.bool a0.Lazy)]] (.agg [slV e_api_Node r.Nodes]) := AnsO.ans (args := [.agg [.s (.int .i64 a0.Kind), .s (.int .u64 a0.Class.a0), .s (.int .u64 a0.Class.a1), .s (.int .u64 a0.Class.a2), .s (.int .u64 a0.Class.a3), .s (.int .i64 a0.A), .s (.int .i64 a0.B), .s (.int .i64 a0.Least), .s (.int .i64 a0.Most), .s (.bool a0.Lazy)]]) (riddleref05_Leaf_ok h) (by kernel_rfl)
def riddleref14_Tree (k : Nat) (a0 : api_Tide) : Option (api_Tree × Bool) :=
  (riddleref14_Check a0).bind fun t2_2 => (if (t2_2 != 0) = true then some ((api_Tree.mk ([])), false) else (riddleref05_Leaf ((api_Node.mk 2 a0.Class 0 0 0 0 false))).bind fun t5_2 => (riddleref05_Repeat k t5_2 a0.Least ((-1)) false).bind fun t5_4 => some (t5_4, true))
theorem riddleref14_Tree_ok {k : Nat} {a0 : api_Tide} {r : api_Tree × Bool} (h : riddleref14_Tree k a0 = some r) : Ans Try.prog 24 [.agg [.s (.int .u64 a0.Class.a0), .s (.int .u64 a0.Class.a1), .s (.int .u64 a0.Class.a2), .s (.int .u64 a0.Class.a3), .s (.int .i64 a0.Least)]] (.tup [.agg [slV e_api_Node r.1.Nodes], .s (.bool r.2)]) := by
  refine W_fn Try.func24 rfl (by kernel_rfl) (by kernel_rfl) ?_
  intro X hro hn
  unfold riddleref14_Tree at h
  refine WX.seq ?_
  refine WC.reg (n := 15) hn [] [1, 2] [1, 2] ⟨[(1, .ptr 1 0), (2, .ptr 2 0)], [(1, .box 26 [.p (.s (.int .u64 a0.Class.a0)), .p (.s (.int .u64 a0.Class.a1)), .p (.s (.int .u64 a0.Class.a2)), .p (.s (.int .u64 a0.Class.a3)), .p (.s (.int .i64 a0.Least))]), (2, .box 47 [.p (.sl .nil 0 [])])], ⟨[], false⟩, []⟩ trivial (by kernel_rfl) ?_
  refine WX.seq ?_
  refine WX.seq ?_
  obtain ⟨t2_2, h2_1, h⟩ := bind_some h
  refine WC.reg (n := 15) hn [(1, .resP (.s (.int .i64 t2_2)))] [1, 2, 6] [1, 2] ⟨[(1, .ptr 1 0), (2, .ptr 2 0), (6, .p (.s (.bool ((t2_2 != 0)))))], [(1, .box 26 [.p (.s (.int .u64 a0.Class.a0)), .p (.s (.int .u64 a0.Class.a1)), .p (.s (.int .u64 a0.Class.a2)), .p (.s (.int .u64 a0.Class.a3)), .p (.s (.int .i64 a0.Least))]), (2, .box 47 [.p (.sl .nil 0 [])])], ⟨[], false⟩, []⟩ (And.intro ((riddleref14_Check_ok h2_1)) (trivial)) (by kernel_rfl) ?_
  rcases if_or h with ⟨c3, h⟩ | ⟨c3, h⟩
  · refine WC.condT c3 (by kernel_rfl) ?_
    refine WX.seq ?_
    refine WC.reg (n := 15) hn [] [2, 3] [2] ⟨[(2, .ptr 2 0), (3, .p (.s (.bool false)))], [(2, .box 47 [.p (.sl .nil 0 [])])], ⟨[], false⟩, []⟩ trivial (by kernel_rfl) ?_
    refine WX.ret ?_
    exact WC.outP (by rw [← Option.some.inj h]; kernel_rfl)
  · refine WC.condF c3 (by kernel_rfl) ?_
    refine WX.skip ?_
    refine WX.seq ?_
    obtain ⟨t5_2, h5_1, h⟩ := bind_some h
    obtain ⟨t5_4, h5_3, h⟩ := bind_some h
    refine WC.drw (n := 15) hn [(7, [])] [] [(3, .resP (.agg [slV e_api_Node t5_2.Nodes])), (6, .resP (.agg [slV e_api_Node t5_4.Nodes]))] [2, 3] [2] ⟨[(2, .ptr 2 0), (3, .p (.s (.bool true)))], [(2, .box 47 [.p (slV e_api_Node t5_4.Nodes)])], ⟨[], false⟩, []⟩ (And.intro ((riddleref05_Leaf_okP h5_1)) (And.intro ((riddleref05_Repeat_okP h5_3)) (trivial))) (by kernel_rfl) (by kernel_rfl) (by kernel_rfl) (by kernel_rfl) ?_
    refine WX.ret ?_
    exact WC.outP (by rw [← Option.some.inj h]; kernel_rfl)
def tide_Tree (a0 : api_Tide) : Option (api_Tree × Bool) :=
  (tide_Check a0).bind fun t2_2 => (if (t2_2 != 0) = true then some ((api_Tree.mk (([] : List api_Node))), false) else some ((api_Tree.mk ([(api_Node.mk 2 a0.Class 0 0 0 0 false), (api_Node.mk 5 ((Arr4.mk 0 0 0 0)) 0 0 a0.Least ((-1)) false)])), true))
theorem tide_Tree_ok {a0 : api_Tide} {r : api_Tree × Bool} (h : tide_Tree a0 = some r) : AnsO Try.prog 29 [] [.p (.agg [.s (.int .u64 a0.Class.a0), .s (.int .u64 a0.Class.a1), .s (.int .u64 a0.Class.a2), .s (.int .u64 a0.Class.a3), .s (.int .i64 a0.Least)])] [(14, rowV 70 e_api_Node r.1.Nodes)] (.tup [.agg [.own 14], .p (.s (.bool r.2))]) := by
  refine W_fnO [14] Try.func29 rfl (by kernel_rfl) (by kernel_rfl) (by kernel_rfl) (by kernel_rfl) ?_
  intro X hro hn
  unfold tide_Tree at h
  refine WX.seq ?_
  refine WC.reg (n := 16) hn [] [1, 2] [1, 2] ⟨[(1, .ptr 1 0), (2, .ptr 2 0)], [(1, .box 26 [.p (.s (.int .u64 a0.Class.a0)), .p (.s (.int .u64 a0.Class.a1)), .p (.s (.int .u64 a0.Class.a2)), .p (.s (.int .u64 a0.Class.a3)), .p (.s (.int .i64 a0.Least))]), (2, .box 47 [.p (.sl .nil 0 [])])], ⟨[], false⟩, []⟩ trivial (by kernel_rfl) ?_
  refine WX.seq ?_
  refine WX.seq ?_
  obtain ⟨t2_2, h2_1, h⟩ := bind_some h
  refine WC.reg (n := 16) hn [(1, .resP (.s (.int .i64 t2_2)))] [1, 2, 6] [1, 2] ⟨[(1, .ptr 1 0), (2, .ptr 2 0), (6, .p (.s (.bool ((t2_2 != 0)))))], [(1, .box 26 [.p (.s (.int .u64 a0.Class.a0)), .p (.s (.int .u64 a0.Class.a1)), .p (.s (.int .u64 a0.Class.a2)), .p (.s (.int .u64 a0.Class.a3)), .p (.s (.int .i64 a0.Least))]), (2, .box 47 [.p (.sl .nil 0 [])])], ⟨[], false⟩, []⟩ (And.intro ((tide_Check_ok h2_1)) (trivial)) (by kernel_rfl) ?_
  rcases if_or h with ⟨c3, h⟩ | ⟨c3, h⟩
  · refine WC.condT c3 (by kernel_rfl) ?_
    refine WX.seq ?_
    refine WC.reg (n := 16) hn [] [2, 3] [2] ⟨[(2, .ptr 2 0), (3, .p (.s (.bool false)))], [(2, .box 47 [.p (.sl .nil 0 [])])], ⟨[], false⟩, []⟩ trivial (by kernel_rfl) ?_
    refine WX.ret ?_
    refine WC.nil (n := 16) hn [] (some (2, 0)) 14 70 10 (by kernel_rfl) [2, 3] [2, 14] (st' := ⟨[(2, .ptr 2 0), (3, .p (.s (.bool false)))], [(2, .box 47 [.own 14]), (14, rowV 70 e_api_Node (([] : List api_Node)))], ⟨[], false⟩, []⟩) (by kernel_rfl) ?_
    exact WC.outO (by rw [← Option.some.inj h]; kernel_rfl)
  · refine WC.condF c3 (by kernel_rfl) ?_
    refine WX.skip ?_
    refine WX.seq ?_
    refine WC.reg (n := 16) hn [] [2, 3] [2, 14] ⟨[(2, .ptr 2 0), (3, .p (.s (.bool true)))], [(2, .box 47 [.own 14]), (14, rowV 70 e_api_Node ([(api_Node.mk 2 a0.Class 0 0 0 0 false), (api_Node.mk 5 ((Arr4.mk 0 0 0 0)) 0 0 a0.Least ((-1)) false)]))], ⟨[], false⟩, []⟩ trivial (by kernel_rfl) ?_
    refine WX.ret ?_
    exact WC.outO (by rw [← Option.some.inj h]; kernel_rfl)
theorem tide_Tree_okP {a0 : api_Tide} {r : api_Tree × Bool} (h : tide_Tree a0 = some r) : Ans Try.prog 29 [.agg [.s (.int .u64 a0.Class.a0), .s (.int .u64 a0.Class.a1), .s (.int .u64 a0.Class.a2), .s (.int .u64 a0.Class.a3), .s (.int .i64 a0.Least)]] (.tup [.agg [slV e_api_Node r.1.Nodes], .s (.bool r.2)]) := AnsO.ans (args := [.agg [.s (.int .u64 a0.Class.a0), .s (.int .u64 a0.Class.a1), .s (.int .u64 a0.Class.a2), .s (.int .u64 a0.Class.a3), .s (.int .i64 a0.Least)]]) (tide_Tree_ok h) (by kernel_rfl)
def tide_Of (a0 : api_Tree) : Option (api_Tide × Bool) :=
  (if ((a0.Nodes.length : Int) != 2) = true then some ((api_Tide.mk ((Arr4.mk 0 0 0 0)) 0), false) else (at_ a0.Nodes 0).bind fun t5_2 => (at_ a0.Nodes 1).bind fun t5_4 => (tide_Tree ((api_Tide.mk t5_2.Class t5_4.Least))).bind fun t6_2 => (if (!t6_2.2) = true then some ((api_Tide.mk ((Arr4.mk 0 0 0 0)) 0), false) else (at_ a0.Nodes 1).bind fun t10_2 => (at_ t6_2.1.Nodes 1).bind fun t10_4 => (at_ (t6_2.1.Nodes.set (1 : Int).toNat ((api_Node.mk t10_4.Kind t10_4.Class t10_4.A t10_4.B t10_4.Least t10_4.Most t10_2.Lazy))) 0).bind fun t11_2 => (at_ a0.Nodes 0).bind fun t11_4 => ((if (!((t11_2.Kind == t11_4.Kind) && (((t11_2.Class.a0 == t11_4.Class.a0) && ((t11_2.Class.a1 == t11_4.Class.a1) && ((t11_2.Class.a2 == t11_4.Class.a2) && ((t11_2.Class.a3 == t11_4.Class.a3) && true)))) && ((t11_2.A == t11_4.A) && ((t11_2.B == t11_4.B) && ((t11_2.Least == t11_4.Least) && ((t11_2.Most == t11_4.Most) && ((t11_2.Lazy == t11_4.Lazy) && true)))))))) = true then some true else (at_ (t6_2.1.Nodes.set (1 : Int).toNat ((api_Node.mk t10_4.Kind t10_4.Class t10_4.A t10_4.B t10_4.Least t10_4.Most t10_2.Lazy))) 1).bind fun t11_6 => (at_ a0.Nodes 1).bind fun t11_8 => some ((!((t11_6.Kind == t11_8.Kind) && (((t11_6.Class.a0 == t11_8.Class.a0) && ((t11_6.Class.a1 == t11_8.Class.a1) && ((t11_6.Class.a2 == t11_8.Class.a2) && ((t11_6.Class.a3 == t11_8.Class.a3) && true)))) && ((t11_6.A == t11_8.A) && ((t11_6.B == t11_8.B) && ((t11_6.Least == t11_8.Least) && ((t11_6.Most == t11_8.Most) && ((t11_6.Lazy == t11_8.Lazy) && true)))))))))) : Option (Bool)).bind fun v11 => (if v11 = true then some ((api_Tide.mk ((Arr4.mk 0 0 0 0)) 0), false) else some ((api_Tide.mk t5_2.Class t5_4.Least), true))))
theorem tide_Of_ok {a0 : api_Tree} {r : api_Tide × Bool} (h : tide_Of a0 = some r) : Ans Try.prog 30 [.agg [slV e_api_Node a0.Nodes]] (.tup [.agg [.s (.int .u64 r.1.Class.a0), .s (.int .u64 r.1.Class.a1), .s (.int .u64 r.1.Class.a2), .s (.int .u64 r.1.Class.a3), .s (.int .i64 r.1.Least)], .s (.bool r.2)]) := by
  refine W_fn Try.func30 rfl (by kernel_rfl) (by kernel_rfl) ?_
  intro X hro hn
  unfold tide_Of at h
  refine WX.seq ?_
  refine WC.reg (n := 62) hn [] [1, 2] [1, 2] ⟨[(1, .ptr 1 0), (2, .ptr 2 0)], [(1, .box 47 [.p (slV e_api_Node a0.Nodes)]), (2, .box 26 [.p (.s (.int .u64 0)), .p (.s (.int .u64 0)), .p (.s (.int .u64 0)), .p (.s (.int .u64 0)), .p (.s (.int .i64 0))])], ⟨[], false⟩, []⟩ trivial (by kernel_rfl) ?_
  refine WX.seq ?_
  refine WX.seq ?_
  refine WC.reg (n := 62) hn [] [1, 2, 10] [1, 2] ⟨[(1, .ptr 1 0), (2, .ptr 2 0), (10, .p (.s (.bool (((a0.Nodes.length : Int) != 2)))))], [(1, .box 47 [.p (slV e_api_Node a0.Nodes)]), (2, .box 26 [.p (.s (.int .u64 0)), .p (.s (.int .u64 0)), .p (.s (.int .u64 0)), .p (.s (.int .u64 0)), .p (.s (.int .i64 0))])], ⟨[], false⟩, []⟩ trivial (by kernel_rfl) ?_
  rcases if_or h with ⟨c3, h⟩ | ⟨c3, h⟩
  · refine WC.condT c3 (by kernel_rfl) ?_
    refine WX.seq ?_
    refine WC.reg (n := 62) hn [] [2, 3] [2] ⟨[(2, .ptr 2 0), (3, .p (.s (.bool false)))], [(2, .box 26 [.p (.s (.int .u64 0)), .p (.s (.int .u64 0)), .p (.s (.int .u64 0)), .p (.s (.int .u64 0)), .p (.s (.int .i64 0))])], ⟨[], false⟩, []⟩ trivial (by kernel_rfl) ?_
    refine WX.ret ?_
    exact WC.outP (by rw [← Option.some.inj h]; kernel_rfl)
  · refine WC.condF c3 (by kernel_rfl) ?_
    refine WX.skip ?_
    refine WX.seq ?_
    obtain ⟨t5_2, h5_1, h⟩ := bind_some h
    obtain ⟨t5_4, h5_3, h⟩ := bind_some h
    refine WC.drw (n := 62) hn [(12, [])] [4] [(2, .val (.p (.rop (e_api_Node.cells t5_2 ++ encL e_api_Node (a0.Nodes.drop ((0 : Int).toNat + 1)))))), (7, .val (.p (.rop (e_api_Node.cells t5_4 ++ encL e_api_Node (a0.Nodes.drop ((1 : Int).toNat + 1))))))] [1, 2, 4] [1, 2, 4] ⟨[(1, .ptr 1 0), (2, .ptr 2 0), (4, .ptr 4 0)], [(1, .box 47 [.p (slV e_api_Node a0.Nodes)]), (2, .box 26 [.p (.s (.int .u64 0)), .p (.s (.int .u64 0)), .p (.s (.int .u64 0)), .p (.s (.int .u64 0)), .p (.s (.int .i64 0))]), (4, .box 26 [.p (.s (.int .u64 t5_2.Class.a0)), .p (.s (.int .u64 t5_2.Class.a1)), .p (.s (.int .u64 t5_2.Class.a2)), .p (.s (.int .u64 t5_2.Class.a3)), .p (.s (.int .i64 t5_4.Least))])], ⟨[], false⟩, []⟩ (And.intro (Ix e_api_Node h5_1) (And.intro (Ix e_api_Node h5_3) (trivial))) (by kernel_rfl) (by kernel_rfl) (by kernel_rfl) (by kernel_rfl) ?_
    refine WX.seq ?_
    obtain ⟨t6_2, h6_1, h⟩ := bind_some h
    refine WC.reg (n := 62) hn [(1, .co [] [] [] [(25, rowV 70 e_api_Node t6_2.1.Nodes)] (.tup [.agg [.own 25], .p (.s (.bool t6_2.2))]))] [1, 2, 4, 5, 6] [1, 2, 4, 5, 25] ⟨[(1, .ptr 1 0), (2, .ptr 2 0), (4, .ptr 4 0), (5, .ptr 5 0), (6, .p (.s (.bool t6_2.2)))], [(1, .box 47 [.p (slV e_api_Node a0.Nodes)]), (2, .box 26 [.p (.s (.int .u64 0)), .p (.s (.int .u64 0)), .p (.s (.int .u64 0)), .p (.s (.int .u64 0)), .p (.s (.int .i64 0))]), (4, .box 26 [.p (.s (.int .u64 t5_2.Class.a0)), .p (.s (.int .u64 t5_2.Class.a1)), .p (.s (.int .u64 t5_2.Class.a2)), .p (.s (.int .u64 t5_2.Class.a3)), .p (.s (.int .i64 t5_4.Least))]), (5, .box 47 [.own 25]), (25, rowV 70 e_api_Node t6_2.1.Nodes)], ⟨[], false⟩, []⟩ (And.intro (And.intro ((tide_Tree_ok h6_1).ren 14 25 (by kernel_rfl)) (trivial)) (trivial)) (by kernel_rfl) ?_
    refine WX.seq ?_
    refine WX.seq ?_
    refine WC.reg (n := 62) hn [] [1, 2, 4, 5, 29] [1, 2, 4, 5, 25] ⟨[(1, .ptr 1 0), (2, .ptr 2 0), (4, .ptr 4 0), (5, .ptr 5 0), (29, .p (.s (.bool ((!t6_2.2)))))], [(1, .box 47 [.p (slV e_api_Node a0.Nodes)]), (2, .box 26 [.p (.s (.int .u64 0)), .p (.s (.int .u64 0)), .p (.s (.int .u64 0)), .p (.s (.int .u64 0)), .p (.s (.int .i64 0))]), (4, .box 26 [.p (.s (.int .u64 t5_2.Class.a0)), .p (.s (.int .u64 t5_2.Class.a1)), .p (.s (.int .u64 t5_2.Class.a2)), .p (.s (.int .u64 t5_2.Class.a3)), .p (.s (.int .i64 t5_4.Least))]), (5, .box 47 [.own 25]), (25, rowV 70 e_api_Node t6_2.1.Nodes)], ⟨[], false⟩, []⟩ trivial (by kernel_rfl) ?_
    rcases if_or h with ⟨c8, h⟩ | ⟨c8, h⟩
    · refine WC.condT c8 (by kernel_rfl) ?_
      refine WX.seq ?_
      refine WC.reg (n := 62) hn [] [2, 3] [2] ⟨[(2, .ptr 2 0), (3, .p (.s (.bool false)))], [(2, .box 26 [.p (.s (.int .u64 0)), .p (.s (.int .u64 0)), .p (.s (.int .u64 0)), .p (.s (.int .u64 0)), .p (.s (.int .i64 0))])], ⟨[], false⟩, []⟩ trivial (by kernel_rfl) ?_
      refine WX.ret ?_
      exact WC.outP (by rw [← Option.some.inj h]; kernel_rfl)
    · refine WC.condF c8 (by kernel_rfl) ?_
      refine WX.skip ?_
      refine WX.seq ?_
      obtain ⟨t10_2, h10_1, h⟩ := bind_some h
      obtain ⟨t10_4, h10_3, h⟩ := bind_some h
      refine WC.drw (n := 62) hn [(9, [])] [] [(4, .val (.p (.rop (e_api_Node.cells t10_2 ++ encL e_api_Node (a0.Nodes.drop ((1 : Int).toNat + 1)))))), (7, .val (.ptr 25 ((1 : Int).toNat * 10))), (9, .sto 25 (rowV 70 e_api_Node (t6_2.1.Nodes.set (1 : Int).toNat ((api_Node.mk t10_4.Kind t10_4.Class t10_4.A t10_4.B t10_4.Least t10_4.Most t10_2.Lazy)))))] [1, 2, 4, 5] [1, 2, 4, 5, 25] ⟨[(1, .ptr 1 0), (2, .ptr 2 0), (4, .ptr 4 0), (5, .ptr 5 0)], [(1, .box 47 [.p (slV e_api_Node a0.Nodes)]), (2, .box 26 [.p (.s (.int .u64 0)), .p (.s (.int .u64 0)), .p (.s (.int .u64 0)), .p (.s (.int .u64 0)), .p (.s (.int .i64 0))]), (4, .box 26 [.p (.s (.int .u64 t5_2.Class.a0)), .p (.s (.int .u64 t5_2.Class.a1)), .p (.s (.int .u64 t5_2.Class.a2)), .p (.s (.int .u64 t5_2.Class.a3)), .p (.s (.int .i64 t5_4.Least))]), (5, .box 47 [.own 25]), (25, rowV 70 e_api_Node (t6_2.1.Nodes.set (1 : Int).toNat ((api_Node.mk t10_4.Kind t10_4.Class t10_4.A t10_4.B t10_4.Least t10_4.Most t10_2.Lazy))))], ⟨[], false⟩, []⟩ (And.intro (Ix e_api_Node h10_1) (And.intro (IxO 25 10 h10_3) (And.intro (StO e_api_Node 25 70 10 1 9 [.s (.bool t10_2.Lazy)] ((api_Node.mk t10_4.Kind t10_4.Class t10_4.A t10_4.B t10_4.Least t10_4.Most t10_2.Lazy)) h10_3 rfl rfl (by decide)) (trivial)))) (by kernel_rfl) (by kernel_rfl) (by kernel_rfl) (by kernel_rfl) ?_
      refine WX.seq ?_
      refine WX.seq ?_
      obtain ⟨t11_2, h11_1, h⟩ := bind_some h
      obtain ⟨t11_4, h11_3, h⟩ := bind_some h
      obtain ⟨m11_1, g11, h⟩ := bind_some h
      refine WC.via (α := Bool) (fun v11 => ⟨[(2, .ptr 2 0), (4, .ptr 4 0), (59, .p (.s (.bool v11)))], [(2, .box 26 [.p (.s (.int .u64 0)), .p (.s (.int .u64 0)), .p (.s (.int .u64 0)), .p (.s (.int .u64 0)), .p (.s (.int .i64 0))]), (4, .box 26 [.p (.s (.int .u64 t5_2.Class.a0)), .p (.s (.int .u64 t5_2.Class.a1)), .p (.s (.int .u64 t5_2.Class.a2)), .p (.s (.int .u64 t5_2.Class.a3)), .p (.s (.int .i64 t5_4.Least))])], ⟨[], false⟩, []⟩) m11_1 (fun hk => ?_) ?_
      · rcases if_or g11 with ⟨b11_9, g11⟩ | ⟨b11_9, g11⟩
        · exact WC.drw (n := 62) hn [] [] [(2, .val (.ptr 25 ((0 : Int).toNat * 10))), (3, .val (.p (.agg [.s (.int .i64 t11_2.Kind), .s (.int .u64 t11_2.Class.a0), .s (.int .u64 t11_2.Class.a1), .s (.int .u64 t11_2.Class.a2), .s (.int .u64 t11_2.Class.a3), .s (.int .i64 t11_2.A), .s (.int .i64 t11_2.B), .s (.int .i64 t11_2.Least), .s (.int .i64 t11_2.Most), .s (.bool t11_2.Lazy)]))), (6, .val (.p (.rop (e_api_Node.cells t11_4 ++ encL e_api_Node (a0.Nodes.drop ((0 : Int).toNat + 1)))))), (9, .val (.p (.s (.bool true))))] [2, 4, 59] [2, 4] ⟨[(2, .ptr 2 0), (4, .ptr 4 0), (59, .p (.s (.bool true)))], [(2, .box 26 [.p (.s (.int .u64 0)), .p (.s (.int .u64 0)), .p (.s (.int .u64 0)), .p (.s (.int .u64 0)), .p (.s (.int .i64 0))]), (4, .box 26 [.p (.s (.int .u64 t5_2.Class.a0)), .p (.s (.int .u64 t5_2.Class.a1)), .p (.s (.int .u64 t5_2.Class.a2)), .p (.s (.int .u64 t5_2.Class.a3)), .p (.s (.int .i64 t5_4.Least))])], ⟨[], false⟩, []⟩ (And.intro (IxO 25 10 h11_1) (And.intro (LdO0 Try.prog e_api_Node 70 h11_1) (And.intro (Ix e_api_Node h11_3) (And.intro (Bl b11_9) (trivial))))) (by kernel_rfl) (by kernel_rfl) (by kernel_rfl) (by kernel_rfl) (hk true (Option.some.inj g11))
        · obtain ⟨t11_6, h11_5, g11⟩ := bind_some g11
          obtain ⟨t11_8, h11_7, g11⟩ := bind_some g11
          exact WC.drw (n := 62) hn [] [] [(2, .val (.ptr 25 ((0 : Int).toNat * 10))), (3, .val (.p (.agg [.s (.int .i64 t11_2.Kind), .s (.int .u64 t11_2.Class.a0), .s (.int .u64 t11_2.Class.a1), .s (.int .u64 t11_2.Class.a2), .s (.int .u64 t11_2.Class.a3), .s (.int .i64 t11_2.A), .s (.int .i64 t11_2.B), .s (.int .i64 t11_2.Least), .s (.int .i64 t11_2.Most), .s (.bool t11_2.Lazy)]))), (6, .val (.p (.rop (e_api_Node.cells t11_4 ++ encL e_api_Node (a0.Nodes.drop ((0 : Int).toNat + 1)))))), (9, .val (.p (.s (.bool false)))), (12, .val (.ptr 25 ((1 : Int).toNat * 10))), (13, .val (.p (.agg [.s (.int .i64 t11_6.Kind), .s (.int .u64 t11_6.Class.a0), .s (.int .u64 t11_6.Class.a1), .s (.int .u64 t11_6.Class.a2), .s (.int .u64 t11_6.Class.a3), .s (.int .i64 t11_6.A), .s (.int .i64 t11_6.B), .s (.int .i64 t11_6.Least), .s (.int .i64 t11_6.Most), .s (.bool t11_6.Lazy)]))), (16, .val (.p (.rop (e_api_Node.cells t11_8 ++ encL e_api_Node (a0.Nodes.drop ((1 : Int).toNat + 1))))))] [2, 4, 59] [2, 4] ⟨[(2, .ptr 2 0), (4, .ptr 4 0), (59, .p (.s (.bool ((!((t11_6.Kind == t11_8.Kind) && (((t11_6.Class.a0 == t11_8.Class.a0) && ((t11_6.Class.a1 == t11_8.Class.a1) && ((t11_6.Class.a2 == t11_8.Class.a2) && ((t11_6.Class.a3 == t11_8.Class.a3) && true)))) && ((t11_6.A == t11_8.A) && ((t11_6.B == t11_8.B) && ((t11_6.Least == t11_8.Least) && ((t11_6.Most == t11_8.Most) && ((t11_6.Lazy == t11_8.Lazy) && true))))))))))))], [(2, .box 26 [.p (.s (.int .u64 0)), .p (.s (.int .u64 0)), .p (.s (.int .u64 0)), .p (.s (.int .u64 0)), .p (.s (.int .i64 0))]), (4, .box 26 [.p (.s (.int .u64 t5_2.Class.a0)), .p (.s (.int .u64 t5_2.Class.a1)), .p (.s (.int .u64 t5_2.Class.a2)), .p (.s (.int .u64 t5_2.Class.a3)), .p (.s (.int .i64 t5_4.Least))])], ⟨[], false⟩, []⟩ (And.intro (IxO 25 10 h11_1) (And.intro (LdO0 Try.prog e_api_Node 70 h11_1) (And.intro (Ix e_api_Node h11_3) (And.intro (Bl b11_9) (And.intro (IxO 25 10 h11_5) (And.intro (LdO0 Try.prog e_api_Node 70 h11_5) (And.intro (Ix e_api_Node h11_7) (trivial)))))))) (by kernel_rfl) (by kernel_rfl) (by kernel_rfl) (by kernel_rfl) (hk ((!((t11_6.Kind == t11_8.Kind) && (((t11_6.Class.a0 == t11_8.Class.a0) && ((t11_6.Class.a1 == t11_8.Class.a1) && ((t11_6.Class.a2 == t11_8.Class.a2) && ((t11_6.Class.a3 == t11_8.Class.a3) && true)))) && ((t11_6.A == t11_8.A) && ((t11_6.B == t11_8.B) && ((t11_6.Least == t11_8.Least) && ((t11_6.Most == t11_8.Most) && ((t11_6.Lazy == t11_8.Lazy) && true))))))))) (Option.some.inj g11))
      rcases if_or h with ⟨c12, h⟩ | ⟨c12, h⟩
      · refine WC.condT c12 (by kernel_rfl) ?_
        refine WX.seq ?_
        refine WC.reg (n := 62) hn [] [2, 3] [2] ⟨[(2, .ptr 2 0), (3, .p (.s (.bool false)))], [(2, .box 26 [.p (.s (.int .u64 0)), .p (.s (.int .u64 0)), .p (.s (.int .u64 0)), .p (.s (.int .u64 0)), .p (.s (.int .i64 0))])], ⟨[], false⟩, []⟩ trivial (by kernel_rfl) ?_
        refine WX.ret ?_
        exact WC.outP (by rw [← Option.some.inj h]; kernel_rfl)
      · refine WC.condF c12 (by kernel_rfl) ?_
        refine WX.skip ?_
        refine WX.seq ?_
        refine WC.reg (n := 62) hn [] [2, 3] [2] ⟨[(2, .ptr 2 0), (3, .p (.s (.bool true)))], [(2, .box 26 [.p (.s (.int .u64 t5_2.Class.a0)), .p (.s (.int .u64 t5_2.Class.a1)), .p (.s (.int .u64 t5_2.Class.a2)), .p (.s (.int .u64 t5_2.Class.a3)), .p (.s (.int .i64 t5_4.Least))])], ⟨[], false⟩, []⟩ trivial (by kernel_rfl) ?_
        refine WX.ret ?_
        exact WC.outP (by rw [← Option.some.inj h]; kernel_rfl)
def riddleref05_Same_l0 (a0 : api_Tree) (a1 : api_Tree) (J6 : Unit → Option (Bool)) : Nat → Int → Option (Bool)
  | 0, _ => none
  | k + 1, x21_1_1 => (if (decide (x21_1_1 < (a0.Nodes.length : Int))) = true then (at_ a0.Nodes x21_1_1).bind fun t36_2 => (at_ a1.Nodes x21_1_1).bind fun t36_4 => (if (!((t36_2.Kind == t36_4.Kind) && (((t36_2.Class.a0 == t36_4.Class.a0) && ((t36_2.Class.a1 == t36_4.Class.a1) && ((t36_2.Class.a2 == t36_4.Class.a2) && ((t36_2.Class.a3 == t36_4.Class.a3) && true)))) && ((t36_2.A == t36_4.A) && ((t36_2.B == t36_4.B) && ((t36_2.Least == t36_4.Least) && ((t36_2.Most == t36_4.Most) && ((t36_2.Lazy == t36_4.Lazy) && true)))))))) = true then some false else riddleref05_Same_l0 a0 a1 J6 k ((IntKind.i64.wrap (x21_1_1 + 1)))) else J6 ())
def riddleref05_Same (k : Nat) (a0 : api_Tree) (a1 : api_Tree) : Option (Bool) :=
  (if ((a0.Nodes.length : Int) != (a1.Nodes.length : Int)) = true then some false else jn (fun (v6 : Unit) => some true) fun J6 => riddleref05_Same_l0 a0 a1 J6 k 0)
theorem riddleref05_Same_ok {k : Nat} {a0 : api_Tree} {a1 : api_Tree} {r : Bool} (h : riddleref05_Same k a0 a1 = some r) : Ans Try.prog 32 [.agg [slV e_api_Node a0.Nodes], .agg [slV e_api_Node a1.Nodes]] (.s (.bool r)) := by
  refine W_fn Try.func32 rfl (by kernel_rfl) (by kernel_rfl) ?_
  intro X hro hn
  unfold riddleref05_Same at h
  refine WX.seq ?_
  refine WC.reg (n := 31) hn [] [2, 3] [2, 3] ⟨[(2, .ptr 2 0), (3, .ptr 3 0)], [(2, .box 47 [.p (slV e_api_Node a0.Nodes)]), (3, .box 47 [.p (slV e_api_Node a1.Nodes)])], ⟨[], false⟩, []⟩ trivial (by kernel_rfl) ?_
  refine WX.seq ?_
  refine WX.seq ?_
  refine WC.reg (n := 31) hn [] [2, 3, 12] [2, 3] ⟨[(2, .ptr 2 0), (3, .ptr 3 0), (12, .p (.s (.bool (((a0.Nodes.length : Int) != (a1.Nodes.length : Int))))))], [(2, .box 47 [.p (slV e_api_Node a0.Nodes)]), (3, .box 47 [.p (slV e_api_Node a1.Nodes)])], ⟨[], false⟩, []⟩ trivial (by kernel_rfl) ?_
  rcases if_or h with ⟨c3, h⟩ | ⟨c3, h⟩
  · refine WC.condT c3 (by kernel_rfl) ?_
    refine WX.seq ?_
    refine WC.reg (n := 31) hn [] [4] [] ⟨[(4, .p (.s (.bool false)))], [], ⟨[], false⟩, []⟩ trivial (by kernel_rfl) ?_
    refine WX.ret ?_
    exact WC.outP (by rw [← Option.some.inj h]; kernel_rfl)
  · refine WC.condF c3 (by kernel_rfl) ?_
    refine WX.skip ?_
    refine WX.seq ?_
    refine WX.seq ?_
    refine WC.reg (n := 31) hn [] [2, 3, 5] [2, 3] ⟨[(2, .ptr 2 0), (3, .ptr 3 0), (5, .p (.s (.int .i64 0)))], [(2, .box 47 [.p (slV e_api_Node a0.Nodes)]), (3, .box 47 [.p (slV e_api_Node a1.Nodes)])], ⟨[], false⟩, []⟩ trivial (by kernel_rfl) ?_
    obtain ⟨J6, eJ6, h⟩ := jn_some h
    try dsimp only at h
    refine WC.join (α := Unit) (fun v6 => ⟨[], [], ⟨[], false⟩, []⟩) (fun v6 => J6 v6 = some r) ?_ (fun hJ6 => ?_)
    · rintro _ h
      rw [eJ6] at h
      try dsimp only at h
      refine WX.seq ?_
      refine WC.reg (n := 31) hn [] [4] [] ⟨[(4, .p (.s (.bool true)))], [], ⟨[], false⟩, []⟩ trivial (by kernel_rfl) ?_
      refine WX.ret ?_
      exact WC.outP (by rw [← Option.some.inj h]; kernel_rfl)
    · skip
      refine WX.block ?_
      refine WC.loop (V := Int) (riddleref05_Same_l0 a0 a1 J6) r (fun v21 => ⟨[(2, .ptr 2 0), (3, .ptr 3 0), (5, .p (.s (.int .i64 v21)))], [(2, .box 47 [.p (slV e_api_Node a0.Nodes)]), (3, .box 47 [.p (slV e_api_Node a1.Nodes)])], ⟨[], false⟩, []⟩) _ 0 h (fun _ => rfl) [2, 3, 5] [2, 3] (by kernel_rfl) ?_
      clear h; rintro k x21_1_1 h K21 hnext21 hexit21
      rw [riddleref05_Same_l0] at h
      refine WX.seq ?_
      refine WX.seq ?_
      refine WC.reg (n := 31) hn [] [2, 3, 5, 17] [2, 3] ⟨[(2, .ptr 2 0), (3, .ptr 3 0), (5, .p (.s (.int .i64 x21_1_1))), (17, .p (.s (.bool ((decide (x21_1_1 < (a0.Nodes.length : Int)))))))], [(2, .box 47 [.p (slV e_api_Node a0.Nodes)]), (3, .box 47 [.p (slV e_api_Node a1.Nodes)])], ⟨[], false⟩, []⟩ trivial (by kernel_rfl) ?_
      rcases if_or h with ⟨c35, h⟩ | ⟨c35, h⟩
      · refine WC.condT c35 (by kernel_rfl) ?_
        refine WX.skip ?_
        refine WX.seq ?_
        refine WX.block ?_
        refine WX.seq ?_
        obtain ⟨t36_2, h36_1, h⟩ := bind_some h
        obtain ⟨t36_4, h36_3, h⟩ := bind_some h
        refine WC.drw (n := 31) hn [] [] [(3, .val (.p (.rop (e_api_Node.cells t36_2 ++ encL e_api_Node (a0.Nodes.drop (x21_1_1.toNat + 1)))))), (8, .val (.p (.rop (e_api_Node.cells t36_4 ++ encL e_api_Node (a1.Nodes.drop (x21_1_1.toNat + 1))))))] [2, 3, 5, 30] [2, 3] ⟨[(2, .ptr 2 0), (3, .ptr 3 0), (5, .p (.s (.int .i64 x21_1_1))), (30, .p (.s (.bool ((!((t36_2.Kind == t36_4.Kind) && (((t36_2.Class.a0 == t36_4.Class.a0) && ((t36_2.Class.a1 == t36_4.Class.a1) && ((t36_2.Class.a2 == t36_4.Class.a2) && ((t36_2.Class.a3 == t36_4.Class.a3) && true)))) && ((t36_2.A == t36_4.A) && ((t36_2.B == t36_4.B) && ((t36_2.Least == t36_4.Least) && ((t36_2.Most == t36_4.Most) && ((t36_2.Lazy == t36_4.Lazy) && true))))))))))))], [(2, .box 47 [.p (slV e_api_Node a0.Nodes)]), (3, .box 47 [.p (slV e_api_Node a1.Nodes)])], ⟨[], false⟩, []⟩ (And.intro (Ix e_api_Node h36_1) (And.intro (Ix e_api_Node h36_3) (trivial))) (by kernel_rfl) (by kernel_rfl) (by kernel_rfl) (by kernel_rfl) ?_
        rcases if_or h with ⟨c37, h⟩ | ⟨c37, h⟩
        · refine WC.condT c37 (by kernel_rfl) ?_
          refine WX.seq ?_
          refine WC.reg (n := 31) hn [] [4] [] ⟨[(4, .p (.s (.bool false)))], [], ⟨[], false⟩, []⟩ trivial (by kernel_rfl) ?_
          refine WX.ret ?_
          refine WC.ret_all (hexit21 _ _ (by simp) ?_)
          exact WC.outP (by rw [← Option.some.inj h]; kernel_rfl)
        · refine WC.condF c37 (by kernel_rfl) ?_
          refine WX.skip ?_
          refine WX.popBlk ?_
          refine WC.reg (n := 31) hn [] [2, 3, 5] [2, 3] ⟨[(2, .ptr 2 0), (3, .ptr 3 0), (5, .p (.s (.int .i64 ((IntKind.i64.wrap (x21_1_1 + 1))))))], [(2, .box 47 [.p (slV e_api_Node a0.Nodes)]), (3, .box 47 [.p (slV e_api_Node a1.Nodes)])], ⟨[], false⟩, []⟩ trivial (by kernel_rfl) ?_
          exact WC.next [2, 3, 5] [2, 3] (by kernel_rfl) (hnext21 ((IntKind.i64.wrap (x21_1_1 + 1))) h)
      · refine WC.condF c35 (by kernel_rfl) ?_
        refine WX.exit ?_
        refine WX.popCodeExit ?_
        refine WC.exit_nil (hexit21 _ _ (by simp) ?_)
        refine WX.popBlkHit ?_
        exact WC.keep [] [] (by kernel_rfl) (hJ6 () h)
def riddleref14_Of (k : Nat) (a0 : api_Tree) : Option (api_Tide × Bool) :=
  (if ((a0.Nodes.length : Int) != 2) = true then some ((api_Tide.mk ((Arr4.mk 0 0 0 0)) 0), false) else (at_ a0.Nodes 0).bind fun t5_2 => (at_ a0.Nodes 1).bind fun t5_4 => (if okApp 80 (([] : List api_Node).length + a0.Nodes.length) then (at_ (([] : List api_Node) ++ a0.Nodes) 1).bind fun t7_2 => (riddleref14_Tree k ((api_Tide.mk t5_2.Class t5_4.Least))).bind fun t8_2 => ((if (!t8_2.2) = true then some true else (riddleref05_Same k ((api_Tree.mk ((([] : List api_Node) ++ a0.Nodes).set (1 : Int).toNat ((api_Node.mk t7_2.Kind t7_2.Class t7_2.A t7_2.B t7_2.Least t7_2.Most false))))) t8_2.1).bind fun t9_2 => some ((!t9_2))) : Option (Bool)).bind fun v9 => (if v9 = true then some ((api_Tide.mk ((Arr4.mk 0 0 0 0)) 0), false) else some ((api_Tide.mk t5_2.Class t5_4.Least), true)) else none))
theorem riddleref14_Of_ok {k : Nat} {a0 : api_Tree} {r : api_Tide × Bool} (h : riddleref14_Of k a0 = some r) : Ans Try.prog 31 [.agg [slV e_api_Node a0.Nodes]] (.tup [.agg [.s (.int .u64 r.1.Class.a0), .s (.int .u64 r.1.Class.a1), .s (.int .u64 r.1.Class.a2), .s (.int .u64 r.1.Class.a3), .s (.int .i64 r.1.Least)], .s (.bool r.2)]) := by
  refine W_fn Try.func31 rfl (by kernel_rfl) (by kernel_rfl) ?_
  intro X hro hn
  unfold riddleref14_Of at h
  refine WX.seq ?_
  refine WC.reg (n := 46) hn [] [1, 2] [1, 2] ⟨[(1, .ptr 1 0), (2, .ptr 2 0)], [(1, .box 47 [.p (slV e_api_Node a0.Nodes)]), (2, .box 26 [.p (.s (.int .u64 0)), .p (.s (.int .u64 0)), .p (.s (.int .u64 0)), .p (.s (.int .u64 0)), .p (.s (.int .i64 0))])], ⟨[], false⟩, []⟩ trivial (by kernel_rfl) ?_
  refine WX.seq ?_
  refine WX.seq ?_
  refine WC.reg (n := 46) hn [] [1, 2, 10] [1, 2] ⟨[(1, .ptr 1 0), (2, .ptr 2 0), (10, .p (.s (.bool (((a0.Nodes.length : Int) != 2)))))], [(1, .box 47 [.p (slV e_api_Node a0.Nodes)]), (2, .box 26 [.p (.s (.int .u64 0)), .p (.s (.int .u64 0)), .p (.s (.int .u64 0)), .p (.s (.int .u64 0)), .p (.s (.int .i64 0))])], ⟨[], false⟩, []⟩ trivial (by kernel_rfl) ?_
  rcases if_or h with ⟨c3, h⟩ | ⟨c3, h⟩
  · refine WC.condT c3 (by kernel_rfl) ?_
    refine WX.seq ?_
    refine WC.reg (n := 46) hn [] [2, 3] [2] ⟨[(2, .ptr 2 0), (3, .p (.s (.bool false)))], [(2, .box 26 [.p (.s (.int .u64 0)), .p (.s (.int .u64 0)), .p (.s (.int .u64 0)), .p (.s (.int .u64 0)), .p (.s (.int .i64 0))])], ⟨[], false⟩, []⟩ trivial (by kernel_rfl) ?_
    refine WX.ret ?_
    exact WC.outP (by rw [← Option.some.inj h]; kernel_rfl)
  · refine WC.condF c3 (by kernel_rfl) ?_
    refine WX.skip ?_
    refine WX.seq ?_
    obtain ⟨t5_2, h5_1, h⟩ := bind_some h
    obtain ⟨t5_4, h5_3, h⟩ := bind_some h
    refine WC.drw (n := 46) hn [(12, [])] [4] [(2, .val (.p (.rop (e_api_Node.cells t5_2 ++ encL e_api_Node (a0.Nodes.drop ((0 : Int).toNat + 1)))))), (7, .val (.p (.rop (e_api_Node.cells t5_4 ++ encL e_api_Node (a0.Nodes.drop ((1 : Int).toNat + 1))))))] [1, 2, 4] [1, 2, 4] ⟨[(1, .ptr 1 0), (2, .ptr 2 0), (4, .ptr 4 0)], [(1, .box 47 [.p (slV e_api_Node a0.Nodes)]), (2, .box 26 [.p (.s (.int .u64 0)), .p (.s (.int .u64 0)), .p (.s (.int .u64 0)), .p (.s (.int .u64 0)), .p (.s (.int .i64 0))]), (4, .box 26 [.p (.s (.int .u64 t5_2.Class.a0)), .p (.s (.int .u64 t5_2.Class.a1)), .p (.s (.int .u64 t5_2.Class.a2)), .p (.s (.int .u64 t5_2.Class.a3)), .p (.s (.int .i64 t5_4.Least))])], ⟨[], false⟩, []⟩ (And.intro (Ix e_api_Node h5_1) (And.intro (Ix e_api_Node h5_3) (trivial))) (by kernel_rfl) (by kernel_rfl) (by kernel_rfl) (by kernel_rfl) ?_
    refine WX.seq ?_
    obtain ⟨c6_1, h⟩ := if_some h
    refine WC.reg (n := 46) hn [(2, .app none (rowV 70 e_api_Node (([] : List api_Node) ++ a0.Nodes)))] [1, 2, 4] [1, 2, 4, 25] ⟨[(1, .ptr 1 0), (2, .ptr 2 0), (4, .ptr 4 0)], [(1, .box 47 [.own 25]), (2, .box 26 [.p (.s (.int .u64 0)), .p (.s (.int .u64 0)), .p (.s (.int .u64 0)), .p (.s (.int .u64 0)), .p (.s (.int .i64 0))]), (4, .box 26 [.p (.s (.int .u64 t5_2.Class.a0)), .p (.s (.int .u64 t5_2.Class.a1)), .p (.s (.int .u64 t5_2.Class.a2)), .p (.s (.int .u64 t5_2.Class.a3)), .p (.s (.int .i64 t5_4.Least))]), (25, rowV 70 e_api_Node (([] : List api_Node) ++ a0.Nodes))], ⟨[], false⟩, []⟩ (And.intro (ApS e_api_Node none 70 80 ([] : List api_Node) a0.Nodes c6_1) (trivial)) (by kernel_rfl) ?_
    refine WX.seq ?_
    obtain ⟨t7_2, h7_1, h⟩ := bind_some h
    refine WC.reg (n := 46) hn [(2, .val (.ptr 25 ((1 : Int).toNat * 10))), (4, .sto 25 (rowV 70 e_api_Node ((([] : List api_Node) ++ a0.Nodes).set (1 : Int).toNat ((api_Node.mk t7_2.Kind t7_2.Class t7_2.A t7_2.B t7_2.Least t7_2.Most false)))))] [1, 2, 4] [1, 2, 4, 25] ⟨[(1, .ptr 1 0), (2, .ptr 2 0), (4, .ptr 4 0)], [(1, .box 47 [.own 25]), (2, .box 26 [.p (.s (.int .u64 0)), .p (.s (.int .u64 0)), .p (.s (.int .u64 0)), .p (.s (.int .u64 0)), .p (.s (.int .i64 0))]), (4, .box 26 [.p (.s (.int .u64 t5_2.Class.a0)), .p (.s (.int .u64 t5_2.Class.a1)), .p (.s (.int .u64 t5_2.Class.a2)), .p (.s (.int .u64 t5_2.Class.a3)), .p (.s (.int .i64 t5_4.Least))]), (25, rowV 70 e_api_Node ((([] : List api_Node) ++ a0.Nodes).set (1 : Int).toNat ((api_Node.mk t7_2.Kind t7_2.Class t7_2.A t7_2.B t7_2.Least t7_2.Most false))))], ⟨[], false⟩, []⟩ (And.intro (IxO 25 10 h7_1) (And.intro (StO e_api_Node 25 70 10 1 9 [.s (.bool false)] ((api_Node.mk t7_2.Kind t7_2.Class t7_2.A t7_2.B t7_2.Least t7_2.Most false)) h7_1 rfl rfl (by decide)) (trivial))) (by kernel_rfl) ?_
    refine WX.seq ?_
    obtain ⟨t8_2, h8_1, h⟩ := bind_some h
    refine WC.reg (n := 46) hn [(1, .resP (.tup [.agg [slV e_api_Node t8_2.1.Nodes], .s (.bool t8_2.2)]))] [1, 2, 4, 5, 6] [1, 2, 4, 5, 25] ⟨[(1, .ptr 1 0), (2, .ptr 2 0), (4, .ptr 4 0), (5, .ptr 5 0), (6, .p (.s (.bool t8_2.2)))], [(1, .box 47 [.own 25]), (2, .box 26 [.p (.s (.int .u64 0)), .p (.s (.int .u64 0)), .p (.s (.int .u64 0)), .p (.s (.int .u64 0)), .p (.s (.int .i64 0))]), (4, .box 26 [.p (.s (.int .u64 t5_2.Class.a0)), .p (.s (.int .u64 t5_2.Class.a1)), .p (.s (.int .u64 t5_2.Class.a2)), .p (.s (.int .u64 t5_2.Class.a3)), .p (.s (.int .i64 t5_4.Least))]), (5, .box 47 [.p (slV e_api_Node t8_2.1.Nodes)]), (25, rowV 70 e_api_Node ((([] : List api_Node) ++ a0.Nodes).set (1 : Int).toNat ((api_Node.mk t7_2.Kind t7_2.Class t7_2.A t7_2.B t7_2.Least t7_2.Most false))))], ⟨[], false⟩, []⟩ (And.intro ((riddleref14_Tree_ok h8_1)) (trivial)) (by kernel_rfl) ?_
    refine WX.seq ?_
    refine WX.seq ?_
    obtain ⟨m9_1, g9, h⟩ := bind_some h
    refine WC.via (α := Bool) (fun v9 => ⟨[(2, .ptr 2 0), (4, .ptr 4 0), (43, .p (.s (.bool v9)))], [(2, .box 26 [.p (.s (.int .u64 0)), .p (.s (.int .u64 0)), .p (.s (.int .u64 0)), .p (.s (.int .u64 0)), .p (.s (.int .i64 0))]), (4, .box 26 [.p (.s (.int .u64 t5_2.Class.a0)), .p (.s (.int .u64 t5_2.Class.a1)), .p (.s (.int .u64 t5_2.Class.a2)), .p (.s (.int .u64 t5_2.Class.a3)), .p (.s (.int .i64 t5_4.Least))])], ⟨[], false⟩, []⟩) m9_1 (fun hk => ?_) ?_
    · rcases if_or g9 with ⟨b9_2, g9⟩ | ⟨b9_2, g9⟩
      · exact WC.reg (n := 46) hn [(2, .val (.p (.s (.bool true))))] [2, 4, 43] [2, 4] ⟨[(2, .ptr 2 0), (4, .ptr 4 0), (43, .p (.s (.bool true)))], [(2, .box 26 [.p (.s (.int .u64 0)), .p (.s (.int .u64 0)), .p (.s (.int .u64 0)), .p (.s (.int .u64 0)), .p (.s (.int .i64 0))]), (4, .box 26 [.p (.s (.int .u64 t5_2.Class.a0)), .p (.s (.int .u64 t5_2.Class.a1)), .p (.s (.int .u64 t5_2.Class.a2)), .p (.s (.int .u64 t5_2.Class.a3)), .p (.s (.int .i64 t5_4.Least))])], ⟨[], false⟩, []⟩ (And.intro (Bl b9_2) (trivial)) (by kernel_rfl) (hk true (Option.some.inj g9))
      · obtain ⟨t9_2, h9_1, g9⟩ := bind_some g9
        exact WC.reg (n := 46) hn [(2, .val (.p (.s (.bool false)))), (5, .res (.s (.bool t9_2)))] [2, 4, 43] [2, 4] ⟨[(2, .ptr 2 0), (4, .ptr 4 0), (43, .p (.s (.bool ((!t9_2)))))], [(2, .box 26 [.p (.s (.int .u64 0)), .p (.s (.int .u64 0)), .p (.s (.int .u64 0)), .p (.s (.int .u64 0)), .p (.s (.int .i64 0))]), (4, .box 26 [.p (.s (.int .u64 t5_2.Class.a0)), .p (.s (.int .u64 t5_2.Class.a1)), .p (.s (.int .u64 t5_2.Class.a2)), .p (.s (.int .u64 t5_2.Class.a3)), .p (.s (.int .i64 t5_4.Least))])], ⟨[], false⟩, []⟩ (And.intro (Bl b9_2) (And.intro (And.intro (riddleref05_Same_ok h9_1) (rfl : (.s (.bool t9_2) : PV).flat = true)) (trivial))) (by kernel_rfl) (hk ((!t9_2)) (Option.some.inj g9))
    rcases if_or h with ⟨c10, h⟩ | ⟨c10, h⟩
    · refine WC.condT c10 (by kernel_rfl) ?_
      refine WX.seq ?_
      refine WC.reg (n := 46) hn [] [2, 3] [2] ⟨[(2, .ptr 2 0), (3, .p (.s (.bool false)))], [(2, .box 26 [.p (.s (.int .u64 0)), .p (.s (.int .u64 0)), .p (.s (.int .u64 0)), .p (.s (.int .u64 0)), .p (.s (.int .i64 0))])], ⟨[], false⟩, []⟩ trivial (by kernel_rfl) ?_
      refine WX.ret ?_
      exact WC.outP (by rw [← Option.some.inj h]; kernel_rfl)
    · refine WC.condF c10 (by kernel_rfl) ?_
      refine WX.skip ?_
      refine WX.seq ?_
      refine WC.reg (n := 46) hn [] [2, 3] [2] ⟨[(2, .ptr 2 0), (3, .p (.s (.bool true)))], [(2, .box 26 [.p (.s (.int .u64 t5_2.Class.a0)), .p (.s (.int .u64 t5_2.Class.a1)), .p (.s (.int .u64 t5_2.Class.a2)), .p (.s (.int .u64 t5_2.Class.a3)), .p (.s (.int .i64 t5_4.Least))])], ⟨[], false⟩, []⟩ trivial (by kernel_rfl) ?_
      refine WX.ret ?_
      exact WC.outP (by rw [← Option.some.inj h]; kernel_rfl)
def riddlelaw14_TideTree (k : Nat) (a0 : api_Tide) (a1 : api_Tree) : Option (Bool) :=
  (tide_Tree a0).bind fun t2_2 => (riddleref14_Tree k a0).bind fun t3_2 => (tide_Of a1).bind fun t4_2 => (riddleref14_Of k a1).bind fun t5_2 => (riddlelaw14_begun k).bind fun t6_2 => ((if (!t6_2) = true then some true else (riddleref05_Same k t2_2.1 t3_2.1).bind fun t6_4 => (if (!t6_4) = true then some true else (if (t2_2.2 != t3_2.2) = true then some true else (if (!(((t4_2.1.Class.a0 == t5_2.1.Class.a0) && ((t4_2.1.Class.a1 == t5_2.1.Class.a1) && ((t4_2.1.Class.a2 == t5_2.1.Class.a2) && ((t4_2.1.Class.a3 == t5_2.1.Class.a3) && true)))) && ((t4_2.1.Least == t5_2.1.Least) && true))) = true then some true else some ((t4_2.2 != t5_2.2)))))) : Option (Bool)).bind fun v6 => (if v6 = true then some false else (if t2_2.2 = true then (tide_Of t2_2.1).bind fun t11_2 => (if (((!t11_2.2)) || ((!(((t11_2.1.Class.a0 == a0.Class.a0) && ((t11_2.1.Class.a1 == a0.Class.a1) && ((t11_2.1.Class.a2 == a0.Class.a2) && ((t11_2.1.Class.a3 == a0.Class.a3) && true)))) && ((t11_2.1.Least == a0.Least) && true))))) = true then some false else some true) else some true))
theorem riddlelaw14_TideTree_ok {k : Nat} {a0 : api_Tide} {a1 : api_Tree} {r : Bool} (h : riddlelaw14_TideTree k a0 a1 = some r) : Ans Try.prog 7 [.agg [.s (.int .u64 a0.Class.a0), .s (.int .u64 a0.Class.a1), .s (.int .u64 a0.Class.a2), .s (.int .u64 a0.Class.a3), .s (.int .i64 a0.Least)], .agg [slV e_api_Node a1.Nodes]] (.s (.bool r)) := by
  refine W_fn Try.func7 rfl (by kernel_rfl) (by kernel_rfl) ?_
  intro X hro hn
  unfold riddlelaw14_TideTree at h
  refine WX.seq ?_
  refine WC.reg (n := 71) hn [] [2, 3] [2, 3] ⟨[(2, .ptr 2 0), (3, .ptr 3 0)], [(2, .box 26 [.p (.s (.int .u64 a0.Class.a0)), .p (.s (.int .u64 a0.Class.a1)), .p (.s (.int .u64 a0.Class.a2)), .p (.s (.int .u64 a0.Class.a3)), .p (.s (.int .i64 a0.Least))]), (3, .box 47 [.p (slV e_api_Node a1.Nodes)])], ⟨[], false⟩, []⟩ trivial (by kernel_rfl) ?_
  refine WX.seq ?_
  obtain ⟨t2_2, h2_1, h⟩ := bind_some h
  refine WC.reg (n := 71) hn [(1, .co [] [] [] [(17, rowV 70 e_api_Node t2_2.1.Nodes)] (.tup [.agg [.own 17], .p (.s (.bool t2_2.2))]))] [2, 3, 5, 6] [2, 3, 5, 17] ⟨[(2, .ptr 2 0), (3, .ptr 3 0), (5, .ptr 5 0), (6, .p (.s (.bool t2_2.2)))], [(2, .box 26 [.p (.s (.int .u64 a0.Class.a0)), .p (.s (.int .u64 a0.Class.a1)), .p (.s (.int .u64 a0.Class.a2)), .p (.s (.int .u64 a0.Class.a3)), .p (.s (.int .i64 a0.Least))]), (3, .box 47 [.p (slV e_api_Node a1.Nodes)]), (5, .box 47 [.own 17]), (17, rowV 70 e_api_Node t2_2.1.Nodes)], ⟨[], false⟩, []⟩ (And.intro (And.intro ((tide_Tree_ok h2_1).ren 14 17 (by kernel_rfl)) (trivial)) (trivial)) (by kernel_rfl) ?_
  refine WX.seq ?_
  obtain ⟨t3_2, h3_1, h⟩ := bind_some h
  refine WC.reg (n := 71) hn [(1, .resP (.tup [.agg [slV e_api_Node t3_2.1.Nodes], .s (.bool t3_2.2)]))] [2, 3, 5, 6, 7, 8] [2, 3, 5, 7, 17] ⟨[(2, .ptr 2 0), (3, .ptr 3 0), (5, .ptr 5 0), (6, .p (.s (.bool t2_2.2))), (7, .ptr 7 0), (8, .p (.s (.bool t3_2.2)))], [(2, .box 26 [.p (.s (.int .u64 a0.Class.a0)), .p (.s (.int .u64 a0.Class.a1)), .p (.s (.int .u64 a0.Class.a2)), .p (.s (.int .u64 a0.Class.a3)), .p (.s (.int .i64 a0.Least))]), (3, .box 47 [.p (slV e_api_Node a1.Nodes)]), (5, .box 47 [.own 17]), (7, .box 47 [.p (slV e_api_Node t3_2.1.Nodes)]), (17, rowV 70 e_api_Node t2_2.1.Nodes)], ⟨[], false⟩, []⟩ (And.intro ((riddleref14_Tree_ok h3_1)) (trivial)) (by kernel_rfl) ?_
  refine WX.seq ?_
  obtain ⟨t4_2, h4_1, h⟩ := bind_some h
  refine WC.reg (n := 71) hn [(1, .resP (.tup [.agg [.s (.int .u64 t4_2.1.Class.a0), .s (.int .u64 t4_2.1.Class.a1), .s (.int .u64 t4_2.1.Class.a2), .s (.int .u64 t4_2.1.Class.a3), .s (.int .i64 t4_2.1.Least)], .s (.bool t4_2.2)]))] [2, 3, 5, 6, 7, 8, 9, 10] [2, 3, 5, 7, 9, 17] ⟨[(2, .ptr 2 0), (3, .ptr 3 0), (5, .ptr 5 0), (6, .p (.s (.bool t2_2.2))), (7, .ptr 7 0), (8, .p (.s (.bool t3_2.2))), (9, .ptr 9 0), (10, .p (.s (.bool t4_2.2)))], [(2, .box 26 [.p (.s (.int .u64 a0.Class.a0)), .p (.s (.int .u64 a0.Class.a1)), .p (.s (.int .u64 a0.Class.a2)), .p (.s (.int .u64 a0.Class.a3)), .p (.s (.int .i64 a0.Least))]), (3, .box 47 [.p (slV e_api_Node a1.Nodes)]), (5, .box 47 [.own 17]), (7, .box 47 [.p (slV e_api_Node t3_2.1.Nodes)]), (9, .box 26 [.p (.s (.int .u64 t4_2.1.Class.a0)), .p (.s (.int .u64 t4_2.1.Class.a1)), .p (.s (.int .u64 t4_2.1.Class.a2)), .p (.s (.int .u64 t4_2.1.Class.a3)), .p (.s (.int .i64 t4_2.1.Least))]), (17, rowV 70 e_api_Node t2_2.1.Nodes)], ⟨[], false⟩, []⟩ (And.intro ((tide_Of_ok h4_1)) (trivial)) (by kernel_rfl) ?_
  refine WX.seq ?_
  obtain ⟨t5_2, h5_1, h⟩ := bind_some h
  refine WC.reg (n := 71) hn [(1, .resP (.tup [.agg [.s (.int .u64 t5_2.1.Class.a0), .s (.int .u64 t5_2.1.Class.a1), .s (.int .u64 t5_2.1.Class.a2), .s (.int .u64 t5_2.1.Class.a3), .s (.int .i64 t5_2.1.Least)], .s (.bool t5_2.2)]))] [2, 5, 6, 7, 8, 9, 10, 11, 12] [2, 5, 7, 9, 11, 17] ⟨[(2, .ptr 2 0), (5, .ptr 5 0), (6, .p (.s (.bool t2_2.2))), (7, .ptr 7 0), (8, .p (.s (.bool t3_2.2))), (9, .ptr 9 0), (10, .p (.s (.bool t4_2.2))), (11, .ptr 11 0), (12, .p (.s (.bool t5_2.2)))], [(2, .box 26 [.p (.s (.int .u64 a0.Class.a0)), .p (.s (.int .u64 a0.Class.a1)), .p (.s (.int .u64 a0.Class.a2)), .p (.s (.int .u64 a0.Class.a3)), .p (.s (.int .i64 a0.Least))]), (5, .box 47 [.own 17]), (7, .box 47 [.p (slV e_api_Node t3_2.1.Nodes)]), (9, .box 26 [.p (.s (.int .u64 t4_2.1.Class.a0)), .p (.s (.int .u64 t4_2.1.Class.a1)), .p (.s (.int .u64 t4_2.1.Class.a2)), .p (.s (.int .u64 t4_2.1.Class.a3)), .p (.s (.int .i64 t4_2.1.Least))]), (11, .box 26 [.p (.s (.int .u64 t5_2.1.Class.a0)), .p (.s (.int .u64 t5_2.1.Class.a1)), .p (.s (.int .u64 t5_2.1.Class.a2)), .p (.s (.int .u64 t5_2.1.Class.a3)), .p (.s (.int .i64 t5_2.1.Least))]), (17, rowV 70 e_api_Node t2_2.1.Nodes)], ⟨[], false⟩, []⟩ (And.intro ((riddleref14_Of_ok h5_1)) (trivial)) (by kernel_rfl) ?_
  refine WX.seq ?_
  refine WX.seq ?_
  obtain ⟨t6_2, h6_1, h⟩ := bind_some h
  obtain ⟨m6_1, g6, h⟩ := bind_some h
  refine WC.via (α := Bool) (fun v6 => ⟨[(2, .ptr 2 0), (5, .ptr 5 0), (6, .p (.s (.bool t2_2.2))), (57, .p (.s (.bool v6)))], [(2, .box 26 [.p (.s (.int .u64 a0.Class.a0)), .p (.s (.int .u64 a0.Class.a1)), .p (.s (.int .u64 a0.Class.a2)), .p (.s (.int .u64 a0.Class.a3)), .p (.s (.int .i64 a0.Least))]), (5, .box 47 [.own 17]), (17, rowV 70 e_api_Node t2_2.1.Nodes)], ⟨[], false⟩, []⟩) m6_1 (fun hk => ?_) ?_
  · rcases if_or g6 with ⟨b6_2, g6⟩ | ⟨b6_2, g6⟩
    · exact WC.reg (n := 71) hn [(0, .resP (.s (.bool t6_2))), (2, .val (.p (.s (.bool true))))] [2, 5, 6, 57] [2, 5, 17] ⟨[(2, .ptr 2 0), (5, .ptr 5 0), (6, .p (.s (.bool t2_2.2))), (57, .p (.s (.bool true)))], [(2, .box 26 [.p (.s (.int .u64 a0.Class.a0)), .p (.s (.int .u64 a0.Class.a1)), .p (.s (.int .u64 a0.Class.a2)), .p (.s (.int .u64 a0.Class.a3)), .p (.s (.int .i64 a0.Least))]), (5, .box 47 [.own 17]), (17, rowV 70 e_api_Node t2_2.1.Nodes)], ⟨[], false⟩, []⟩ (And.intro ((riddlelaw14_begun_ok h6_1)) (And.intro (Bl b6_2) (trivial))) (by kernel_rfl) (hk true (Option.some.inj g6))
    · obtain ⟨t6_4, h6_3, g6⟩ := bind_some g6
      rcases if_or g6 with ⟨b6_8, g6⟩ | ⟨b6_8, g6⟩
      · exact WC.reg (n := 71) hn [(0, .resP (.s (.bool t6_2))), (2, .val (.p (.s (.bool false)))), (5, .res (.s (.bool t6_4))), (8, .val (.p (.s (.bool true))))] [2, 5, 6, 57] [2, 5, 17] ⟨[(2, .ptr 2 0), (5, .ptr 5 0), (6, .p (.s (.bool t2_2.2))), (57, .p (.s (.bool true)))], [(2, .box 26 [.p (.s (.int .u64 a0.Class.a0)), .p (.s (.int .u64 a0.Class.a1)), .p (.s (.int .u64 a0.Class.a2)), .p (.s (.int .u64 a0.Class.a3)), .p (.s (.int .i64 a0.Least))]), (5, .box 47 [.own 17]), (17, rowV 70 e_api_Node t2_2.1.Nodes)], ⟨[], false⟩, []⟩ (And.intro ((riddlelaw14_begun_ok h6_1)) (And.intro (Bl b6_2) (And.intro (And.intro (riddleref05_Same_ok h6_3) (rfl : (.s (.bool t6_4) : PV).flat = true)) (And.intro (Bl b6_8) (trivial))))) (by kernel_rfl) (hk true (Option.some.inj g6))
      · rcases if_or g6 with ⟨b6_13, g6⟩ | ⟨b6_13, g6⟩
        · exact WC.reg (n := 71) hn [(0, .resP (.s (.bool t6_2))), (2, .val (.p (.s (.bool false)))), (5, .res (.s (.bool t6_4))), (8, .val (.p (.s (.bool false)))), (13, .val (.p (.s (.bool true))))] [2, 5, 6, 57] [2, 5, 17] ⟨[(2, .ptr 2 0), (5, .ptr 5 0), (6, .p (.s (.bool t2_2.2))), (57, .p (.s (.bool true)))], [(2, .box 26 [.p (.s (.int .u64 a0.Class.a0)), .p (.s (.int .u64 a0.Class.a1)), .p (.s (.int .u64 a0.Class.a2)), .p (.s (.int .u64 a0.Class.a3)), .p (.s (.int .i64 a0.Least))]), (5, .box 47 [.own 17]), (17, rowV 70 e_api_Node t2_2.1.Nodes)], ⟨[], false⟩, []⟩ (And.intro ((riddlelaw14_begun_ok h6_1)) (And.intro (Bl b6_2) (And.intro (And.intro (riddleref05_Same_ok h6_3) (rfl : (.s (.bool t6_4) : PV).flat = true)) (And.intro (Bl b6_8) (And.intro (Bl b6_13) (trivial)))))) (by kernel_rfl) (hk true (Option.some.inj g6))
        · rcases if_or g6 with ⟨b6_18, g6⟩ | ⟨b6_18, g6⟩
          · exact WC.reg (n := 71) hn [(0, .resP (.s (.bool t6_2))), (2, .val (.p (.s (.bool false)))), (5, .res (.s (.bool t6_4))), (8, .val (.p (.s (.bool false)))), (13, .val (.p (.s (.bool false)))), (18, .val (.p (.s (.bool true))))] [2, 5, 6, 57] [2, 5, 17] ⟨[(2, .ptr 2 0), (5, .ptr 5 0), (6, .p (.s (.bool t2_2.2))), (57, .p (.s (.bool true)))], [(2, .box 26 [.p (.s (.int .u64 a0.Class.a0)), .p (.s (.int .u64 a0.Class.a1)), .p (.s (.int .u64 a0.Class.a2)), .p (.s (.int .u64 a0.Class.a3)), .p (.s (.int .i64 a0.Least))]), (5, .box 47 [.own 17]), (17, rowV 70 e_api_Node t2_2.1.Nodes)], ⟨[], false⟩, []⟩ (And.intro ((riddlelaw14_begun_ok h6_1)) (And.intro (Bl b6_2) (And.intro (And.intro (riddleref05_Same_ok h6_3) (rfl : (.s (.bool t6_4) : PV).flat = true)) (And.intro (Bl b6_8) (And.intro (Bl b6_13) (And.intro (Bl b6_18) (trivial))))))) (by kernel_rfl) (hk true (Option.some.inj g6))
          · exact WC.reg (n := 71) hn [(0, .resP (.s (.bool t6_2))), (2, .val (.p (.s (.bool false)))), (5, .res (.s (.bool t6_4))), (8, .val (.p (.s (.bool false)))), (13, .val (.p (.s (.bool false)))), (18, .val (.p (.s (.bool false))))] [2, 5, 6, 57] [2, 5, 17] ⟨[(2, .ptr 2 0), (5, .ptr 5 0), (6, .p (.s (.bool t2_2.2))), (57, .p (.s (.bool ((t4_2.2 != t5_2.2)))))], [(2, .box 26 [.p (.s (.int .u64 a0.Class.a0)), .p (.s (.int .u64 a0.Class.a1)), .p (.s (.int .u64 a0.Class.a2)), .p (.s (.int .u64 a0.Class.a3)), .p (.s (.int .i64 a0.Least))]), (5, .box 47 [.own 17]), (17, rowV 70 e_api_Node t2_2.1.Nodes)], ⟨[], false⟩, []⟩ (And.intro ((riddlelaw14_begun_ok h6_1)) (And.intro (Bl b6_2) (And.intro (And.intro (riddleref05_Same_ok h6_3) (rfl : (.s (.bool t6_4) : PV).flat = true)) (And.intro (Bl b6_8) (And.intro (Bl b6_13) (And.intro (Bl b6_18) (trivial))))))) (by kernel_rfl) (hk ((t4_2.2 != t5_2.2)) (Option.some.inj g6))
  rcases if_or h with ⟨c7, h⟩ | ⟨c7, h⟩
  · refine WC.condT c7 (by kernel_rfl) ?_
    refine WX.seq ?_
    refine WC.reg (n := 71) hn [] [4] [] ⟨[(4, .p (.s (.bool false)))], [], ⟨[], false⟩, []⟩ trivial (by kernel_rfl) ?_
    refine WX.ret ?_
    exact WC.outP (by rw [← Option.some.inj h]; kernel_rfl)
  · refine WC.condF c7 (by kernel_rfl) ?_
    refine WX.skip ?_
    refine WX.seq ?_
    refine WX.seq ?_
    refine WC.reg (n := 71) hn [] [2, 5, 58] [2, 5, 17] ⟨[(2, .ptr 2 0), (5, .ptr 5 0), (58, .p (.s (.bool t2_2.2)))], [(2, .box 26 [.p (.s (.int .u64 a0.Class.a0)), .p (.s (.int .u64 a0.Class.a1)), .p (.s (.int .u64 a0.Class.a2)), .p (.s (.int .u64 a0.Class.a3)), .p (.s (.int .i64 a0.Least))]), (5, .box 47 [.own 17]), (17, rowV 70 e_api_Node t2_2.1.Nodes)], ⟨[], false⟩, []⟩ trivial (by kernel_rfl) ?_
    rcases if_or h with ⟨c10, h⟩ | ⟨c10, h⟩
    · refine WC.condT c10 (by kernel_rfl) ?_
      refine WX.seq ?_
      obtain ⟨t11_2, h11_1, h⟩ := bind_some h
      refine WC.reg (n := 71) hn [(1, .res (.tup [.agg [.s (.int .u64 t11_2.1.Class.a0), .s (.int .u64 t11_2.1.Class.a1), .s (.int .u64 t11_2.1.Class.a2), .s (.int .u64 t11_2.1.Class.a3), .s (.int .i64 t11_2.1.Least)], .s (.bool t11_2.2)]))] [2, 13, 14] [2, 13] ⟨[(2, .ptr 2 0), (13, .ptr 13 0), (14, .p (.s (.bool t11_2.2)))], [(2, .box 26 [.p (.s (.int .u64 a0.Class.a0)), .p (.s (.int .u64 a0.Class.a1)), .p (.s (.int .u64 a0.Class.a2)), .p (.s (.int .u64 a0.Class.a3)), .p (.s (.int .i64 a0.Least))]), (13, .box 26 [.p (.s (.int .u64 t11_2.1.Class.a0)), .p (.s (.int .u64 t11_2.1.Class.a1)), .p (.s (.int .u64 t11_2.1.Class.a2)), .p (.s (.int .u64 t11_2.1.Class.a3)), .p (.s (.int .i64 t11_2.1.Least))])], ⟨[], false⟩, []⟩ (And.intro (And.intro (tide_Of_ok h11_1) (rfl : (.tup [.agg [.s (.int .u64 t11_2.1.Class.a0), .s (.int .u64 t11_2.1.Class.a1), .s (.int .u64 t11_2.1.Class.a2), .s (.int .u64 t11_2.1.Class.a3), .s (.int .i64 t11_2.1.Least)], .s (.bool t11_2.2)] : PV).flat = true)) (trivial)) (by kernel_rfl) ?_
      refine WX.seq ?_
      refine WC.via (α := Bool) (fun v12 => ⟨[(70, .p (.s (.bool v12)))], [], ⟨[], false⟩, []⟩) ((((!t11_2.2)) || ((!(((t11_2.1.Class.a0 == a0.Class.a0) && ((t11_2.1.Class.a1 == a0.Class.a1) && ((t11_2.1.Class.a2 == a0.Class.a2) && ((t11_2.1.Class.a3 == a0.Class.a3) && true)))) && ((t11_2.1.Least == a0.Least) && true)))))) (fun hk => ?_) ?_
      · rcases Bool.eq_false_or_eq_true ((!t11_2.2)) with b12_2 | b12_2
        · exact WC.reg (n := 71) hn [(2, .val (.p (.s (.bool true))))] [70] [] ⟨[(70, .p (.s (.bool true)))], [], ⟨[], false⟩, []⟩ (And.intro (Bl b12_2) (trivial)) (by kernel_rfl) (hk true (by first | (rw [b12_2]; rfl) | simp [b12_2]))
        · exact WC.reg (n := 71) hn [(2, .val (.p (.s (.bool false))))] [70] [] ⟨[(70, .p (.s (.bool ((!(((t11_2.1.Class.a0 == a0.Class.a0) && ((t11_2.1.Class.a1 == a0.Class.a1) && ((t11_2.1.Class.a2 == a0.Class.a2) && ((t11_2.1.Class.a3 == a0.Class.a3) && true)))) && ((t11_2.1.Least == a0.Least) && true)))))))], [], ⟨[], false⟩, []⟩ (And.intro (Bl b12_2) (trivial)) (by kernel_rfl) (hk ((!(((t11_2.1.Class.a0 == a0.Class.a0) && ((t11_2.1.Class.a1 == a0.Class.a1) && ((t11_2.1.Class.a2 == a0.Class.a2) && ((t11_2.1.Class.a3 == a0.Class.a3) && true)))) && ((t11_2.1.Least == a0.Least) && true)))) (by first | (rw [b12_2]; rfl) | simp [b12_2]))
      rcases if_or h with ⟨c13, h⟩ | ⟨c13, h⟩
      · refine WC.condT c13 (by kernel_rfl) ?_
        refine WX.seq ?_
        refine WC.reg (n := 71) hn [] [4] [] ⟨[(4, .p (.s (.bool false)))], [], ⟨[], false⟩, []⟩ trivial (by kernel_rfl) ?_
        refine WX.ret ?_
        exact WC.outP (by rw [← Option.some.inj h]; kernel_rfl)
      · refine WC.condF c13 (by kernel_rfl) ?_
        refine WX.skip ?_
        refine WX.seq ?_
        refine WC.reg (n := 71) hn [] [4] [] ⟨[(4, .p (.s (.bool true)))], [], ⟨[], false⟩, []⟩ trivial (by kernel_rfl) ?_
        refine WX.ret ?_
        exact WC.outP (by rw [← Option.some.inj h]; kernel_rfl)
    · refine WC.condF c10 (by kernel_rfl) ?_
      refine WX.skip ?_
      refine WX.seq ?_
      refine WC.reg (n := 71) hn [] [4] [] ⟨[(4, .p (.s (.bool true)))], [], ⟨[], false⟩, []⟩ trivial (by kernel_rfl) ?_
      refine WX.ret ?_
      exact WC.outP (by rw [← Option.some.inj h]; kernel_rfl)
end Go.Proofs.Ytombondekjflaaa
