/- YtegjbjnmedgdoaaDoorGc: a part of the proof; see the last text for what is proved. -/
import Derived.Test.YtegjbjnmedgdoaaDoorGb
import Derived.Test.YtegjbjnmedgdoaaDoorProg
import Derived.KernelRfl
set_option maxRecDepth 100000
set_option linter.unusedVariables false
set_option linter.unusedSimpArgs false
namespace Go.Proofs.YtegjbjnmedgdoaaDoor
open Go.AE
def riddleref10_Star (k : Nat) (a0 : api_Nfa) : Option (api_Nfa × Int) :=
  (riddleref10_Empty k).bind fun t2_2 => (riddleref10_side k a0 t2_2).bind fun t2_4 => (if (t2_4.2 != 0) = true then some ((api_Nfa.mk ([]) ((api_Bits.mk 0 ([]))) ((api_Bits.mk 0 ([]))) (([] : List api_Bits)) false), t2_4.2) else (riddleref10_behind k ((api_Nfa.mk t2_4.1.Classes a0.First a0.Last t2_4.1.Follow true)) a0.Last a0.First).bind fun t10_2 => some (t10_2, 0))
theorem riddleref10_Star_ok {k : Nat} {a0 : api_Nfa} {r : api_Nfa × Int} (h : riddleref10_Star k a0 = some r) : AnsO Tryd.prog 35 [] [.p (pP1 a0)] [(27, rowV 25 e_api_Bits r.1.Follow)] (.tup [.agg [.p (sC r.1.Classes), .p (i6 (r.1.First.N)), .p (sW r.1.First.Words), .p (i6 (r.1.Last.N)), .p (sW r.1.Last.Words), .own 27, .p (bo (r.1.Null))], .p (i6 (r.2))]) := by
  refine W_fnO [27] Tryd.func35 rfl (by kernel_rfl) (by kernel_rfl) (by kernel_rfl) (by kernel_rfl) ?_
  intro X hro hn
  unfold riddleref10_Star at h
  refine WC.rg hn [] [1, 2] [1, 2] ⟨[(1, .ptr 1 0), (2, .ptr 2 0)], [(1, .box 28 (vV1 a0)), (2, .box 28 [.p (.sl .nil 0 []), .p (i6 (0)), .p (.sl .nil 0 []), .p (i6 (0)), .p (.sl .nil 0 []), .p (.sl .nil 0 []), .p (bo (false))])], L0, []⟩ trivial ?_
  refine WX.seq ?_
  obtain ⟨t2_2, h2_1, h⟩ := bind_some h
  obtain ⟨t2_4, h2_3, h⟩ := bind_some h
  have q2_1 := (riddleref10_Empty_okP h2_1)
  have q2_2 := And.intro (((riddleref10_side_ok h2_3).ren 36 9 (by kernel_rfl)).ren 55 28 (by kernel_rfl)) (trivial)
  refine WC.exp hn (by kernel_rfl) [(1, .resP (pP1 t2_2)), (2, .co [] [] [] [(9, rowV 60 (e4 (eI .u64)) t2_4.1.Classes), (28, rowV 25 e_api_Bits t2_4.1.Follow)] (.tup [.agg [.own 9, .p (i6 (t2_4.1.First.N)), .p (sW t2_4.1.First.Words), .p (i6 (t2_4.1.Last.N)), .p (sW t2_4.1.Last.Words), .own 28, .p (bo (t2_4.1.Null))], .p (i6 (t2_4.2))]))] [1, 2, 4, 5] [1, 2, 4, 9, 28] ⟨[(1, .ptr 1 0), (2, .ptr 2 0), (4, .ptr 4 0), (5, .p (i6 (t2_4.2)))], [(1, .box 28 (vV1 a0)), (2, .box 28 [.p (.sl .nil 0 []), .p (i6 (0)), .p (.sl .nil 0 []), .p (i6 (0)), .p (.sl .nil 0 []), .p (.sl .nil 0 []), .p (bo (false))]), (4, .box 28 [.own 9, .p (i6 (t2_4.1.First.N)), .p (sW t2_4.1.First.Words), .p (i6 (t2_4.1.Last.N)), .p (sW t2_4.1.Last.Words), .own 28, .p (bo (t2_4.1.Null))]), (9, rowV 60 (e4 (eI .u64)) t2_4.1.Classes), (28, rowV 25 e_api_Bits t2_4.1.Follow)], L0, []⟩ [0, 1, 2, 3, 7, 15, 31, 47, 63, 64, 65, 66, 67, 71, 79, 95, 111, 127, 223, 255, 511] 511 (by kernel_rfl) (by kernel_rfl) (by kernel_rfl) (And.intro q2_1 (And.intro q2_1 (And.intro q2_2 (And.intro q2_1 (And.intro q2_1 (And.intro q2_2 (trivial))))))) (by kernel_rfl) (by kernel_rfl) ?_
  refine WX.seq ?_
  refine WC.rg hn [] [1, 2, 4, 5, 13] [1, 2, 4, 9, 28] ⟨[(1, .ptr 1 0), (2, .ptr 2 0), (4, .ptr 4 0), (5, .p (i6 (t2_4.2))), (13, .p (bo (((t2_4.2 != 0)))))], [(1, .box 28 (vV1 a0)), (2, .box 28 [.p (.sl .nil 0 []), .p (i6 (0)), .p (.sl .nil 0 []), .p (i6 (0)), .p (.sl .nil 0 []), .p (.sl .nil 0 []), .p (bo (false))]), (4, .box 28 [.own 9, .p (i6 (t2_4.1.First.N)), .p (sW t2_4.1.First.Words), .p (i6 (t2_4.1.Last.N)), .p (sW t2_4.1.Last.Words), .own 28, .p (bo (t2_4.1.Null))]), (9, rowV 60 (e4 (eI .u64)) t2_4.1.Classes), (28, rowV 25 e_api_Bits t2_4.1.Follow)], L0, []⟩ trivial ?_
  rcases if_or h with ⟨c4, h⟩ | ⟨c4, h⟩
  · refine WC.condT c4 (by kernel_rfl) ?_
    refine WC.rg hn [] [2, 3] [2] ⟨[(2, .ptr 2 0), (3, .p (i6 (t2_4.2)))], [(2, .box 28 [.p (.sl .nil 0 []), .p (i6 (0)), .p (.sl .nil 0 []), .p (i6 (0)), .p (.sl .nil 0 []), .p (.sl .nil 0 []), .p (bo (false))])], L0, []⟩ trivial ?_
    refine WX.ret ?_
    refine WC.nil hn [] (some (2, 5)) 27 25 2 (by kernel_rfl) [2, 3] [2, 27] (st' := ⟨[(2, .ptr 2 0), (3, .p (i6 (t2_4.2)))], [(2, .box 28 [.p (.sl .nil 0 []), .p (i6 (0)), .p (.sl .nil 0 []), .p (i6 (0)), .p (.sl .nil 0 []), .own 27, .p (bo (false))]), (27, rowV 25 e_api_Bits (([] : List api_Bits)))], L0, []⟩) (by kernel_rfl) ?_
    exact WC.outO (by rw [← Option.some.inj h]; kernel_rfl)
  · refine WC.condF c4 (by kernel_rfl) ?_
    refine WX.skip ?_
    refine WC.rg hn [] [1, 2, 4] [1, 2, 4, 9, 28] ⟨[(1, .ptr 1 0), (2, .ptr 2 0), (4, .ptr 4 0)], [(1, .box 28 (vV1 a0)), (2, .box 28 [.p (.sl .nil 0 []), .p (i6 (0)), .p (.sl .nil 0 []), .p (i6 (0)), .p (.sl .nil 0 []), .p (.sl .nil 0 []), .p (bo (false))]), (4, .box 28 [.own 9, .p (i6 (a0.First.N)), .p (sW a0.First.Words), .p (i6 (t2_4.1.Last.N)), .p (sW t2_4.1.Last.Words), .own 28, .p (bo (t2_4.1.Null))]), (9, rowV 60 (e4 (eI .u64)) t2_4.1.Classes), (28, rowV 25 e_api_Bits t2_4.1.Follow)], L0, []⟩ trivial ?_
    refine WC.rg hn [] [1, 2, 4] [1, 2, 4, 9, 28] ⟨[(1, .ptr 1 0), (2, .ptr 2 0), (4, .ptr 4 0)], [(1, .box 28 (vV1 a0)), (2, .box 28 [.p (.sl .nil 0 []), .p (i6 (0)), .p (.sl .nil 0 []), .p (i6 (0)), .p (.sl .nil 0 []), .p (.sl .nil 0 []), .p (bo (false))]), (4, .box 28 [.own 9, .p (i6 (a0.First.N)), .p (sW a0.First.Words), .p (i6 (a0.Last.N)), .p (sW a0.Last.Words), .own 28, .p (bo (t2_4.1.Null))]), (9, rowV 60 (e4 (eI .u64)) t2_4.1.Classes), (28, rowV 25 e_api_Bits t2_4.1.Follow)], L0, []⟩ trivial ?_
    refine WC.rg hn [] [1, 2, 4] [1, 2, 4, 9, 28] ⟨[(1, .ptr 1 0), (2, .ptr 2 0), (4, .ptr 4 0)], [(1, .box 28 (vV1 a0)), (2, .box 28 [.p (.sl .nil 0 []), .p (i6 (0)), .p (.sl .nil 0 []), .p (i6 (0)), .p (.sl .nil 0 []), .p (.sl .nil 0 []), .p (bo (false))]), (4, .box 28 [.own 9, .p (i6 (a0.First.N)), .p (sW a0.First.Words), .p (i6 (a0.Last.N)), .p (sW a0.Last.Words), .own 28, .p (bo (true))]), (9, rowV 60 (e4 (eI .u64)) t2_4.1.Classes), (28, rowV 25 e_api_Bits t2_4.1.Follow)], L0, []⟩ trivial ?_
    refine WX.seq ?_
    refine WC.frz 9 (st' := ⟨[(1, .ptr 1 0), (2, .ptr 2 0), (4, .ptr 4 0)], [(1, .box 28 (vV1 a0)), (2, .box 28 [.p (.sl .nil 0 []), .p (i6 (0)), .p (.sl .nil 0 []), .p (i6 (0)), .p (.sl .nil 0 []), .p (.sl .nil 0 []), .p (bo (false))]), (4, .box 28 [.p (sC t2_4.1.Classes), .p (i6 (a0.First.N)), .p (sW a0.First.Words), .p (i6 (a0.Last.N)), .p (sW a0.Last.Words), .own 28, .p (bo (true))]), (28, rowV 25 e_api_Bits t2_4.1.Follow)], L0, []⟩) (by kernel_rfl) ?_
    obtain ⟨t10_2, h10_1, h⟩ := bind_some h
    refine WC.r1 hn [(5, .co [] [28] [] [(27, rowV 25 e_api_Bits t10_2.Follow)] (.agg [.p (sC t10_2.Classes), .p (i6 (t10_2.First.N)), .p (sW t10_2.First.Words), .p (i6 (t10_2.Last.N)), .p (sW t10_2.Last.Words), .own 27, .p (bo (t10_2.Null))]))] [2, 3] [2, 27] ⟨[(2, .ptr 2 0), (3, .p (i6 (0)))], [(2, .box 28 [.p (sC t10_2.Classes), .p (i6 (t10_2.First.N)), .p (sW t10_2.First.Words), .p (i6 (t10_2.Last.N)), .p (sW t10_2.Last.Words), .own 27, .p (bo (t10_2.Null))]), (27, rowV 25 e_api_Bits t10_2.Follow)], L0, []⟩ (And.intro (And.intro (((riddleref10_behind_ok h10_1).ren 1000 28 (by kernel_rfl)).ren 29 27 (by kernel_rfl)) (trivial)) (trivial)) ?_
    refine WX.ret ?_
    exact WC.outO (by rw [← Option.some.inj h]; kernel_rfl)
theorem riddleref10_Star_okP {k : Nat} {a0 : api_Nfa} {r : api_Nfa × Int} (h : riddleref10_Star k a0 = some r) : Ans Tryd.prog 35 [pP1 a0] (.tup [pP1 r.1, i6 (r.2)]) := AnsO.ans (args := [pP1 a0]) (riddleref10_Star_ok h) (by kernel_rfl)
def riddleref10_Leaf (k : Nat) (a0 : (Arr4 Int)) : Option (api_Nfa) :=
  (riddleref10_none k 1).bind fun t2_2 => (riddleref01_With k t2_2 0).bind fun t2_4 => (riddleref10_none k 1).bind fun t3_2 => some ((api_Nfa.mk ([a0]) t2_4 t2_4 ([t3_2]) false))
theorem riddleref10_Leaf_ok {k : Nat} {a0 : (Arr4 Int)} {r : api_Nfa} (h : riddleref10_Leaf k a0 = some r) : Ans Tryd.prog 36 [.agg [u6 (a0.a0), u6 (a0.a1), u6 (a0.a2), u6 (a0.a3)]] (pP1 r) := by
  refine W_fn Tryd.func36 rfl (by kernel_rfl) (by kernel_rfl) ?_
  intro X hro hn
  unfold riddleref10_Leaf at h
  refine WC.rg hn [] [1, 2] [1, 2] ⟨[(1, .ptr 1 0), (2, .ptr 2 0)], [(1, .box 60 [.p (u6 (a0.a0)), .p (u6 (a0.a1)), .p (u6 (a0.a2)), .p (u6 (a0.a3))]), (2, .box 28 [.p (.sl .nil 0 []), .p (i6 (0)), .p (.sl .nil 0 []), .p (i6 (0)), .p (.sl .nil 0 []), .p (.sl .nil 0 []), .p (bo (false))])], L0, []⟩ trivial ?_
  refine WX.seq ?_
  obtain ⟨t2_2, h2_1, h⟩ := bind_some h
  obtain ⟨t2_4, h2_3, h⟩ := bind_some h
  refine WC.r1 hn [(0, .co [] [] [] [(4, rW 58 t2_2.Words)] (.agg [.p (i6 (t2_2.N)), .own 4])), (1, .co [] [] [4] [(5, rW 58 t2_4.Words)] (.agg [.p (i6 (t2_4.N)), .own 5]))] [1, 2, 3] [1, 2, 3, 5] ⟨[(1, .ptr 1 0), (2, .ptr 2 0), (3, .ptr 3 0)], [(1, .box 60 [.p (u6 (a0.a0)), .p (u6 (a0.a1)), .p (u6 (a0.a2)), .p (u6 (a0.a3))]), (2, .box 28 [.p (.sl .nil 0 []), .p (i6 (0)), .p (.sl .nil 0 []), .p (i6 (0)), .p (.sl .nil 0 []), .p (.sl .nil 0 []), .p (bo (false))]), (3, .box 25 [.p (i6 (t2_4.N)), .own 5]), (5, rW 58 t2_4.Words)], L0, []⟩ (And.intro (And.intro ((riddleref10_none_ok h2_1).ren 7 4 (by kernel_rfl)) (trivial)) (And.intro (And.intro ((riddleref01_With_ok h2_3).ren 7 5 (by kernel_rfl)) (And.intro (rfl : (.agg [.p (i6 (t2_4.N)), .own 5] : AV).flat = true) (And.intro (flats_encL (eI .u64) (fun _ => rfl) t2_4.Words) (trivial)))) (trivial))) ?_
  refine WX.seq ?_
  obtain ⟨t3_2, h3_1, h⟩ := bind_some h
  refine WC.drw hn [(7, [])] [] [(4, .resP (pP4 t3_2))] [2] [2, 5] ⟨[(2, .ptr 2 0)], [(2, .box 28 [.p (sC ([a0])), .p (i6 (t2_4.N)), .own 5, .p (i6 (t2_4.N)), .own 5, .p (sB ([t3_2])), .p (bo (false))]), (5, rW 58 t2_4.Words)], L0, []⟩ (And.intro ((riddleref10_none_okP h3_1)) (trivial)) (by kernel_rfl) (by kernel_rfl) (by kernel_rfl) (by kernel_rfl) ?_
  refine WX.ret ?_
  exact WC.outP (by rw [← Option.some.inj h]; kernel_rfl)
def riddleref10_Cat (k : Nat) (a0 : api_Nfa) (a1 : api_Nfa) : Option (api_Nfa × Int) :=
  (riddleref10_side k a0 a1).bind fun t2_2 => (if (t2_2.2 != 0) = true then some ((api_Nfa.mk ([]) ((api_Bits.mk 0 ([]))) ((api_Bits.mk 0 ([]))) (([] : List api_Bits)) false), t2_2.2) else (riddleref10_moved k a0.First 0 ((t2_2.1.Classes.length : Int))).bind fun t8_2 => jn (fun (v10 : Int × List Int) => (riddleref10_moved k a1.Last ((a0.Classes.length : Int)) ((t2_2.1.Classes.length : Int))).bind fun t14_2 => jn (fun (v16 : Int × List Int) => (riddleref10_moved k a0.Last 0 ((t2_2.1.Classes.length : Int))).bind fun t22_2 => (riddleref10_moved k a1.First ((a0.Classes.length : Int)) ((t2_2.1.Classes.length : Int))).bind fun t22_4 => (riddleref10_behind k ((api_Nfa.mk t2_2.1.Classes ((api_Bits.mk v10.1 v10.2)) ((api_Bits.mk v16.1 v16.2)) t2_2.1.Follow ((a0.Null && a1.Null)))) t22_2 t22_4).bind fun t22_6 => some (t22_6, 0)) fun J16 => (if a1.Null = true then (riddleref10_moved k a0.Last 0 ((t2_2.1.Classes.length : Int))).bind fun t25_2 => (riddleref01_Or k t14_2 t25_2).bind fun t25_4 => J16 (t25_4.N, t25_4.Words) else J16 (t14_2.N, t14_2.Words))) fun J10 => (if a0.Null = true then (riddleref10_moved k a1.First ((a0.Classes.length : Int)) ((t2_2.1.Classes.length : Int))).bind fun t28_2 => (riddleref01_Or k t8_2 t28_2).bind fun t28_4 => J10 (t28_4.N, t28_4.Words) else J10 (t8_2.N, t8_2.Words)))
theorem riddleref10_Cat_ok {k : Nat} {a0 : api_Nfa} {a1 : api_Nfa} {r : api_Nfa × Int} (h : riddleref10_Cat k a0 a1 = some r) : AnsO Tryd.prog 37 [] [.p (pP1 a0), .p (pP1 a1)] [(74, rowV 25 e_api_Bits r.1.Follow)] (.tup [.agg [.p (sC r.1.Classes), .p (i6 (r.1.First.N)), .p (sW r.1.First.Words), .p (i6 (r.1.Last.N)), .p (sW r.1.Last.Words), .own 74, .p (bo (r.1.Null))], .p (i6 (r.2))]) := by
  refine W_fnO [74] Tryd.func37 rfl (by kernel_rfl) (by kernel_rfl) (by kernel_rfl) (by kernel_rfl) ?_
  intro X hro hn
  unfold riddleref10_Cat at h
  refine WC.rg hn [] [2, 3, 4] [2, 3, 4] ⟨[(2, .ptr 2 0), (3, .ptr 3 0), (4, .ptr 4 0)], [(2, .box 28 (vV1 a0)), (3, .box 28 (vV1 a1)), (4, .box 28 [.p (.sl .nil 0 []), .p (i6 (0)), .p (.sl .nil 0 []), .p (i6 (0)), .p (.sl .nil 0 []), .p (.sl .nil 0 []), .p (bo (false))])], L0, []⟩ trivial ?_
  refine WX.seq ?_
  obtain ⟨t2_2, h2_1, h⟩ := bind_some h
  refine WC.r1 hn [(2, .co [] [] [] [(13, rowV 60 (e4 (eI .u64)) t2_2.1.Classes), (75, rowV 25 e_api_Bits t2_2.1.Follow)] (.tup [.agg [.own 13, .p (i6 (t2_2.1.First.N)), .p (sW t2_2.1.First.Words), .p (i6 (t2_2.1.Last.N)), .p (sW t2_2.1.Last.Words), .own 75, .p (bo (t2_2.1.Null))], .p (i6 (t2_2.2))]))] [2, 3, 4, 6, 7] [2, 3, 4, 6, 13, 75] ⟨[(2, .ptr 2 0), (3, .ptr 3 0), (4, .ptr 4 0), (6, .ptr 6 0), (7, .p (i6 (t2_2.2)))], [(2, .box 28 (vV1 a0)), (3, .box 28 (vV1 a1)), (4, .box 28 [.p (.sl .nil 0 []), .p (i6 (0)), .p (.sl .nil 0 []), .p (i6 (0)), .p (.sl .nil 0 []), .p (.sl .nil 0 []), .p (bo (false))]), (6, .box 28 [.own 13, .p (i6 (t2_2.1.First.N)), .p (sW t2_2.1.First.Words), .p (i6 (t2_2.1.Last.N)), .p (sW t2_2.1.Last.Words), .own 75, .p (bo (t2_2.1.Null))]), (13, rowV 60 (e4 (eI .u64)) t2_2.1.Classes), (75, rowV 25 e_api_Bits t2_2.1.Follow)], L0, []⟩ (And.intro (And.intro (((riddleref10_side_ok h2_1).ren 36 13 (by kernel_rfl)).ren 55 75 (by kernel_rfl)) (trivial)) (trivial)) ?_
  refine WX.seq ?_
  refine WC.rg hn [] [2, 3, 4, 6, 7, 17] [2, 3, 4, 6, 13, 75] ⟨[(2, .ptr 2 0), (3, .ptr 3 0), (4, .ptr 4 0), (6, .ptr 6 0), (7, .p (i6 (t2_2.2))), (17, .p (bo (((t2_2.2 != 0)))))], [(2, .box 28 (vV1 a0)), (3, .box 28 (vV1 a1)), (4, .box 28 [.p (.sl .nil 0 []), .p (i6 (0)), .p (.sl .nil 0 []), .p (i6 (0)), .p (.sl .nil 0 []), .p (.sl .nil 0 []), .p (bo (false))]), (6, .box 28 [.own 13, .p (i6 (t2_2.1.First.N)), .p (sW t2_2.1.First.Words), .p (i6 (t2_2.1.Last.N)), .p (sW t2_2.1.Last.Words), .own 75, .p (bo (t2_2.1.Null))]), (13, rowV 60 (e4 (eI .u64)) t2_2.1.Classes), (75, rowV 25 e_api_Bits t2_2.1.Follow)], L0, []⟩ trivial ?_
  rcases if_or h with ⟨c4, h⟩ | ⟨c4, h⟩
  · refine WC.condT c4 (by kernel_rfl) ?_
    refine WC.rg hn [] [4, 5] [4] ⟨[(4, .ptr 4 0), (5, .p (i6 (t2_2.2)))], [(4, .box 28 [.p (.sl .nil 0 []), .p (i6 (0)), .p (.sl .nil 0 []), .p (i6 (0)), .p (.sl .nil 0 []), .p (.sl .nil 0 []), .p (bo (false))])], L0, []⟩ trivial ?_
    refine WX.ret ?_
    refine WC.nil hn [] (some (4, 5)) 74 25 2 (by kernel_rfl) [4, 5] [4, 74] (st' := ⟨[(4, .ptr 4 0), (5, .p (i6 (t2_2.2)))], [(4, .box 28 [.p (.sl .nil 0 []), .p (i6 (0)), .p (.sl .nil 0 []), .p (i6 (0)), .p (.sl .nil 0 []), .own 74, .p (bo (false))]), (74, rowV 25 e_api_Bits (([] : List api_Bits)))], L0, []⟩) (by kernel_rfl) ?_
    exact WC.outO (by rw [← Option.some.inj h]; kernel_rfl)
  · refine WC.condF c4 (by kernel_rfl) ?_
    refine WX.skip ?_
    refine WC.rg hn [] [2, 3, 4, 6, 8] [2, 3, 4, 6, 13, 75] ⟨[(2, .ptr 2 0), (3, .ptr 3 0), (4, .ptr 4 0), (6, .ptr 6 0), (8, .p (i6 (((a0.Classes.length : Int)))))], [(2, .box 28 (vV1 a0)), (3, .box 28 (vV1 a1)), (4, .box 28 [.p (.sl .nil 0 []), .p (i6 (0)), .p (.sl .nil 0 []), .p (i6 (0)), .p (.sl .nil 0 []), .p (.sl .nil 0 []), .p (bo (false))]), (6, .box 28 [.own 13, .p (i6 (t2_2.1.First.N)), .p (sW t2_2.1.First.Words), .p (i6 (t2_2.1.Last.N)), .p (sW t2_2.1.Last.Words), .own 75, .p (bo (t2_2.1.Null))]), (13, rowV 60 (e4 (eI .u64)) t2_2.1.Classes), (75, rowV 25 e_api_Bits t2_2.1.Follow)], L0, []⟩ trivial ?_
    refine WC.rg hn [] [2, 3, 4, 6, 8, 9] [2, 3, 4, 6, 13, 75] ⟨[(2, .ptr 2 0), (3, .ptr 3 0), (4, .ptr 4 0), (6, .ptr 6 0), (8, .p (i6 (((a0.Classes.length : Int))))), (9, .p (i6 (((t2_2.1.Classes.length : Int)))))], [(2, .box 28 (vV1 a0)), (3, .box 28 (vV1 a1)), (4, .box 28 [.p (.sl .nil 0 []), .p (i6 (0)), .p (.sl .nil 0 []), .p (i6 (0)), .p (.sl .nil 0 []), .p (.sl .nil 0 []), .p (bo (false))]), (6, .box 28 [.own 13, .p (i6 (t2_2.1.First.N)), .p (sW t2_2.1.First.Words), .p (i6 (t2_2.1.Last.N)), .p (sW t2_2.1.Last.Words), .own 75, .p (bo (t2_2.1.Null))]), (13, rowV 60 (e4 (eI .u64)) t2_2.1.Classes), (75, rowV 25 e_api_Bits t2_2.1.Follow)], L0, []⟩ trivial ?_
    refine WX.seq ?_
    obtain ⟨t8_2, h8_1, h⟩ := bind_some h
    refine WC.r1 hn [(3, .co [] [] [] [(29, rW 58 t8_2.Words)] (.agg [.p (i6 (t8_2.N)), .own 29]))] [2, 3, 4, 6, 8, 9] [2, 3, 4, 6, 13, 29, 75] ⟨[(2, .ptr 2 0), (3, .ptr 3 0), (4, .ptr 4 0), (6, .ptr 6 0), (8, .p (i6 (((a0.Classes.length : Int))))), (9, .p (i6 (((t2_2.1.Classes.length : Int)))))], [(2, .box 28 (vV1 a0)), (3, .box 28 (vV1 a1)), (4, .box 28 [.p (.sl .nil 0 []), .p (i6 (0)), .p (.sl .nil 0 []), .p (i6 (0)), .p (.sl .nil 0 []), .p (.sl .nil 0 []), .p (bo (false))]), (6, .box 28 [.own 13, .p (i6 (t8_2.N)), .own 29, .p (i6 (t2_2.1.Last.N)), .p (sW t2_2.1.Last.Words), .own 75, .p (bo (t2_2.1.Null))]), (13, rowV 60 (e4 (eI .u64)) t2_2.1.Classes), (29, rW 58 t8_2.Words), (75, rowV 25 e_api_Bits t2_2.1.Follow)], L0, []⟩ (And.intro (And.intro ((riddleref10_moved_ok h8_1).ren 10 29 (by kernel_rfl)) (trivial)) (trivial)) ?_
    refine WX.seq ?_
    refine WC.rg hn [] [2, 3, 4, 6, 8, 9, 32] [2, 3, 4, 6, 13, 29, 75] ⟨[(2, .ptr 2 0), (3, .ptr 3 0), (4, .ptr 4 0), (6, .ptr 6 0), (8, .p (i6 (((a0.Classes.length : Int))))), (9, .p (i6 (((t2_2.1.Classes.length : Int))))), (32, .p (bo (a0.Null)))], [(2, .box 28 (vV1 a0)), (3, .box 28 (vV1 a1)), (4, .box 28 [.p (.sl .nil 0 []), .p (i6 (0)), .p (.sl .nil 0 []), .p (i6 (0)), .p (.sl .nil 0 []), .p (.sl .nil 0 []), .p (bo (false))]), (6, .box 28 [.own 13, .p (i6 (t8_2.N)), .own 29, .p (i6 (t2_2.1.Last.N)), .p (sW t2_2.1.Last.Words), .own 75, .p (bo (t2_2.1.Null))]), (13, rowV 60 (e4 (eI .u64)) t2_2.1.Classes), (29, rW 58 t8_2.Words), (75, rowV 25 e_api_Bits t2_2.1.Follow)], L0, []⟩ trivial ?_
    obtain ⟨J10, eJ10, h⟩ := jn_some h
    try dsimp only at h
    refine WC.join (α := Int × List Int) (fun v10 => ⟨[(2, .ptr 2 0), (3, .ptr 3 0), (4, .ptr 4 0), (6, .ptr 6 0), (8, .p (i6 (((a0.Classes.length : Int))))), (9, .p (i6 (((t2_2.1.Classes.length : Int)))))], [(2, .box 28 (vV1 a0)), (3, .box 28 (vV1 a1)), (4, .box 28 [.p (.sl .nil 0 []), .p (i6 (0)), .p (.sl .nil 0 []), .p (i6 (0)), .p (.sl .nil 0 []), .p (.sl .nil 0 []), .p (bo (false))]), (6, .box 28 [.own 13, .p (i6 (v10.1)), .p (sW v10.2), .p (i6 (t2_2.1.Last.N)), .p (sW t2_2.1.Last.Words), .own 75, .p (bo (t2_2.1.Null))]), (13, rowV 60 (e4 (eI .u64)) t2_2.1.Classes), (75, rowV 25 e_api_Bits t2_2.1.Follow)], L0, []⟩) (fun v10 => J10 v10 = some r) ?_ (fun hJ10 => ?_)
    · rintro ⟨y10_1, y10_2⟩ h
      rw [eJ10] at h
      try dsimp only at h
      refine WX.seq ?_
      obtain ⟨t14_2, h14_1, h⟩ := bind_some h
      refine WC.r1 hn [(4, .co [] [] [] [(46, rW 58 t14_2.Words)] (.agg [.p (i6 (t14_2.N)), .own 46]))] [2, 3, 4, 6, 8, 9] [2, 3, 4, 6, 13, 46, 75] ⟨[(2, .ptr 2 0), (3, .ptr 3 0), (4, .ptr 4 0), (6, .ptr 6 0), (8, .p (i6 (((a0.Classes.length : Int))))), (9, .p (i6 (((t2_2.1.Classes.length : Int)))))], [(2, .box 28 (vV1 a0)), (3, .box 28 (vV1 a1)), (4, .box 28 [.p (.sl .nil 0 []), .p (i6 (0)), .p (.sl .nil 0 []), .p (i6 (0)), .p (.sl .nil 0 []), .p (.sl .nil 0 []), .p (bo (false))]), (6, .box 28 [.own 13, .p (i6 (y10_1)), .p (sW y10_2), .p (i6 (t14_2.N)), .own 46, .own 75, .p (bo (t2_2.1.Null))]), (13, rowV 60 (e4 (eI .u64)) t2_2.1.Classes), (46, rW 58 t14_2.Words), (75, rowV 25 e_api_Bits t2_2.1.Follow)], L0, []⟩ (And.intro (And.intro ((riddleref10_moved_ok h14_1).ren 10 46 (by kernel_rfl)) (trivial)) (trivial)) ?_
      refine WX.seq ?_
      refine WC.rg hn [] [2, 3, 4, 6, 8, 9, 49] [2, 3, 4, 6, 13, 46, 75] ⟨[(2, .ptr 2 0), (3, .ptr 3 0), (4, .ptr 4 0), (6, .ptr 6 0), (8, .p (i6 (((a0.Classes.length : Int))))), (9, .p (i6 (((t2_2.1.Classes.length : Int))))), (49, .p (bo (a1.Null)))], [(2, .box 28 (vV1 a0)), (3, .box 28 (vV1 a1)), (4, .box 28 [.p (.sl .nil 0 []), .p (i6 (0)), .p (.sl .nil 0 []), .p (i6 (0)), .p (.sl .nil 0 []), .p (.sl .nil 0 []), .p (bo (false))]), (6, .box 28 [.own 13, .p (i6 (y10_1)), .p (sW y10_2), .p (i6 (t14_2.N)), .own 46, .own 75, .p (bo (t2_2.1.Null))]), (13, rowV 60 (e4 (eI .u64)) t2_2.1.Classes), (46, rW 58 t14_2.Words), (75, rowV 25 e_api_Bits t2_2.1.Follow)], L0, []⟩ trivial ?_
      obtain ⟨J16, eJ16, h⟩ := jn_some h
      try dsimp only at h
      refine WC.join (α := Int × List Int) (fun v16 => ⟨[(2, .ptr 2 0), (3, .ptr 3 0), (4, .ptr 4 0), (6, .ptr 6 0), (8, .p (i6 (((a0.Classes.length : Int))))), (9, .p (i6 (((t2_2.1.Classes.length : Int)))))], [(2, .box 28 (vV1 a0)), (3, .box 28 (vV1 a1)), (4, .box 28 [.p (.sl .nil 0 []), .p (i6 (0)), .p (.sl .nil 0 []), .p (i6 (0)), .p (.sl .nil 0 []), .p (.sl .nil 0 []), .p (bo (false))]), (6, .box 28 [.own 13, .p (i6 (y10_1)), .p (sW y10_2), .p (i6 (v16.1)), .p (sW v16.2), .own 75, .p (bo (t2_2.1.Null))]), (13, rowV 60 (e4 (eI .u64)) t2_2.1.Classes), (75, rowV 25 e_api_Bits t2_2.1.Follow)], L0, []⟩) (fun v16 => J16 v16 = some r) ?_ (fun hJ16 => ?_)
      · rintro ⟨y16_1, y16_2⟩ h
        rw [eJ16] at h
        try dsimp only at h
        refine WX.seq ?_
        refine WC.via (α := Bool) (fun v20 => ⟨[(2, .ptr 2 0), (3, .ptr 3 0), (4, .ptr 4 0), (6, .ptr 6 0), (8, .p (i6 (((a0.Classes.length : Int))))), (9, .p (i6 (((t2_2.1.Classes.length : Int)))))], [(2, .box 28 (vV1 a0)), (3, .box 28 (vV1 a1)), (4, .box 28 [.p (.sl .nil 0 []), .p (i6 (0)), .p (.sl .nil 0 []), .p (i6 (0)), .p (.sl .nil 0 []), .p (.sl .nil 0 []), .p (bo (false))]), (6, .box 28 [.own 13, .p (i6 (y10_1)), .p (sW y10_2), .p (i6 (y16_1)), .p (sW y16_2), .own 75, .p (bo (v20))]), (13, rowV 60 (e4 (eI .u64)) t2_2.1.Classes), (75, rowV 25 e_api_Bits t2_2.1.Follow)], L0, []⟩) ((a0.Null && a1.Null)) (fun hk => ?_) ?_
        · rcases Bool.eq_false_or_eq_true a0.Null with b20_2 | b20_2
          · exact WC.reg hn [(2, .val (.p (bo (true))))] [2, 3, 4, 6, 8, 9] [2, 3, 4, 6, 13, 75] ⟨[(2, .ptr 2 0), (3, .ptr 3 0), (4, .ptr 4 0), (6, .ptr 6 0), (8, .p (i6 (((a0.Classes.length : Int))))), (9, .p (i6 (((t2_2.1.Classes.length : Int)))))], [(2, .box 28 (vV1 a0)), (3, .box 28 (vV1 a1)), (4, .box 28 [.p (.sl .nil 0 []), .p (i6 (0)), .p (.sl .nil 0 []), .p (i6 (0)), .p (.sl .nil 0 []), .p (.sl .nil 0 []), .p (bo (false))]), (6, .box 28 [.own 13, .p (i6 (y10_1)), .p (sW y10_2), .p (i6 (y16_1)), .p (sW y16_2), .own 75, .p (bo (a1.Null))]), (13, rowV 60 (e4 (eI .u64)) t2_2.1.Classes), (75, rowV 25 e_api_Bits t2_2.1.Follow)], L0, []⟩ (And.intro (Bl b20_2) (trivial)) (by kernel_rfl) (hk a1.Null (by first | (rw [b20_2]; rfl) | simp [b20_2]))
          · exact WC.reg hn [(2, .val (.p (bo (false))))] [2, 3, 4, 6, 8, 9] [2, 3, 4, 6, 13, 75] ⟨[(2, .ptr 2 0), (3, .ptr 3 0), (4, .ptr 4 0), (6, .ptr 6 0), (8, .p (i6 (((a0.Classes.length : Int))))), (9, .p (i6 (((t2_2.1.Classes.length : Int)))))], [(2, .box 28 (vV1 a0)), (3, .box 28 (vV1 a1)), (4, .box 28 [.p (.sl .nil 0 []), .p (i6 (0)), .p (.sl .nil 0 []), .p (i6 (0)), .p (.sl .nil 0 []), .p (.sl .nil 0 []), .p (bo (false))]), (6, .box 28 [.own 13, .p (i6 (y10_1)), .p (sW y10_2), .p (i6 (y16_1)), .p (sW y16_2), .own 75, .p (bo (false))]), (13, rowV 60 (e4 (eI .u64)) t2_2.1.Classes), (75, rowV 25 e_api_Bits t2_2.1.Follow)], L0, []⟩ (And.intro (Bl b20_2) (trivial)) (by kernel_rfl) (hk false (by first | (rw [b20_2]; rfl) | simp [b20_2]))
        refine WX.seq ?_
        refine WC.frz 13 (st' := ⟨[(2, .ptr 2 0), (3, .ptr 3 0), (4, .ptr 4 0), (6, .ptr 6 0), (8, .p (i6 (((a0.Classes.length : Int))))), (9, .p (i6 (((t2_2.1.Classes.length : Int)))))], [(2, .box 28 (vV1 a0)), (3, .box 28 (vV1 a1)), (4, .box 28 [.p (.sl .nil 0 []), .p (i6 (0)), .p (.sl .nil 0 []), .p (i6 (0)), .p (.sl .nil 0 []), .p (.sl .nil 0 []), .p (bo (false))]), (6, .box 28 [.p (sC t2_2.1.Classes), .p (i6 (y10_1)), .p (sW y10_2), .p (i6 (y16_1)), .p (sW y16_2), .own 75, .p (bo (((a0.Null && a1.Null))))]), (75, rowV 25 e_api_Bits t2_2.1.Follow)], L0, []⟩) (by kernel_rfl) ?_
        obtain ⟨t22_2, h22_1, h⟩ := bind_some h
        obtain ⟨t22_4, h22_3, h⟩ := bind_some h
        obtain ⟨t22_6, h22_5, h⟩ := bind_some h
        refine WC.drw hn [(10, []), (11, [])] [] [(4, .resP (pP4 t22_2)), (9, .resP (pP4 t22_4)), (10, .co [] [75] [] [(74, rowV 25 e_api_Bits t22_6.Follow)] (.agg [.p (sC t22_6.Classes), .p (i6 (t22_6.First.N)), .p (sW t22_6.First.Words), .p (i6 (t22_6.Last.N)), .p (sW t22_6.Last.Words), .own 74, .p (bo (t22_6.Null))]))] [4, 5] [4, 74] ⟨[(4, .ptr 4 0), (5, .p (i6 (0)))], [(4, .box 28 [.p (sC t22_6.Classes), .p (i6 (t22_6.First.N)), .p (sW t22_6.First.Words), .p (i6 (t22_6.Last.N)), .p (sW t22_6.Last.Words), .own 74, .p (bo (t22_6.Null))]), (74, rowV 25 e_api_Bits t22_6.Follow)], L0, []⟩ (And.intro ((riddleref10_moved_okP h22_1)) (And.intro ((riddleref10_moved_okP h22_3)) (And.intro (And.intro (((riddleref10_behind_ok h22_5).ren 1000 75 (by kernel_rfl)).ren 29 74 (by kernel_rfl)) (trivial)) (trivial)))) (by kernel_rfl) (by kernel_rfl) (by kernel_rfl) (by kernel_rfl) ?_
        refine WX.ret ?_
        exact WC.outO (by rw [← Option.some.inj h]; kernel_rfl)
      · replace hJ16 := fun y16_1 y16_2 => hJ16 (y16_1, y16_2)
        rcases if_or h with ⟨c23, h⟩ | ⟨c23, h⟩
        · refine WC.condT c23 (by kernel_rfl) ?_
          refine WC.frz 46 (st' := ⟨[(2, .ptr 2 0), (3, .ptr 3 0), (4, .ptr 4 0), (6, .ptr 6 0), (8, .p (i6 (((a0.Classes.length : Int))))), (9, .p (i6 (((t2_2.1.Classes.length : Int))))), (49, .p (bo (a1.Null)))], [(2, .box 28 (vV1 a0)), (3, .box 28 (vV1 a1)), (4, .box 28 [.p (.sl .nil 0 []), .p (i6 (0)), .p (.sl .nil 0 []), .p (i6 (0)), .p (.sl .nil 0 []), .p (.sl .nil 0 []), .p (bo (false))]), (6, .box 28 [.own 13, .p (i6 (y10_1)), .p (sW y10_2), .p (i6 (t14_2.N)), .p (sW t14_2.Words), .own 75, .p (bo (t2_2.1.Null))]), (13, rowV 60 (e4 (eI .u64)) t2_2.1.Classes), (75, rowV 25 e_api_Bits t2_2.1.Follow)], L0, []⟩) (by kernel_rfl) ?_
          obtain ⟨t25_2, h25_1, h⟩ := bind_some h
          obtain ⟨t25_4, h25_3, h⟩ := bind_some h
          refine WC.drw hn [(8, [])] [] [(5, .resP (pP4 t25_2)), (6, .resP (pP4 t25_4))] [2, 3, 4, 6, 8, 9] [2, 3, 4, 6, 13, 75] ⟨[(2, .ptr 2 0), (3, .ptr 3 0), (4, .ptr 4 0), (6, .ptr 6 0), (8, .p (i6 (((a0.Classes.length : Int))))), (9, .p (i6 (((t2_2.1.Classes.length : Int)))))], [(2, .box 28 (vV1 a0)), (3, .box 28 (vV1 a1)), (4, .box 28 [.p (.sl .nil 0 []), .p (i6 (0)), .p (.sl .nil 0 []), .p (i6 (0)), .p (.sl .nil 0 []), .p (.sl .nil 0 []), .p (bo (false))]), (6, .box 28 [.own 13, .p (i6 (y10_1)), .p (sW y10_2), .p (i6 (t25_4.N)), .p (sW t25_4.Words), .own 75, .p (bo (t2_2.1.Null))]), (13, rowV 60 (e4 (eI .u64)) t2_2.1.Classes), (75, rowV 25 e_api_Bits t2_2.1.Follow)], L0, []⟩ (And.intro ((riddleref10_moved_okP h25_1)) (And.intro ((riddleref01_Or_okP h25_3)) (trivial))) (by kernel_rfl) (by kernel_rfl) (by kernel_rfl) (by kernel_rfl) ?_
          exact WC.keep [2, 3, 4, 6, 8, 9] [2, 3, 4, 6, 13, 75] (by kernel_rfl) (hJ16 t25_4.N t25_4.Words h)
        · refine WC.condF c23 (by kernel_rfl) ?_
          refine WX.skip ?_
          refine WC.keep [2, 3, 4, 6, 8, 9] [2, 3, 4, 6, 13, 46, 75] (st' := ⟨[(2, .ptr 2 0), (3, .ptr 3 0), (4, .ptr 4 0), (6, .ptr 6 0), (8, .p (i6 (((a0.Classes.length : Int))))), (9, .p (i6 (((t2_2.1.Classes.length : Int)))))], [(2, .box 28 (vV1 a0)), (3, .box 28 (vV1 a1)), (4, .box 28 [.p (.sl .nil 0 []), .p (i6 (0)), .p (.sl .nil 0 []), .p (i6 (0)), .p (.sl .nil 0 []), .p (.sl .nil 0 []), .p (bo (false))]), (6, .box 28 [.own 13, .p (i6 (y10_1)), .p (sW y10_2), .p (i6 (t14_2.N)), .own 46, .own 75, .p (bo (t2_2.1.Null))]), (13, rowV 60 (e4 (eI .u64)) t2_2.1.Classes), (46, rW 58 t14_2.Words), (75, rowV 25 e_api_Bits t2_2.1.Follow)], L0, []⟩) (by kernel_rfl) ?_
          refine WC.frz 46 (st' := ⟨[(2, .ptr 2 0), (3, .ptr 3 0), (4, .ptr 4 0), (6, .ptr 6 0), (8, .p (i6 (((a0.Classes.length : Int))))), (9, .p (i6 (((t2_2.1.Classes.length : Int)))))], [(2, .box 28 (vV1 a0)), (3, .box 28 (vV1 a1)), (4, .box 28 [.p (.sl .nil 0 []), .p (i6 (0)), .p (.sl .nil 0 []), .p (i6 (0)), .p (.sl .nil 0 []), .p (.sl .nil 0 []), .p (bo (false))]), (6, .box 28 [.own 13, .p (i6 (y10_1)), .p (sW y10_2), .p (i6 (t14_2.N)), .p (sW t14_2.Words), .own 75, .p (bo (t2_2.1.Null))]), (13, rowV 60 (e4 (eI .u64)) t2_2.1.Classes), (75, rowV 25 e_api_Bits t2_2.1.Follow)], L0, []⟩) (by kernel_rfl) ?_
          exact WC.keep [2, 3, 4, 6, 8, 9] [2, 3, 4, 6, 13, 75] (by kernel_rfl) (hJ16 t14_2.N t14_2.Words h)
    · replace hJ10 := fun y10_1 y10_2 => hJ10 (y10_1, y10_2)
      rcases if_or h with ⟨c26, h⟩ | ⟨c26, h⟩
      · refine WC.condT c26 (by kernel_rfl) ?_
        refine WC.frz 29 (st' := ⟨[(2, .ptr 2 0), (3, .ptr 3 0), (4, .ptr 4 0), (6, .ptr 6 0), (8, .p (i6 (((a0.Classes.length : Int))))), (9, .p (i6 (((t2_2.1.Classes.length : Int))))), (32, .p (bo (a0.Null)))], [(2, .box 28 (vV1 a0)), (3, .box 28 (vV1 a1)), (4, .box 28 [.p (.sl .nil 0 []), .p (i6 (0)), .p (.sl .nil 0 []), .p (i6 (0)), .p (.sl .nil 0 []), .p (.sl .nil 0 []), .p (bo (false))]), (6, .box 28 [.own 13, .p (i6 (t8_2.N)), .p (sW t8_2.Words), .p (i6 (t2_2.1.Last.N)), .p (sW t2_2.1.Last.Words), .own 75, .p (bo (t2_2.1.Null))]), (13, rowV 60 (e4 (eI .u64)) t2_2.1.Classes), (75, rowV 25 e_api_Bits t2_2.1.Follow)], L0, []⟩) (by kernel_rfl) ?_
        obtain ⟨t28_2, h28_1, h⟩ := bind_some h
        obtain ⟨t28_4, h28_3, h⟩ := bind_some h
        refine WC.drw hn [(9, [])] [] [(6, .resP (pP4 t28_2)), (7, .resP (pP4 t28_4))] [2, 3, 4, 6, 8, 9] [2, 3, 4, 6, 13, 75] ⟨[(2, .ptr 2 0), (3, .ptr 3 0), (4, .ptr 4 0), (6, .ptr 6 0), (8, .p (i6 (((a0.Classes.length : Int))))), (9, .p (i6 (((t2_2.1.Classes.length : Int)))))], [(2, .box 28 (vV1 a0)), (3, .box 28 (vV1 a1)), (4, .box 28 [.p (.sl .nil 0 []), .p (i6 (0)), .p (.sl .nil 0 []), .p (i6 (0)), .p (.sl .nil 0 []), .p (.sl .nil 0 []), .p (bo (false))]), (6, .box 28 [.own 13, .p (i6 (t28_4.N)), .p (sW t28_4.Words), .p (i6 (t2_2.1.Last.N)), .p (sW t2_2.1.Last.Words), .own 75, .p (bo (t2_2.1.Null))]), (13, rowV 60 (e4 (eI .u64)) t2_2.1.Classes), (75, rowV 25 e_api_Bits t2_2.1.Follow)], L0, []⟩ (And.intro ((riddleref10_moved_okP h28_1)) (And.intro ((riddleref01_Or_okP h28_3)) (trivial))) (by kernel_rfl) (by kernel_rfl) (by kernel_rfl) (by kernel_rfl) ?_
        exact WC.keep [2, 3, 4, 6, 8, 9] [2, 3, 4, 6, 13, 75] (by kernel_rfl) (hJ10 t28_4.N t28_4.Words h)
      · refine WC.condF c26 (by kernel_rfl) ?_
        refine WX.skip ?_
        refine WC.keep [2, 3, 4, 6, 8, 9] [2, 3, 4, 6, 13, 29, 75] (st' := ⟨[(2, .ptr 2 0), (3, .ptr 3 0), (4, .ptr 4 0), (6, .ptr 6 0), (8, .p (i6 (((a0.Classes.length : Int))))), (9, .p (i6 (((t2_2.1.Classes.length : Int)))))], [(2, .box 28 (vV1 a0)), (3, .box 28 (vV1 a1)), (4, .box 28 [.p (.sl .nil 0 []), .p (i6 (0)), .p (.sl .nil 0 []), .p (i6 (0)), .p (.sl .nil 0 []), .p (.sl .nil 0 []), .p (bo (false))]), (6, .box 28 [.own 13, .p (i6 (t8_2.N)), .own 29, .p (i6 (t2_2.1.Last.N)), .p (sW t2_2.1.Last.Words), .own 75, .p (bo (t2_2.1.Null))]), (13, rowV 60 (e4 (eI .u64)) t2_2.1.Classes), (29, rW 58 t8_2.Words), (75, rowV 25 e_api_Bits t2_2.1.Follow)], L0, []⟩) (by kernel_rfl) ?_
        refine WC.frz 29 (st' := ⟨[(2, .ptr 2 0), (3, .ptr 3 0), (4, .ptr 4 0), (6, .ptr 6 0), (8, .p (i6 (((a0.Classes.length : Int))))), (9, .p (i6 (((t2_2.1.Classes.length : Int)))))], [(2, .box 28 (vV1 a0)), (3, .box 28 (vV1 a1)), (4, .box 28 [.p (.sl .nil 0 []), .p (i6 (0)), .p (.sl .nil 0 []), .p (i6 (0)), .p (.sl .nil 0 []), .p (.sl .nil 0 []), .p (bo (false))]), (6, .box 28 [.own 13, .p (i6 (t8_2.N)), .p (sW t8_2.Words), .p (i6 (t2_2.1.Last.N)), .p (sW t2_2.1.Last.Words), .own 75, .p (bo (t2_2.1.Null))]), (13, rowV 60 (e4 (eI .u64)) t2_2.1.Classes), (75, rowV 25 e_api_Bits t2_2.1.Follow)], L0, []⟩) (by kernel_rfl) ?_
        exact WC.keep [2, 3, 4, 6, 8, 9] [2, 3, 4, 6, 13, 75] (by kernel_rfl) (hJ10 t8_2.N t8_2.Words h)
theorem riddleref10_Cat_okP {k : Nat} {a0 : api_Nfa} {a1 : api_Nfa} {r : api_Nfa × Int} (h : riddleref10_Cat k a0 a1 = some r) : Ans Tryd.prog 37 [pP1 a0, pP1 a1] (.tup [pP1 r.1, i6 (r.2)]) := AnsO.ans (args := [pP1 a0, pP1 a1]) (riddleref10_Cat_ok h) (by kernel_rfl)
def riddlelaw12_told_v1_l0 (k : Nat) (a1 : Int) (J5 : List Int → Option ((List Int))) : List Int → List Int → Option ((List Int))
  | [], x16_1_1 => J5 x16_1_1
  | x16 :: xs16, x16_1_1 => (if (decide ((x16_1_1.length : Int) ≥ a1)) = true then J5 x16_1_1 else (if okApp 8 (x16_1_1.length + ([x16]).length) then riddlelaw12_told_v1_l0 k a1 J5 xs16 (x16_1_1 ++ ([x16])) else none))
def riddlelaw12_told_v1 (k : Nat) (a0 : (Int × (List Int) × api_Nfa)) (a1 : Int) : Option ((List Int)) :=
  jn (fun (v5 : List Int) => some v5) fun J5 => (reverse_Starts_1_v1 k a0.1 a0.2.1 a0.2.2).bind fun l16 => riddlelaw12_told_v1_l0 k a1 J5 l16 (([] : List Int))
theorem riddlelaw12_told_v1_ok {k : Nat} {a0 : (Int × (List Int) × api_Nfa)} {a1 : Int} {r : (List Int)} (h : riddlelaw12_told_v1 k a0 a1 = some r) : AnsO Tryd.prog 15 [] [.p (.fn 38 [.rop ([i6 (a0.1)]), .rop ([slV (eI .u8) a0.2.1]), .rop ([sC a0.2.2.Classes, i6 (a0.2.2.First.N), sW a0.2.2.First.Words, i6 (a0.2.2.Last.N), sW a0.2.2.Last.Words, sB a0.2.2.Follow, bo (a0.2.2.Null)])]), .p (i6 (a1))] [(18, rI 3 r)] (.own 18) := by
  refine W_fnO [18] Tryd.func15 rfl (by kernel_rfl) (by kernel_rfl) (by kernel_rfl) (by kernel_rfl) ?_
  intro X hro hn
  unfold riddlelaw12_told_v1 at h
  refine WC.rg hn [] [0, 3] [3] ⟨[(0, .p (.fn 38 [.rop ([i6 (a0.1)]), .rop ([slV (eI .u8) a0.2.1]), .rop ([sC a0.2.2.Classes, i6 (a0.2.2.First.N), sW a0.2.2.First.Words, i6 (a0.2.2.Last.N), sW a0.2.2.Last.Words, sB a0.2.2.Follow, bo (a0.2.2.Null)])])), (3, .ptr 3 0)], [(3, .box 3 [.p (i6 (a1))])], L0, []⟩ trivial ?_
  refine WX.seq ?_
  refine WC.rg hn [] [0, 3, 8] [3] ⟨[(0, .p (.fn 38 [.rop ([i6 (a0.1)]), .rop ([slV (eI .u8) a0.2.1]), .rop ([sC a0.2.2.Classes, i6 (a0.2.2.First.N), sW a0.2.2.First.Words, i6 (a0.2.2.Last.N), sW a0.2.2.Last.Words, sB a0.2.2.Follow, bo (a0.2.2.Null)])])), (3, .ptr 3 0), (8, .p (bo (false)))], [(3, .box 3 [.p (i6 (a1))])], L0, []⟩ trivial ?_
  refine WC.condF rfl (by kernel_rfl) ?_
  refine WX.skip ?_
  refine WC.rg hn [] [0, 3, 5] [3, 5] ⟨[(0, .p (.fn 38 [.rop ([i6 (a0.1)]), .rop ([slV (eI .u8) a0.2.1]), .rop ([sC a0.2.2.Classes, i6 (a0.2.2.First.N), sW a0.2.2.First.Words, i6 (a0.2.2.Last.N), sW a0.2.2.Last.Words, sB a0.2.2.Follow, bo (a0.2.2.Null)])])), (3, .ptr 3 0), (5, .ptr 5 0)], [(3, .box 3 [.p (i6 (a1))]), (5, .box 31 [.p (.sl .nil 0 [])])], L0, []⟩ trivial ?_
  refine WX.seq ?_
  refine WC.rg hn [] [3, 5, 9] [3, 5] ⟨[(3, .ptr 3 0), (5, .ptr 5 0), (9, .p (.fn 38 [.rop ([i6 (a0.1)]), .rop ([slV (eI .u8) a0.2.1]), .rop ([sC a0.2.2.Classes, i6 (a0.2.2.First.N), sW a0.2.2.First.Words, i6 (a0.2.2.Last.N), sW a0.2.2.Last.Words, sB a0.2.2.Follow, bo (a0.2.2.Null)])]))], [(3, .box 3 [.p (i6 (a1))]), (5, .box 31 [.p (.sl .nil 0 [])])], L0, []⟩ trivial ?_
  obtain ⟨J5, eJ5, h⟩ := jn_some h
  try dsimp only at h
  refine WC.join (α := List Int) (fun v5 => ⟨[(5, .ptr 5 0)], [(5, .box 31 [.own 18]), (18, rI 3 v5)], L0, []⟩) (fun v5 => J5 v5 = some r) ?_ (fun hJ5 => ?_)
  · rintro y5_1 h
    rw [eJ5] at h
    try dsimp only at h
    refine WC.rg hn [] [4] [18] ⟨[(4, .own 18)], [(18, rI 3 y5_1)], L0, []⟩ trivial ?_
    refine WX.ret ?_
    exact WC.outO (by rw [← Option.some.inj h]; kernel_rfl)
  · replace hJ5 := fun y5_1 => hJ5 y5_1
    refine WX.block ?_
    obtain ⟨l16, hI16, h⟩ := bind_some h
    refine WC.nil hn [] (some (5, 0)) 18 3 1 (by kernel_rfl) [3, 5, 9] [3, 5, 18] (st' := ⟨[(3, .ptr 3 0), (5, .ptr 5 0), (9, .p (.fn 38 [.rop ([i6 (a0.1)]), .rop ([slV (eI .u8) a0.2.1]), .rop ([sC a0.2.2.Classes, i6 (a0.2.2.First.N), sW a0.2.2.First.Words, i6 (a0.2.2.Last.N), sW a0.2.2.Last.Words, sB a0.2.2.Follow, bo (a0.2.2.Null)])]))], [(3, .box 3 [.p (i6 (a1))]), (5, .box 31 [.own 18]), (18, rI 3 (([] : List Int)))], L0, []⟩) (by kernel_rfl) ?_
    refine WC.range (V := List Int) hn (riddlelaw12_told_v1_l0 k a1 J5) r (fun v16 => ⟨[(3, .ptr 3 0), (5, .ptr 5 0), (9, .p (.fn 38 [.rop ([i6 (a0.1)]), .rop ([slV (eI .u8) a0.2.1]), .rop ([sC a0.2.2.Classes, i6 (a0.2.2.First.N), sW a0.2.2.First.Words, i6 (a0.2.2.Last.N), sW a0.2.2.Last.Words, sB a0.2.2.Follow, bo (a0.2.2.Null)])]))], [(3, .box 3 [.p (i6 (a1))]), (5, .box 31 [.own 18]), (18, rI 3 v16)], L0, []⟩) (fun x16 v16 => ⟨[(3, .ptr 3 0), (5, .ptr 5 0), (6, .p (i6 (x16))), (9, .p (.fn 38 [.rop ([i6 (a0.1)]), .rop ([slV (eI .u8) a0.2.1]), .rop ([sC a0.2.2.Classes, i6 (a0.2.2.First.N), sW a0.2.2.First.Words, i6 (a0.2.2.Last.N), sW a0.2.2.Last.Words, sB a0.2.2.Follow, bo (a0.2.2.Null)])])), (10, .p (i6 (x16)))], [(3, .box 3 [.p (i6 (a1))]), (5, .box 31 [.own 18]), (18, rI 3 v16)], ⟨[], false⟩, [[(3, .ptr 3 0), (5, .ptr 5 0), (9, .p (.fn 38 [.rop ([i6 (a0.1)]), .rop ([slV (eI .u8) a0.2.1]), .rop ([sC a0.2.2.Classes, i6 (a0.2.2.First.N), sW a0.2.2.First.Words, i6 (a0.2.2.Last.N), sW a0.2.2.Last.Words, sB a0.2.2.Follow, bo (a0.2.2.Null)])]))]]⟩) (fun x : Int => ([i6 (x)] : List PV)) l16 (([] : List Int)) h [3, 5, 9] [3, 5, 18] (by kernel_rfl) (fun v16 => .p (.fn 38 [.rop ([i6 (a0.1)]), .rop ([slV (eI .u8) a0.2.1]), .rop ([sC a0.2.2.Classes, i6 (a0.2.2.First.N), sW a0.2.2.First.Words, i6 (a0.2.2.Last.N), sW a0.2.2.Last.Words, sB a0.2.2.Follow, bo (a0.2.2.Null)])])) (fun v16 => by kernel_rfl) (by kernel_rfl) (reverse_Starts_1_v1_it hI16) (by kernel_rfl) (fun v16 => by kernel_rfl) (fun x => rfl) ?_ ?_ ?_
    · clear h; rintro x16_1_1 h
      rw [riddlelaw12_told_v1_l0] at h
      refine WX.popBlk ?_
      exact WC.keep [5] [5, 18] (by kernel_rfl) (hJ5 x16_1_1 h)
    · clear h; intro X hn x16; rintro x16_1_1
      refine WC.r1 hn [] [3, 5, 6, 9, 10] [3, 5, 18] ⟨[(3, .ptr 3 0), (5, .ptr 5 0), (6, .p (i6 (x16))), (9, .p (.fn 38 [.rop ([i6 (a0.1)]), .rop ([slV (eI .u8) a0.2.1]), .rop ([sC a0.2.2.Classes, i6 (a0.2.2.First.N), sW a0.2.2.First.Words, i6 (a0.2.2.Last.N), sW a0.2.2.Last.Words, sB a0.2.2.Follow, bo (a0.2.2.Null)])])), (10, .p (i6 (x16)))], [(3, .box 3 [.p (i6 (a1))]), (5, .box 31 [.own 18]), (18, rI 3 x16_1_1)], ⟨[], false⟩, [[(3, .ptr 3 0), (5, .ptr 5 0), (9, .p (.fn 38 [.rop ([i6 (a0.1)]), .rop ([slV (eI .u8) a0.2.1]), .rop ([sC a0.2.2.Classes, i6 (a0.2.2.First.N), sW a0.2.2.First.Words, i6 (a0.2.2.Last.N), sW a0.2.2.Last.Words, sB a0.2.2.Follow, bo (a0.2.2.Null)])]))]]⟩ trivial ?_
      exact WC.exit_nil ⟨rfl, rfl⟩
    · clear h; intro X hn x16 xs16; rintro x16_1_1 h K16 hnext16 hexit16
      rw [riddlelaw12_told_v1_l0] at h
      refine WX.block ?_
      refine WX.seq ?_
      refine WC.rg hn [] [5, 6, 14] [3, 5, 18] ⟨[(5, .ptr 5 0), (6, .p (i6 (x16))), (14, .p (bo (((decide ((x16_1_1.length : Int) ≥ a1))))))], [(3, .box 3 [.p (i6 (a1))]), (5, .box 31 [.own 18]), (18, rI 3 x16_1_1)], ⟨[], false⟩, [[(3, .ptr 3 0), (5, .ptr 5 0), (9, .p (.fn 38 [.rop ([i6 (a0.1)]), .rop ([slV (eI .u8) a0.2.1]), .rop ([sC a0.2.2.Classes, i6 (a0.2.2.First.N), sW a0.2.2.First.Words, i6 (a0.2.2.Last.N), sW a0.2.2.Last.Words, sB a0.2.2.Follow, bo (a0.2.2.Null)])]))]]⟩ trivial ?_
      rcases if_or h with ⟨c27, h⟩ | ⟨c27, h⟩
      · refine WC.condT c27 (by kernel_rfl) ?_
        refine WX.exit ?_
        refine WX.popCodeExit ?_
        refine WX.popBlkPass (by decide) ?_
        refine WC.exit_nil (hexit16 _ _ (by simp) ?_)
        refine WC.keep [3, 5, 9] [3, 5, 18] (st' := ⟨[(3, .ptr 3 0), (5, .ptr 5 0), (9, .p (.fn 38 [.rop ([i6 (a0.1)]), .rop ([slV (eI .u8) a0.2.1]), .rop ([sC a0.2.2.Classes, i6 (a0.2.2.First.N), sW a0.2.2.First.Words, i6 (a0.2.2.Last.N), sW a0.2.2.Last.Words, sB a0.2.2.Follow, bo (a0.2.2.Null)])]))], [(3, .box 3 [.p (i6 (a1))]), (5, .box 31 [.own 18]), (18, rI 3 x16_1_1)], L0, []⟩) (by kernel_rfl) ?_
        refine WX.popBlkHit ?_
        exact WC.keep [5] [5, 18] (by kernel_rfl) (hJ5 x16_1_1 h)
      · refine WC.condF c27 (by kernel_rfl) ?_
        refine WX.skip ?_
        obtain ⟨c28_1, h⟩ := if_some h
        refine WC.r1 hn [(3, .app (some 18) (rI 3 (x16_1_1 ++ ([x16]))))] [] [3, 5, 18] ⟨[], [(3, .box 3 [.p (i6 (a1))]), (5, .box 31 [.own 18]), (18, rI 3 (x16_1_1 ++ ([x16])))], ⟨[], false⟩, [[(3, .ptr 3 0), (5, .ptr 5 0), (9, .p (.fn 38 [.rop ([i6 (a0.1)]), .rop ([slV (eI .u8) a0.2.1]), .rop ([sC a0.2.2.Classes, i6 (a0.2.2.First.N), sW a0.2.2.First.Words, i6 (a0.2.2.Last.N), sW a0.2.2.Last.Words, sB a0.2.2.Follow, bo (a0.2.2.Null)])]))]]⟩ (And.intro (Ap (eI .i64) (some 18) 3 8 1 x16_1_1 ([x16]) c28_1) (trivial)) ?_
        refine WX.popBlk ?_
        refine WC.keep [] [3, 5, 18] (st' := ⟨[], [(3, .box 3 [.p (i6 (a1))]), (5, .box 31 [.own 18]), (18, rI 3 (x16_1_1 ++ ([x16])))], ⟨[], false⟩, [[(3, .ptr 3 0), (5, .ptr 5 0), (9, .p (.fn 38 [.rop ([i6 (a0.1)]), .rop ([slV (eI .u8) a0.2.1]), .rop ([sC a0.2.2.Classes, i6 (a0.2.2.First.N), sW a0.2.2.First.Words, i6 (a0.2.2.Last.N), sW a0.2.2.Last.Words, sB a0.2.2.Follow, bo (a0.2.2.Null)])]))]]⟩) (by kernel_rfl) ?_
        exact WC.nextR [] [3, 5, 18] (s := ⟨[], [(3, .box 3 [.p (i6 (a1))]), (5, .box 31 [.own 18]), (18, rI 3 (x16_1_1 ++ ([x16])))], ⟨[], false⟩, [[(3, .ptr 3 0), (5, .ptr 5 0), (9, .p (.fn 38 [.rop ([i6 (a0.1)]), .rop ([slV (eI .u8) a0.2.1]), .rop ([sC a0.2.2.Classes, i6 (a0.2.2.First.N), sW a0.2.2.First.Words, i6 (a0.2.2.Last.N), sW a0.2.2.Last.Words, sB a0.2.2.Follow, bo (a0.2.2.Null)])]))]]⟩) (by kernel_rfl) rfl (fun s hb => hnext16 (x16_1_1 ++ ([x16])) s h hb)
theorem riddlelaw12_told_v1_okP {k : Nat} {a0 : (Int × (List Int) × api_Nfa)} {a1 : Int} {r : (List Int)} (h : riddlelaw12_told_v1 k a0 a1 = some r) : Ans Tryd.prog 15 [.fn 38 [.rop ([i6 (a0.1)]), .rop ([slV (eI .u8) a0.2.1]), .rop ([sC a0.2.2.Classes, i6 (a0.2.2.First.N), sW a0.2.2.First.Words, i6 (a0.2.2.Last.N), sW a0.2.2.Last.Words, sB a0.2.2.Follow, bo (a0.2.2.Null)])], i6 (a1)] (sI r) := AnsO.ans (args := [.fn 38 [.rop ([i6 (a0.1)]), .rop ([slV (eI .u8) a0.2.1]), .rop ([sC a0.2.2.Classes, i6 (a0.2.2.First.N), sW a0.2.2.First.Words, i6 (a0.2.2.Last.N), sW a0.2.2.Last.Words, sB a0.2.2.Follow, bo (a0.2.2.Null)])], i6 (a1)]) (riddlelaw12_told_v1_ok h) (by kernel_rfl)
def riddlelaw12_begun (k : Nat)  : Option (Bool) :=
  (riddleref10_Leaf k ((Arr4.mk 0 8589934592 0 0))).bind fun t4_2 => (riddleref10_Star k t4_2).bind fun t4_4 => (riddleref10_Leaf k ((Arr4.mk 0 8589934592 0 0))).bind fun t6_2 => (riddleref10_Cat k t6_2 t4_4.1).bind fun t6_4 => (riddleref10_Leaf k ((Arr4.mk 0 17179869184 0 0))).bind fun t7_2 => (riddleref10_Cat k t6_4.1 t7_2).bind fun t7_4 => (reverse_Least k t7_4.1 ([97, 97, 98]) 3 false false).bind fun t8_2 => (reverse_Starts k t7_4.1 ([97, 97, 98]) 3).bind fun t9_2 => (riddlelaw12_told_v1 k ((t9_2.1, t9_2.2.1, t9_2.2.2)) 9).bind fun t9_4 => (slices_Equal_int_int k t9_4 ([1, 0])).bind fun t9_6 => some ((t9_6 && ((((t8_2.1 == 0)) && t8_2.2))))
theorem riddlelaw12_begun_ok {k : Nat}  {r : Bool} (h : riddlelaw12_begun k = some r) : Ans Tryd.prog 13 [] (bo (r)) := by
  refine W_fn Tryd.func13 rfl (by kernel_rfl) (by kernel_rfl) ?_
  intro X hro hn
  unfold riddlelaw12_begun at h
  refine WC.rg hn [] [] [] ⟨[], [], L0, []⟩ trivial ?_
  refine WC.rg hn [] [1, 2] [1, 2] ⟨[(1, .ptr 1 0), (2, .ptr 2 0)], [(1, .box 60 [.p (u6 (0)), .p (u6 (0)), .p (u6 (0)), .p (u6 (0))]), (2, .box 60 [.p (u6 (0)), .p (u6 (0)), .p (u6 (0)), .p (u6 (0))])], L0, []⟩ trivial ?_
  refine WC.rg hn [] [1, 2] [1, 2] ⟨[(1, .ptr 1 0), (2, .ptr 2 0)], [(1, .box 60 [.p (u6 (0)), .p (u6 (8589934592)), .p (u6 (0)), .p (u6 (0))]), (2, .box 60 [.p (u6 (0)), .p (u6 (17179869184)), .p (u6 (0)), .p (u6 (0))])], L0, []⟩ trivial ?_
  refine WX.seq ?_
  obtain ⟨t4_2, h4_1, h⟩ := bind_some h
  obtain ⟨t4_4, h4_3, h⟩ := bind_some h
  refine WC.r1 hn [(1, .resP (pP1 t4_2)), (2, .co [] [] [] [(16, rowV 25 e_api_Bits t4_4.1.Follow)] (.tup [.agg [.p (sC t4_4.1.Classes), .p (i6 (t4_4.1.First.N)), .p (sW t4_4.1.First.Words), .p (i6 (t4_4.1.Last.N)), .p (sW t4_4.1.Last.Words), .own 16, .p (bo (t4_4.1.Null))], .p (i6 (t4_4.2))]))] [1, 2, 3] [1, 2, 3, 16] ⟨[(1, .ptr 1 0), (2, .ptr 2 0), (3, .ptr 3 0)], [(1, .box 60 [.p (u6 (0)), .p (u6 (8589934592)), .p (u6 (0)), .p (u6 (0))]), (2, .box 60 [.p (u6 (0)), .p (u6 (17179869184)), .p (u6 (0)), .p (u6 (0))]), (3, .box 28 [.p (sC t4_4.1.Classes), .p (i6 (t4_4.1.First.N)), .p (sW t4_4.1.First.Words), .p (i6 (t4_4.1.Last.N)), .p (sW t4_4.1.Last.Words), .own 16, .p (bo (t4_4.1.Null))]), (16, rowV 25 e_api_Bits t4_4.1.Follow)], L0, []⟩ (And.intro ((riddleref10_Leaf_ok h4_1)) (And.intro (And.intro ((riddleref10_Star_ok h4_3).ren 27 16 (by kernel_rfl)) (trivial)) (trivial))) ?_
  refine WX.seq ?_
  refine WC.frz 16 (st' := ⟨[(1, .ptr 1 0), (2, .ptr 2 0), (3, .ptr 3 0)], [(1, .box 60 [.p (u6 (0)), .p (u6 (8589934592)), .p (u6 (0)), .p (u6 (0))]), (2, .box 60 [.p (u6 (0)), .p (u6 (17179869184)), .p (u6 (0)), .p (u6 (0))]), (3, .box 28 (vV1 t4_4.1))], L0, []⟩) (by kernel_rfl) ?_
  obtain ⟨t6_2, h6_1, h⟩ := bind_some h
  obtain ⟨t6_4, h6_3, h⟩ := bind_some h
  refine WC.drw hn [(8, [6])] [5] [(1, .resP (pP1 t6_2)), (3, .resP (.tup [pP1 t6_4.1, i6 (t6_4.2)]))] [2, 5] [2, 5] ⟨[(2, .ptr 2 0), (5, .ptr 5 0)], [(2, .box 60 [.p (u6 (0)), .p (u6 (17179869184)), .p (u6 (0)), .p (u6 (0))]), (5, .box 28 (vV1 t6_4.1))], L0, []⟩ (And.intro ((riddleref10_Leaf_ok h6_1)) (And.intro ((riddleref10_Cat_okP h6_3)) (And.intro (And.intro (Eq.refl (some (.p (i6 (t6_4.2)) : AV))) (trivial)) (trivial)))) (by kernel_rfl) (by kernel_rfl) (by kernel_rfl) (by kernel_rfl) ?_
  refine WX.seq ?_
  obtain ⟨t7_2, h7_1, h⟩ := bind_some h
  obtain ⟨t7_4, h7_3, h⟩ := bind_some h
  refine WC.drw hn [(8, [6])] [7] [(2, .resP (pP1 t7_2)), (3, .resP (.tup [pP1 t7_4.1, i6 (t7_4.2)]))] [7] [7] ⟨[(7, .ptr 7 0)], [(7, .box 28 (vV1 t7_4.1))], L0, []⟩ (And.intro ((riddleref10_Leaf_ok h7_1)) (And.intro ((riddleref10_Cat_okP h7_3)) (And.intro (And.intro (Eq.refl (some (.p (i6 (t7_4.2)) : AV))) (trivial)) (trivial)))) (by kernel_rfl) (by kernel_rfl) (by kernel_rfl) (by kernel_rfl) ?_
  refine WX.seq ?_
  obtain ⟨t8_2, h8_1, h⟩ := bind_some h
  refine WC.r1 hn [(3, .resP (.tup [i6 (t8_2.1), bo (t8_2.2)]))] [7, 9, 10] [7] ⟨[(7, .ptr 7 0), (9, .p (i6 (t8_2.1))), (10, .p (bo (t8_2.2)))], [(7, .box 28 (vV1 t7_4.1))], L0, []⟩ (And.intro ((reverse_Least_ok h8_1)) (trivial)) ?_
  refine WX.seq ?_
  obtain ⟨t9_2, h9_1, h⟩ := bind_some h
  obtain ⟨t9_4, h9_3, h⟩ := bind_some h
  obtain ⟨t9_6, h9_5, h⟩ := bind_some h
  refine WC.via (α := Bool) (fun v9 => ⟨[(0, .p (bo (v9)))], [], L0, []⟩) ((t9_6 && ((((t8_2.1 == 0)) && t8_2.2)))) (fun hk => ?_) ?_
  · rcases Bool.eq_false_or_eq_true t9_6 with b9_7 | b9_7
    · rcases Bool.eq_false_or_eq_true ((t8_2.1 == 0)) with b9_11 | b9_11
      · exact WC.reg hn [(3, .resP (.fn 38 [.rop ([i6 (t9_2.1)]), .rop ([slV (eI .u8) t9_2.2.1]), .rop ([sC t9_2.2.2.Classes, i6 (t9_2.2.2.First.N), sW t9_2.2.2.First.Words, i6 (t9_2.2.2.Last.N), sW t9_2.2.2.Last.Words, sB t9_2.2.2.Follow, bo (t9_2.2.2.Null)])])), (4, .co [] [] [] [(44, rI 3 t9_4)] (.own 44)), (6, .res (bo (t9_6))), (7, .val (.p (bo (true)))), (11, .val (.p (bo (true))))] [0] [] ⟨[(0, .p (bo (t8_2.2)))], [], L0, []⟩ (And.intro ((reverse_Starts_ok h9_1)) (And.intro (And.intro ((riddlelaw12_told_v1_ok h9_3).ren 18 44 (by kernel_rfl)) (trivial)) (And.intro (And.intro (slices_Equal_int_int_ok h9_5) (rfl : (bo (t9_6) : PV).flat = true)) (And.intro (Bl b9_7) (And.intro (Bl b9_11) (trivial)))))) (by kernel_rfl) (hk t8_2.2 (by first | (rw [b9_7, b9_11]; rfl) | simp [b9_7, b9_11]))
      · exact WC.reg hn [(3, .resP (.fn 38 [.rop ([i6 (t9_2.1)]), .rop ([slV (eI .u8) t9_2.2.1]), .rop ([sC t9_2.2.2.Classes, i6 (t9_2.2.2.First.N), sW t9_2.2.2.First.Words, i6 (t9_2.2.2.Last.N), sW t9_2.2.2.Last.Words, sB t9_2.2.2.Follow, bo (t9_2.2.2.Null)])])), (4, .co [] [] [] [(44, rI 3 t9_4)] (.own 44)), (6, .res (bo (t9_6))), (7, .val (.p (bo (true)))), (11, .val (.p (bo (false))))] [0] [] ⟨[(0, .p (bo (false)))], [], L0, []⟩ (And.intro ((reverse_Starts_ok h9_1)) (And.intro (And.intro ((riddlelaw12_told_v1_ok h9_3).ren 18 44 (by kernel_rfl)) (trivial)) (And.intro (And.intro (slices_Equal_int_int_ok h9_5) (rfl : (bo (t9_6) : PV).flat = true)) (And.intro (Bl b9_7) (And.intro (Bl b9_11) (trivial)))))) (by kernel_rfl) (hk false (by first | (rw [b9_7, b9_11]; rfl) | simp [b9_7, b9_11]))
    · exact WC.reg hn [(3, .resP (.fn 38 [.rop ([i6 (t9_2.1)]), .rop ([slV (eI .u8) t9_2.2.1]), .rop ([sC t9_2.2.2.Classes, i6 (t9_2.2.2.First.N), sW t9_2.2.2.First.Words, i6 (t9_2.2.2.Last.N), sW t9_2.2.2.Last.Words, sB t9_2.2.2.Follow, bo (t9_2.2.2.Null)])])), (4, .co [] [] [] [(44, rI 3 t9_4)] (.own 44)), (6, .res (bo (t9_6))), (7, .val (.p (bo (false))))] [0] [] ⟨[(0, .p (bo (false)))], [], L0, []⟩ (And.intro ((reverse_Starts_ok h9_1)) (And.intro (And.intro ((riddlelaw12_told_v1_ok h9_3).ren 18 44 (by kernel_rfl)) (trivial)) (And.intro (And.intro (slices_Equal_int_int_ok h9_5) (rfl : (bo (t9_6) : PV).flat = true)) (And.intro (Bl b9_7) (trivial))))) (by kernel_rfl) (hk false (by first | (rw [b9_7]; rfl) | simp [b9_7]))
  refine WX.ret ?_
  exact WC.outP (by rw [← Option.some.inj h]; kernel_rfl)
def riddlelaw12_ReverseStarts (k : Nat) (a0 : api_Nfa) (a1 : (List Int)) (a2 : Int) (a3 : Int) (a4 : Bool) (a5 : Bool) : Option (Bool) :=
  (riddlelaw12_few a0 a1).bind fun t2_2 => (if (!t2_2) = true then some true else (riddleref12_Starts k a0 a1 a2).bind fun t5_2 => (reverse_Least k a0 a1 a2 a4 a5).bind fun t6_2 => (riddleref12_Least k a0 a1 a2 a4 a5).bind fun t7_2 => (riddlelaw12_begun k).bind fun t9_2 => ((if t9_2 = true then (reverse_Starts k a0 a1 a2).bind fun t9_4 => (riddlelaw12_told_v1 k ((t9_4.1, t9_4.2.1, t9_4.2.2)) 99).bind fun t9_6 => (slices_Equal_int_int k t9_6 t5_2).bind fun t9_8 => (if t9_8 = true then (reverse_Starts k a0 a1 a2).bind fun t9_10 => (riddlelaw12_told_v1 k ((t9_10.1, t9_10.2.1, t9_10.2.2)) ((IntKind.i64.wrap a3))).bind fun t9_12 => (if (0 : Int) ≤ 0 ∧ 0 ≤ (minI ((t5_2.length : Int)) ((IntKind.i64.wrap a3))) ∧ (minI ((t5_2.length : Int)) ((IntKind.i64.wrap a3))) ≤ (t5_2.length : Nat) then (slices_Equal_int_int k t9_12 (sub_ t5_2 0 ((minI ((t5_2.length : Int)) ((IntKind.i64.wrap a3)))))).bind fun t9_15 => (if t9_15 = true then (if (t6_2.1 == t7_2.1) = true then some ((t6_2.2 == t7_2.2)) else some false) else some false) else none) else some false) else some false) : Option (Bool)).bind fun v9 => some v9)
theorem riddlelaw12_ReverseStarts_ok {k : Nat} {a0 : api_Nfa} {a1 : (List Int)} {a2 : Int} {a3 : Int} {a4 : Bool} {a5 : Bool} {r : Bool} (h : riddlelaw12_ReverseStarts k a0 a1 a2 a3 a4 a5 = some r) : Ans Tryd.prog 3 [pP1 a0, slV (eI .u8) a1, i6 (a2), .s (.int .u8 a3), bo (a4), bo (a5)] (bo (r)) := by
  refine W_fn Tryd.func3 rfl (by kernel_rfl) (by kernel_rfl) ?_
  intro X hro hn
  unfold riddlelaw12_ReverseStarts at h
  refine WC.rg hn [] [1, 2, 3, 4, 5, 6] [6] ⟨[(1, .p (slV (eI .u8) a1)), (2, .p (i6 (a2))), (3, .p (.s (.int .u8 a3))), (4, .p (bo (a4))), (5, .p (bo (a5))), (6, .ptr 6 0)], [(6, .box 28 (vV1 a0))], L0, []⟩ trivial ?_
  refine WX.seq ?_
  refine WX.seq ?_
  obtain ⟨t2_2, h2_1, h⟩ := bind_some h
  refine WC.r1 hn [(2, .resP (bo (t2_2)))] [1, 2, 3, 4, 5, 6, 21] [6] ⟨[(1, .p (slV (eI .u8) a1)), (2, .p (i6 (a2))), (3, .p (.s (.int .u8 a3))), (4, .p (bo (a4))), (5, .p (bo (a5))), (6, .ptr 6 0), (21, .p (bo (((!t2_2)))))], [(6, .box 28 (vV1 a0))], L0, []⟩ (And.intro ((riddlelaw12_few_ok h2_1)) (trivial)) ?_
  rcases if_or h with ⟨c3, h⟩ | ⟨c3, h⟩
  · refine WC.condT c3 (by kernel_rfl) ?_
    refine WC.rg hn [] [12] [] ⟨[(12, .p (bo (true)))], [], L0, []⟩ trivial ?_
    refine WX.ret ?_
    exact WC.outP (by rw [← Option.some.inj h]; kernel_rfl)
  · refine WC.condF c3 (by kernel_rfl) ?_
    refine WX.skip ?_
    refine WX.seq ?_
    obtain ⟨t5_2, h5_1, h⟩ := bind_some h
    refine WC.r1 hn [(3, .co [] [] [] [(25, rI 3 t5_2)] (.own 25))] [1, 2, 3, 4, 5, 6, 13] [6, 25] ⟨[(1, .p (slV (eI .u8) a1)), (2, .p (i6 (a2))), (3, .p (.s (.int .u8 a3))), (4, .p (bo (a4))), (5, .p (bo (a5))), (6, .ptr 6 0), (13, .own 25)], [(6, .box 28 (vV1 a0)), (25, rI 3 t5_2)], L0, []⟩ (And.intro (And.intro ((riddleref12_Starts_ok h5_1).ren 33 25 (by kernel_rfl)) (trivial)) (trivial)) ?_
    refine WX.seq ?_
    obtain ⟨t6_2, h6_1, h⟩ := bind_some h
    refine WC.r1 hn [(5, .resP (.tup [i6 (t6_2.1), bo (t6_2.2)]))] [1, 2, 3, 4, 5, 6, 13, 14, 15] [6, 25] ⟨[(1, .p (slV (eI .u8) a1)), (2, .p (i6 (a2))), (3, .p (.s (.int .u8 a3))), (4, .p (bo (a4))), (5, .p (bo (a5))), (6, .ptr 6 0), (13, .own 25), (14, .p (i6 (t6_2.1))), (15, .p (bo (t6_2.2)))], [(6, .box 28 (vV1 a0)), (25, rI 3 t5_2)], L0, []⟩ (And.intro ((reverse_Least_ok h6_1)) (trivial)) ?_
    refine WX.seq ?_
    obtain ⟨t7_2, h7_1, h⟩ := bind_some h
    refine WC.r1 hn [(5, .resP (.tup [i6 (t7_2.1), bo (t7_2.2)]))] [1, 2, 3, 6, 13, 14, 15, 16, 17] [6, 25] ⟨[(1, .p (slV (eI .u8) a1)), (2, .p (i6 (a2))), (3, .p (.s (.int .u8 a3))), (6, .ptr 6 0), (13, .own 25), (14, .p (i6 (t6_2.1))), (15, .p (bo (t6_2.2))), (16, .p (i6 (t7_2.1))), (17, .p (bo (t7_2.2)))], [(6, .box 28 (vV1 a0)), (25, rI 3 t5_2)], L0, []⟩ (And.intro ((riddleref12_Least_ok h7_1)) (trivial)) ?_
    refine WX.seq ?_
    refine WC.frz 25 (st' := ⟨[(1, .p (slV (eI .u8) a1)), (2, .p (i6 (a2))), (3, .p (.s (.int .u8 a3))), (6, .ptr 6 0), (13, .p (sI t5_2)), (14, .p (i6 (t6_2.1))), (15, .p (bo (t6_2.2))), (16, .p (i6 (t7_2.1))), (17, .p (bo (t7_2.2)))], [(6, .box 28 (vV1 a0))], L0, []⟩) (by kernel_rfl) ?_
    obtain ⟨t9_2, h9_1, h⟩ := bind_some h
    obtain ⟨m9_1, g9, h⟩ := bind_some h
    refine WC.via (α := Bool) (fun v9 => ⟨[(12, .p (bo (v9)))], [], L0, []⟩) m9_1 (fun hk => ?_) ?_
    · rcases if_or g9 with ⟨b9_1, g9⟩ | ⟨b9_1, g9⟩
      · obtain ⟨t9_4, h9_3, g9⟩ := bind_some g9
        obtain ⟨t9_6, h9_5, g9⟩ := bind_some g9
        obtain ⟨t9_8, h9_7, g9⟩ := bind_some g9
        rcases if_or g9 with ⟨b9_10, g9⟩ | ⟨b9_10, g9⟩
        · obtain ⟨t9_10, h9_9, g9⟩ := bind_some g9
          obtain ⟨t9_12, h9_11, g9⟩ := bind_some g9
          obtain ⟨c9_13, g9⟩ := if_some g9
          obtain ⟨t9_15, h9_14, g9⟩ := bind_some g9
          rcases if_or g9 with ⟨b9_27, g9⟩ | ⟨b9_27, g9⟩
          · rcases if_or g9 with ⟨b9_32, g9⟩ | ⟨b9_32, g9⟩
            · exact WC.drw hn [] [] [(0, .resP (bo (t9_2))), (1, .val (.p (bo (true)))), (5, .resP (.fn 38 [.rop ([i6 (t9_4.1)]), .rop ([slV (eI .u8) t9_4.2.1]), .rop ([sC t9_4.2.2.Classes, i6 (t9_4.2.2.First.N), sW t9_4.2.2.First.Words, i6 (t9_4.2.2.Last.N), sW t9_4.2.2.Last.Words, sB t9_4.2.2.Follow, bo (t9_4.2.2.Null)])])), (6, .resP (sI t9_6)), (8, .resP (bo (t9_8))), (10, .val (.p (bo (true)))), (14, .resP (.fn 38 [.rop ([i6 (t9_10.1)]), .rop ([slV (eI .u8) t9_10.2.1]), .rop ([sC t9_10.2.2.Classes, i6 (t9_10.2.2.First.N), sW t9_10.2.2.First.Words, i6 (t9_10.2.2.Last.N), sW t9_10.2.2.Last.Words, sB t9_10.2.2.Follow, bo (t9_10.2.2.Null)])])), (17, .resP (sI t9_12)), (24, .val (.p (sI (sub_ t5_2 0 ((minI ((t5_2.length : Int)) ((IntKind.i64.wrap a3)))))))), (25, .resP (bo (t9_15))), (27, .val (.p (bo (true)))), (32, .val (.p (bo (true))))] [12] [] ⟨[(12, .p (bo (((t6_2.2 == t7_2.2)))))], [], L0, []⟩ (And.intro ((riddlelaw12_begun_ok h9_1)) (And.intro (Bl b9_1) (And.intro ((reverse_Starts_ok h9_3)) (And.intro ((riddlelaw12_told_v1_okP h9_5)) (And.intro ((slices_Equal_int_int_ok h9_7)) (And.intro (Bl b9_10) (And.intro ((reverse_Starts_ok h9_9)) (And.intro ((riddlelaw12_told_v1_okP h9_11)) (And.intro (Sl (eI .i64) t5_2 0 ((minI ((t5_2.length : Int)) ((IntKind.i64.wrap a3)))) c9_13) (And.intro ((slices_Equal_int_int_ok h9_14)) (And.intro (Bl b9_27) (And.intro (Bl b9_32) (trivial))))))))))))) (by kernel_rfl) (by kernel_rfl) (by kernel_rfl) (by kernel_rfl) (hk ((t6_2.2 == t7_2.2)) (Option.some.inj g9))
            · exact WC.drw hn [] [] [(0, .resP (bo (t9_2))), (1, .val (.p (bo (true)))), (5, .resP (.fn 38 [.rop ([i6 (t9_4.1)]), .rop ([slV (eI .u8) t9_4.2.1]), .rop ([sC t9_4.2.2.Classes, i6 (t9_4.2.2.First.N), sW t9_4.2.2.First.Words, i6 (t9_4.2.2.Last.N), sW t9_4.2.2.Last.Words, sB t9_4.2.2.Follow, bo (t9_4.2.2.Null)])])), (6, .resP (sI t9_6)), (8, .resP (bo (t9_8))), (10, .val (.p (bo (true)))), (14, .resP (.fn 38 [.rop ([i6 (t9_10.1)]), .rop ([slV (eI .u8) t9_10.2.1]), .rop ([sC t9_10.2.2.Classes, i6 (t9_10.2.2.First.N), sW t9_10.2.2.First.Words, i6 (t9_10.2.2.Last.N), sW t9_10.2.2.Last.Words, sB t9_10.2.2.Follow, bo (t9_10.2.2.Null)])])), (17, .resP (sI t9_12)), (24, .val (.p (sI (sub_ t5_2 0 ((minI ((t5_2.length : Int)) ((IntKind.i64.wrap a3)))))))), (25, .resP (bo (t9_15))), (27, .val (.p (bo (true)))), (32, .val (.p (bo (false))))] [12] [] ⟨[(12, .p (bo (false)))], [], L0, []⟩ (And.intro ((riddlelaw12_begun_ok h9_1)) (And.intro (Bl b9_1) (And.intro ((reverse_Starts_ok h9_3)) (And.intro ((riddlelaw12_told_v1_okP h9_5)) (And.intro ((slices_Equal_int_int_ok h9_7)) (And.intro (Bl b9_10) (And.intro ((reverse_Starts_ok h9_9)) (And.intro ((riddlelaw12_told_v1_okP h9_11)) (And.intro (Sl (eI .i64) t5_2 0 ((minI ((t5_2.length : Int)) ((IntKind.i64.wrap a3)))) c9_13) (And.intro ((slices_Equal_int_int_ok h9_14)) (And.intro (Bl b9_27) (And.intro (Bl b9_32) (trivial))))))))))))) (by kernel_rfl) (by kernel_rfl) (by kernel_rfl) (by kernel_rfl) (hk false (Option.some.inj g9))
          · exact WC.drw hn [] [] [(0, .resP (bo (t9_2))), (1, .val (.p (bo (true)))), (5, .resP (.fn 38 [.rop ([i6 (t9_4.1)]), .rop ([slV (eI .u8) t9_4.2.1]), .rop ([sC t9_4.2.2.Classes, i6 (t9_4.2.2.First.N), sW t9_4.2.2.First.Words, i6 (t9_4.2.2.Last.N), sW t9_4.2.2.Last.Words, sB t9_4.2.2.Follow, bo (t9_4.2.2.Null)])])), (6, .resP (sI t9_6)), (8, .resP (bo (t9_8))), (10, .val (.p (bo (true)))), (14, .resP (.fn 38 [.rop ([i6 (t9_10.1)]), .rop ([slV (eI .u8) t9_10.2.1]), .rop ([sC t9_10.2.2.Classes, i6 (t9_10.2.2.First.N), sW t9_10.2.2.First.Words, i6 (t9_10.2.2.Last.N), sW t9_10.2.2.Last.Words, sB t9_10.2.2.Follow, bo (t9_10.2.2.Null)])])), (17, .resP (sI t9_12)), (24, .val (.p (sI (sub_ t5_2 0 ((minI ((t5_2.length : Int)) ((IntKind.i64.wrap a3)))))))), (25, .resP (bo (t9_15))), (27, .val (.p (bo (false))))] [12] [] ⟨[(12, .p (bo (false)))], [], L0, []⟩ (And.intro ((riddlelaw12_begun_ok h9_1)) (And.intro (Bl b9_1) (And.intro ((reverse_Starts_ok h9_3)) (And.intro ((riddlelaw12_told_v1_okP h9_5)) (And.intro ((slices_Equal_int_int_ok h9_7)) (And.intro (Bl b9_10) (And.intro ((reverse_Starts_ok h9_9)) (And.intro ((riddlelaw12_told_v1_okP h9_11)) (And.intro (Sl (eI .i64) t5_2 0 ((minI ((t5_2.length : Int)) ((IntKind.i64.wrap a3)))) c9_13) (And.intro ((slices_Equal_int_int_ok h9_14)) (And.intro (Bl b9_27) (trivial)))))))))))) (by kernel_rfl) (by kernel_rfl) (by kernel_rfl) (by kernel_rfl) (hk false (Option.some.inj g9))
        · exact WC.drw hn [] [] [(0, .resP (bo (t9_2))), (1, .val (.p (bo (true)))), (5, .resP (.fn 38 [.rop ([i6 (t9_4.1)]), .rop ([slV (eI .u8) t9_4.2.1]), .rop ([sC t9_4.2.2.Classes, i6 (t9_4.2.2.First.N), sW t9_4.2.2.First.Words, i6 (t9_4.2.2.Last.N), sW t9_4.2.2.Last.Words, sB t9_4.2.2.Follow, bo (t9_4.2.2.Null)])])), (6, .resP (sI t9_6)), (8, .resP (bo (t9_8))), (10, .val (.p (bo (false))))] [12] [] ⟨[(12, .p (bo (false)))], [], L0, []⟩ (And.intro ((riddlelaw12_begun_ok h9_1)) (And.intro (Bl b9_1) (And.intro ((reverse_Starts_ok h9_3)) (And.intro ((riddlelaw12_told_v1_okP h9_5)) (And.intro ((slices_Equal_int_int_ok h9_7)) (And.intro (Bl b9_10) (trivial))))))) (by kernel_rfl) (by kernel_rfl) (by kernel_rfl) (by kernel_rfl) (hk false (Option.some.inj g9))
      · exact WC.drw hn [] [] [(0, .resP (bo (t9_2))), (1, .val (.p (bo (false))))] [12] [] ⟨[(12, .p (bo (false)))], [], L0, []⟩ (And.intro ((riddlelaw12_begun_ok h9_1)) (And.intro (Bl b9_1) (trivial))) (by kernel_rfl) (by kernel_rfl) (by kernel_rfl) (by kernel_rfl) (hk false (Option.some.inj g9))
    refine WX.ret ?_
    exact WC.outP (by rw [← Option.some.inj h]; kernel_rfl)
def riddleref01_Same_l0 (t2_2 : api_Bits) (t2_4 : api_Bits) (J7 : Unit → Option (Bool)) : Nat → Int → Option (Bool)
  | 0, _ => none
  | k + 1, x22_1_1 => (if (decide (x22_1_1 < (t2_2.Words.length : Int))) = true then (at_ t2_2.Words x22_1_1).bind fun t37_2 => (at_ t2_4.Words x22_1_1).bind fun t37_4 => (if (t37_2 != t37_4) = true then some false else riddleref01_Same_l0 t2_2 t2_4 J7 k ((IntKind.i64.wrap (x22_1_1 + 1)))) else J7 ())
def riddleref01_Same (k : Nat) (a0 : api_Bits) (a1 : api_Bits) : Option (Bool) :=
  (riddleref01_may k a0).bind fun t2_2 => (riddleref01_may k a1).bind fun t2_4 => (if (t2_2.N != t2_4.N) = true then some false else jn (fun (v7 : Unit) => some true) fun J7 => riddleref01_Same_l0 t2_2 t2_4 J7 k 0)
theorem riddleref01_Same_ok {k : Nat} {a0 : api_Bits} {a1 : api_Bits} {r : Bool} (h : riddleref01_Same k a0 a1 = some r) : Ans Tryd.prog 31 [pP4 a0, pP4 a1] (bo (r)) := by
  refine W_fn Tryd.func31 rfl (by kernel_rfl) (by kernel_rfl) ?_
  intro X hro hn
  unfold riddleref01_Same at h
  refine WC.rg hn [] [2, 3] [2, 3] ⟨[(2, .ptr 2 0), (3, .ptr 3 0)], [(2, .box 25 (vV4 a0)), (3, .box 25 (vV4 a1))], L0, []⟩ trivial ?_
  refine WX.seq ?_
  obtain ⟨t2_2, h2_1, h⟩ := bind_some h
  obtain ⟨t2_4, h2_3, h⟩ := bind_some h
  refine WC.drw hn [(4, []), (5, [])] [] [(1, .resP (pP4 t2_2)), (3, .resP (pP4 t2_4))] [2, 3] [2, 3] ⟨[(2, .ptr 2 0), (3, .ptr 3 0)], [(2, .box 25 (vV4 t2_2)), (3, .box 25 (vV4 t2_4))], L0, []⟩ (And.intro ((riddleref01_may_ok h2_1)) (And.intro ((riddleref01_may_ok h2_3)) (trivial))) (by kernel_rfl) (by kernel_rfl) (by kernel_rfl) (by kernel_rfl) ?_
  refine WX.seq ?_
  refine WC.rg hn [] [2, 3, 14] [2, 3] ⟨[(2, .ptr 2 0), (3, .ptr 3 0), (14, .p (bo (((t2_2.N != t2_4.N)))))], [(2, .box 25 (vV4 t2_2)), (3, .box 25 (vV4 t2_4))], L0, []⟩ trivial ?_
  rcases if_or h with ⟨c4, h⟩ | ⟨c4, h⟩
  · refine WC.condT c4 (by kernel_rfl) ?_
    refine WC.rg hn [] [4] [] ⟨[(4, .p (bo (false)))], [], L0, []⟩ trivial ?_
    refine WX.ret ?_
    exact WC.outP (by rw [← Option.some.inj h]; kernel_rfl)
  · refine WC.condF c4 (by kernel_rfl) ?_
    refine WX.skip ?_
    refine WX.seq ?_
    refine WC.rg hn [] [2, 3, 5] [2, 3] ⟨[(2, .ptr 2 0), (3, .ptr 3 0), (5, .p (i6 (0)))], [(2, .box 25 (vV4 t2_2)), (3, .box 25 (vV4 t2_4))], L0, []⟩ trivial ?_
    obtain ⟨J7, eJ7, h⟩ := jn_some h
    try dsimp only at h
    refine WC.join (α := Unit) (fun v7 => ⟨[], [], L0, []⟩) (fun v7 => J7 v7 = some r) ?_ (fun hJ7 => ?_)
    · rintro _ h
      rw [eJ7] at h
      try dsimp only at h
      refine WC.rg hn [] [4] [] ⟨[(4, .p (bo (true)))], [], L0, []⟩ trivial ?_
      refine WX.ret ?_
      exact WC.outP (by rw [← Option.some.inj h]; kernel_rfl)
    · skip
      refine WX.block ?_
      refine WC.loop (V := Int) (riddleref01_Same_l0 t2_2 t2_4 J7) r (fun v22 => ⟨[(2, .ptr 2 0), (3, .ptr 3 0), (5, .p (i6 (v22)))], [(2, .box 25 (vV4 t2_2)), (3, .box 25 (vV4 t2_4))], L0, []⟩) _ 0 h (fun _ => rfl) [2, 3, 5] [2, 3] (by kernel_rfl) ?_
      clear h; rintro k x22_1_1 h K22 hnext22 hexit22
      rw [riddleref01_Same_l0] at h
      refine WX.seq ?_
      refine WC.rg hn [] [2, 3, 5, 19] [2, 3] ⟨[(2, .ptr 2 0), (3, .ptr 3 0), (5, .p (i6 (x22_1_1))), (19, .p (bo (((decide (x22_1_1 < (t2_2.Words.length : Int)))))))], [(2, .box 25 (vV4 t2_2)), (3, .box 25 (vV4 t2_4))], L0, []⟩ trivial ?_
      rcases if_or h with ⟨c36, h⟩ | ⟨c36, h⟩
      · refine WC.condT c36 (by kernel_rfl) ?_
        refine WX.skip ?_
        refine WX.seq ?_
        refine WX.block ?_
        refine WX.seq ?_
        obtain ⟨t37_2, h37_1, h⟩ := bind_some h
        obtain ⟨t37_4, h37_3, h⟩ := bind_some h
        refine WC.drw hn [] [] [(3, .val (.p (.rop ((eI .u64).cells t37_2 ++ encL (eI .u64) (t2_2.Words.drop (x22_1_1.toNat + 1)))))), (8, .val (.p (.rop ((eI .u64).cells t37_4 ++ encL (eI .u64) (t2_4.Words.drop (x22_1_1.toNat + 1))))))] [2, 3, 5, 32] [2, 3] ⟨[(2, .ptr 2 0), (3, .ptr 3 0), (5, .p (i6 (x22_1_1))), (32, .p (bo (((t37_2 != t37_4)))))], [(2, .box 25 (vV4 t2_2)), (3, .box 25 (vV4 t2_4))], L0, []⟩ (And.intro (Ix (eI .u64) h37_1) (And.intro (Ix (eI .u64) h37_3) (trivial))) (by kernel_rfl) (by kernel_rfl) (by kernel_rfl) (by kernel_rfl) ?_
        rcases if_or h with ⟨c38, h⟩ | ⟨c38, h⟩
        · refine WC.condT c38 (by kernel_rfl) ?_
          refine WC.rg hn [] [4] [] ⟨[(4, .p (bo (false)))], [], L0, []⟩ trivial ?_
          refine WX.ret ?_
          refine WC.ret_all (hexit22 _ _ (by simp) ?_)
          exact WC.outP (by rw [← Option.some.inj h]; kernel_rfl)
        · refine WC.condF c38 (by kernel_rfl) ?_
          refine WX.skip ?_
          refine WX.popBlk ?_
          refine WC.r1 hn [] [2, 3, 5] [2, 3] ⟨[(2, .ptr 2 0), (3, .ptr 3 0), (5, .p (i6 (((IntKind.i64.wrap (x22_1_1 + 1))))))], [(2, .box 25 (vV4 t2_2)), (3, .box 25 (vV4 t2_4))], L0, []⟩ trivial ?_
          exact WC.next [2, 3, 5] [2, 3] (by kernel_rfl) (hnext22 ((IntKind.i64.wrap (x22_1_1 + 1))) h)
      · refine WC.condF c36 (by kernel_rfl) ?_
        refine WX.exit ?_
        refine WX.popCodeExit ?_
        refine WC.exit_nil (hexit22 _ _ (by simp) ?_)
        refine WX.popBlkHit ?_
        exact WC.keep [] [] (by kernel_rfl) (hJ7 () h)
def riddleref10_Same_l0 (a0 : api_Nfa) (a1 : api_Nfa) (J21 : Unit → Option (Bool)) : Nat → Int → Option (Bool)
  | 0, _ => none
  | k + 1, x36_1_1 => (if (decide (x36_1_1 < (a0.Follow.length : Int))) = true then (at_ a0.Follow x36_1_1).bind fun t51_2 => (at_ a1.Follow x36_1_1).bind fun t51_4 => (riddleref01_Same k t51_2 t51_4).bind fun t51_6 => (if (!t51_6) = true then some false else riddleref10_Same_l0 a0 a1 J21 k ((IntKind.i64.wrap (x36_1_1 + 1)))) else J21 ())
def riddleref10_Same_l1 (a0 : api_Nfa) (a1 : api_Nfa) (J6 : Unit → Option (Bool)) : Nat → Int → Option (Bool)
  | 0, _ => none
  | k + 1, x55_1_1 => (if (decide (x55_1_1 < (a0.Classes.length : Int))) = true then (at_ a0.Classes x55_1_1).bind fun t70_2 => (at_ a1.Classes x55_1_1).bind fun t70_4 => (if (!((t70_2.a0 == t70_4.a0) && ((t70_2.a1 == t70_4.a1) && ((t70_2.a2 == t70_4.a2) && ((t70_2.a3 == t70_4.a3) && true))))) = true then some false else riddleref10_Same_l1 a0 a1 J6 k ((IntKind.i64.wrap (x55_1_1 + 1)))) else J6 ())
def riddleref10_Same (k : Nat) (a0 : api_Nfa) (a1 : api_Nfa) : Option (Bool) :=
  ((if ((a0.Classes.length : Int) != (a1.Classes.length : Int)) = true then some true else (if ((a0.Follow.length : Int) != (a1.Follow.length : Int)) = true then some true else (if (a0.Null != a1.Null) = true then some true else (riddleref01_Same k a0.First a1.First).bind fun t2_2 => (if (!t2_2) = true then some true else (riddleref01_Same k a0.Last a1.Last).bind fun t2_4 => some ((!t2_4)))))) : Option (Bool)).bind fun v2 => (if v2 = true then some false else jn (fun (v6 : Unit) => jn (fun (v21 : Unit) => some true) fun J21 => riddleref10_Same_l0 a0 a1 J21 k 0) fun J6 => riddleref10_Same_l1 a0 a1 J6 k 0)
theorem riddleref10_Same_ok {k : Nat} {a0 : api_Nfa} {a1 : api_Nfa} {r : Bool} (h : riddleref10_Same k a0 a1 = some r) : Ans Tryd.prog 20 [pP1 a0, pP1 a1] (bo (r)) := by
  refine W_fn Tryd.func20 rfl (by kernel_rfl) (by kernel_rfl) ?_
  intro X hro hn
  unfold riddleref10_Same at h
  refine WC.rg hn [] [2, 3] [2, 3] ⟨[(2, .ptr 2 0), (3, .ptr 3 0)], [(2, .box 28 (vV1 a0)), (3, .box 28 (vV1 a1))], L0, []⟩ trivial ?_
  refine WX.seq ?_
  refine WX.seq ?_
  obtain ⟨m2_1, g2, h⟩ := bind_some h
  refine WC.via (α := Bool) (fun v2 => ⟨[(2, .ptr 2 0), (3, .ptr 3 0), (45, .p (bo (v2)))], [(2, .box 28 (vV1 a0)), (3, .box 28 (vV1 a1))], L0, []⟩) m2_1 (fun hk => ?_) ?_
  · rcases if_or g2 with ⟨b2_7, g2⟩ | ⟨b2_7, g2⟩
    · exact WC.reg hn [(7, .val (.p (bo (true))))] [2, 3, 45] [2, 3] ⟨[(2, .ptr 2 0), (3, .ptr 3 0), (45, .p (bo (true)))], [(2, .box 28 (vV1 a0)), (3, .box 28 (vV1 a1))], L0, []⟩ (And.intro (Bl b2_7) (trivial)) (by kernel_rfl) (hk true (Option.some.inj g2))
    · rcases if_or g2 with ⟨b2_16, g2⟩ | ⟨b2_16, g2⟩
      · exact WC.reg hn [(7, .val (.p (bo (false)))), (16, .val (.p (bo (true))))] [2, 3, 45] [2, 3] ⟨[(2, .ptr 2 0), (3, .ptr 3 0), (45, .p (bo (true)))], [(2, .box 28 (vV1 a0)), (3, .box 28 (vV1 a1))], L0, []⟩ (And.intro (Bl b2_7) (And.intro (Bl b2_16) (trivial))) (by kernel_rfl) (hk true (Option.some.inj g2))
      · rcases if_or g2 with ⟨b2_23, g2⟩ | ⟨b2_23, g2⟩
        · exact WC.reg hn [(7, .val (.p (bo (false)))), (16, .val (.p (bo (false)))), (23, .val (.p (bo (true))))] [2, 3, 45] [2, 3] ⟨[(2, .ptr 2 0), (3, .ptr 3 0), (45, .p (bo (true)))], [(2, .box 28 (vV1 a0)), (3, .box 28 (vV1 a1))], L0, []⟩ (And.intro (Bl b2_7) (And.intro (Bl b2_16) (And.intro (Bl b2_23) (trivial)))) (by kernel_rfl) (hk true (Option.some.inj g2))
        · obtain ⟨t2_2, h2_1, g2⟩ := bind_some g2
          rcases if_or g2 with ⟨b2_31, g2⟩ | ⟨b2_31, g2⟩
          · exact WC.reg hn [(7, .val (.p (bo (false)))), (16, .val (.p (bo (false)))), (23, .val (.p (bo (false)))), (28, .resP (bo (t2_2))), (31, .val (.p (bo (true))))] [2, 3, 45] [2, 3] ⟨[(2, .ptr 2 0), (3, .ptr 3 0), (45, .p (bo (true)))], [(2, .box 28 (vV1 a0)), (3, .box 28 (vV1 a1))], L0, []⟩ (And.intro (Bl b2_7) (And.intro (Bl b2_16) (And.intro (Bl b2_23) (And.intro ((riddleref01_Same_ok h2_1)) (And.intro (Bl b2_31) (trivial)))))) (by kernel_rfl) (hk true (Option.some.inj g2))
          · obtain ⟨t2_4, h2_3, g2⟩ := bind_some g2
            exact WC.reg hn [(7, .val (.p (bo (false)))), (16, .val (.p (bo (false)))), (23, .val (.p (bo (false)))), (28, .resP (bo (t2_2))), (31, .val (.p (bo (false)))), (36, .resP (bo (t2_4)))] [2, 3, 45] [2, 3] ⟨[(2, .ptr 2 0), (3, .ptr 3 0), (45, .p (bo (((!t2_4)))))], [(2, .box 28 (vV1 a0)), (3, .box 28 (vV1 a1))], L0, []⟩ (And.intro (Bl b2_7) (And.intro (Bl b2_16) (And.intro (Bl b2_23) (And.intro ((riddleref01_Same_ok h2_1)) (And.intro (Bl b2_31) (And.intro ((riddleref01_Same_ok h2_3)) (trivial))))))) (by kernel_rfl) (hk ((!t2_4)) (Option.some.inj g2))
  rcases if_or h with ⟨c3, h⟩ | ⟨c3, h⟩
  · refine WC.condT c3 (by kernel_rfl) ?_
    refine WC.rg hn [] [4] [] ⟨[(4, .p (bo (false)))], [], L0, []⟩ trivial ?_
    refine WX.ret ?_
    exact WC.outP (by rw [← Option.some.inj h]; kernel_rfl)
  · refine WC.condF c3 (by kernel_rfl) ?_
    refine WX.skip ?_
    refine WX.seq ?_
    refine WC.rg hn [] [2, 3, 5] [2, 3] ⟨[(2, .ptr 2 0), (3, .ptr 3 0), (5, .p (i6 (0)))], [(2, .box 28 (vV1 a0)), (3, .box 28 (vV1 a1))], L0, []⟩ trivial ?_
    obtain ⟨J6, eJ6, h⟩ := jn_some h
    try dsimp only at h
    refine WC.join (α := Unit) (fun v6 => ⟨[(2, .ptr 2 0), (3, .ptr 3 0)], [(2, .box 28 (vV1 a0)), (3, .box 28 (vV1 a1))], L0, []⟩) (fun v6 => J6 v6 = some r) ?_ (fun hJ6 => ?_)
    · rintro _ h
      rw [eJ6] at h
      try dsimp only at h
      refine WX.seq ?_
      refine WC.rg hn [] [2, 3, 6] [2, 3] ⟨[(2, .ptr 2 0), (3, .ptr 3 0), (6, .p (i6 (0)))], [(2, .box 28 (vV1 a0)), (3, .box 28 (vV1 a1))], L0, []⟩ trivial ?_
      obtain ⟨J21, eJ21, h⟩ := jn_some h
      try dsimp only at h
      refine WC.join (α := Unit) (fun v21 => ⟨[], [], L0, []⟩) (fun v21 => J21 v21 = some r) ?_ (fun hJ21 => ?_)
      · rintro _ h
        rw [eJ21] at h
        try dsimp only at h
        refine WC.rg hn [] [4] [] ⟨[(4, .p (bo (true)))], [], L0, []⟩ trivial ?_
        refine WX.ret ?_
        exact WC.outP (by rw [← Option.some.inj h]; kernel_rfl)
      · skip
        refine WX.block ?_
        refine WC.loop (V := Int) (riddleref10_Same_l0 a0 a1 J21) r (fun v36 => ⟨[(2, .ptr 2 0), (3, .ptr 3 0), (6, .p (i6 (v36)))], [(2, .box 28 (vV1 a0)), (3, .box 28 (vV1 a1))], L0, []⟩) _ 0 h (fun _ => rfl) [2, 3, 6] [2, 3] (by kernel_rfl) ?_
        clear h; rintro k x36_1_1 h K36 hnext36 hexit36
        rw [riddleref10_Same_l0] at h
        refine WX.seq ?_
        refine WC.rg hn [] [2, 3, 6, 68] [2, 3] ⟨[(2, .ptr 2 0), (3, .ptr 3 0), (6, .p (i6 (x36_1_1))), (68, .p (bo (((decide (x36_1_1 < (a0.Follow.length : Int)))))))], [(2, .box 28 (vV1 a0)), (3, .box 28 (vV1 a1))], L0, []⟩ trivial ?_
        rcases if_or h with ⟨c50, h⟩ | ⟨c50, h⟩
        · refine WC.condT c50 (by kernel_rfl) ?_
          refine WX.skip ?_
          refine WX.seq ?_
          refine WX.block ?_
          refine WX.seq ?_
          obtain ⟨t51_2, h51_1, h⟩ := bind_some h
          obtain ⟨t51_4, h51_3, h⟩ := bind_some h
          obtain ⟨t51_6, h51_5, h⟩ := bind_some h
          refine WC.drw hn [] [] [(3, .val (.p (.rop (e_api_Bits.cells t51_2 ++ encL e_api_Bits (a0.Follow.drop (x36_1_1.toNat + 1)))))), (8, .val (.p (.rop (e_api_Bits.cells t51_4 ++ encL e_api_Bits (a1.Follow.drop (x36_1_1.toNat + 1)))))), (10, .resP (bo (t51_6)))] [2, 3, 6, 82] [2, 3] ⟨[(2, .ptr 2 0), (3, .ptr 3 0), (6, .p (i6 (x36_1_1))), (82, .p (bo (((!t51_6)))))], [(2, .box 28 (vV1 a0)), (3, .box 28 (vV1 a1))], L0, []⟩ (And.intro (Ix e_api_Bits h51_1) (And.intro (Ix e_api_Bits h51_3) (And.intro ((riddleref01_Same_ok h51_5)) (trivial)))) (by kernel_rfl) (by kernel_rfl) (by kernel_rfl) (by kernel_rfl) ?_
          rcases if_or h with ⟨c52, h⟩ | ⟨c52, h⟩
          · refine WC.condT c52 (by kernel_rfl) ?_
            refine WC.rg hn [] [4] [] ⟨[(4, .p (bo (false)))], [], L0, []⟩ trivial ?_
            refine WX.ret ?_
            refine WC.ret_all (hexit36 _ _ (by simp) ?_)
            exact WC.outP (by rw [← Option.some.inj h]; kernel_rfl)
          · refine WC.condF c52 (by kernel_rfl) ?_
            refine WX.skip ?_
            refine WX.popBlk ?_
            refine WC.r1 hn [] [2, 3, 6] [2, 3] ⟨[(2, .ptr 2 0), (3, .ptr 3 0), (6, .p (i6 (((IntKind.i64.wrap (x36_1_1 + 1))))))], [(2, .box 28 (vV1 a0)), (3, .box 28 (vV1 a1))], L0, []⟩ trivial ?_
            exact WC.next [2, 3, 6] [2, 3] (by kernel_rfl) (hnext36 ((IntKind.i64.wrap (x36_1_1 + 1))) h)
        · refine WC.condF c50 (by kernel_rfl) ?_
          refine WX.exit ?_
          refine WX.popCodeExit ?_
          refine WC.exit_nil (hexit36 _ _ (by simp) ?_)
          refine WX.popBlkHit ?_
          exact WC.keep [] [] (by kernel_rfl) (hJ21 () h)
    · skip
      refine WX.block ?_
      refine WC.loop (V := Int) (riddleref10_Same_l1 a0 a1 J6) r (fun v55 => ⟨[(2, .ptr 2 0), (3, .ptr 3 0), (5, .p (i6 (v55)))], [(2, .box 28 (vV1 a0)), (3, .box 28 (vV1 a1))], L0, []⟩) _ 0 h (fun _ => rfl) [2, 3, 5] [2, 3] (by kernel_rfl) ?_
      clear h; rintro k x55_1_1 h K55 hnext55 hexit55
      rw [riddleref10_Same_l1] at h
      refine WX.seq ?_
      refine WC.rg hn [] [2, 3, 5, 50] [2, 3] ⟨[(2, .ptr 2 0), (3, .ptr 3 0), (5, .p (i6 (x55_1_1))), (50, .p (bo (((decide (x55_1_1 < (a0.Classes.length : Int)))))))], [(2, .box 28 (vV1 a0)), (3, .box 28 (vV1 a1))], L0, []⟩ trivial ?_
      rcases if_or h with ⟨c69, h⟩ | ⟨c69, h⟩
      · refine WC.condT c69 (by kernel_rfl) ?_
        refine WX.skip ?_
        refine WX.seq ?_
        refine WX.block ?_
        refine WX.seq ?_
        obtain ⟨t70_2, h70_1, h⟩ := bind_some h
        obtain ⟨t70_4, h70_3, h⟩ := bind_some h
        refine WC.drw hn [] [] [(3, .val (.p (.rop ((e4 (eI .u64)).cells t70_2 ++ encL (e4 (eI .u64)) (a0.Classes.drop (x55_1_1.toNat + 1)))))), (8, .val (.p (.rop ((e4 (eI .u64)).cells t70_4 ++ encL (e4 (eI .u64)) (a1.Classes.drop (x55_1_1.toNat + 1))))))] [2, 3, 5, 63] [2, 3] ⟨[(2, .ptr 2 0), (3, .ptr 3 0), (5, .p (i6 (x55_1_1))), (63, .p (bo (((!((t70_2.a0 == t70_4.a0) && ((t70_2.a1 == t70_4.a1) && ((t70_2.a2 == t70_4.a2) && ((t70_2.a3 == t70_4.a3) && true)))))))))], [(2, .box 28 (vV1 a0)), (3, .box 28 (vV1 a1))], L0, []⟩ (And.intro (Ix (e4 (eI .u64)) h70_1) (And.intro (Ix (e4 (eI .u64)) h70_3) (trivial))) (by kernel_rfl) (by kernel_rfl) (by kernel_rfl) (by kernel_rfl) ?_
        rcases if_or h with ⟨c71, h⟩ | ⟨c71, h⟩
        · refine WC.condT c71 (by kernel_rfl) ?_
          refine WC.rg hn [] [4] [] ⟨[(4, .p (bo (false)))], [], L0, []⟩ trivial ?_
          refine WX.ret ?_
          refine WC.ret_all (hexit55 _ _ (by simp) ?_)
          exact WC.outP (by rw [← Option.some.inj h]; kernel_rfl)
        · refine WC.condF c71 (by kernel_rfl) ?_
          refine WX.skip ?_
          refine WX.popBlk ?_
          refine WC.r1 hn [] [2, 3, 5] [2, 3] ⟨[(2, .ptr 2 0), (3, .ptr 3 0), (5, .p (i6 (((IntKind.i64.wrap (x55_1_1 + 1))))))], [(2, .box 28 (vV1 a0)), (3, .box 28 (vV1 a1))], L0, []⟩ trivial ?_
          exact WC.next [2, 3, 5] [2, 3] (by kernel_rfl) (hnext55 ((IntKind.i64.wrap (x55_1_1 + 1))) h)
      · refine WC.condF c69 (by kernel_rfl) ?_
        refine WX.exit ?_
        refine WX.popCodeExit ?_
        refine WC.exit_nil (hexit55 _ _ (by simp) ?_)
        refine WX.popBlkHit ?_
        exact WC.keep [2, 3] [2, 3] (by kernel_rfl) (hJ6 () h)
def reverse_mirrored_l0 (k : Nat) (a0 : api_Bits) : List Int → List Int → Option (api_Bits)
  | [], x4_1_1 => (bits_New k a0.N x4_1_1).bind fun t13_2 => some t13_2.1
  | x4 :: xs4, x4_1_1 => (if okApp 8 (x4_1_1.length + ([(IntKind.i64.wrap ((IntKind.i64.wrap (a0.N - 1)) - x4))]).length) then reverse_mirrored_l0 k a0 xs4 (x4_1_1 ++ ([(IntKind.i64.wrap ((IntKind.i64.wrap (a0.N - 1)) - x4))])) else none)
def reverse_mirrored (k : Nat) (a0 : api_Bits) : Option (api_Bits) :=
  (bits_All a0).bind fun t3_2 => (bits_All_1_v1 k t3_2).bind fun l4 => reverse_mirrored_l0 k a0 l4 (([] : List Int))
theorem reverse_mirrored_ok {k : Nat} {a0 : api_Bits} {r : api_Bits} (h : reverse_mirrored k a0 = some r) : AnsO Tryd.prog 52 [] [.p (pP4 a0)] [(22, rW 58 r.Words)] (.agg [.p (i6 (r.N)), .own 22]) := by
  refine W_fnO [22] Tryd.func52 rfl (by kernel_rfl) (by kernel_rfl) (by kernel_rfl) (by kernel_rfl) ?_
  intro X hro hn
  unfold reverse_mirrored at h
  refine WC.rg hn [] [1, 2] [1, 2] ⟨[(1, .ptr 1 0), (2, .ptr 2 0)], [(1, .box 25 (vV4 a0)), (2, .box 25 [.p (i6 (0)), .p (.sl .nil 0 [])])], L0, []⟩ trivial ?_
  refine WC.rg hn [] [1, 2, 3] [1, 2, 3] ⟨[(1, .ptr 1 0), (2, .ptr 2 0), (3, .ptr 3 0)], [(1, .box 25 (vV4 a0)), (2, .box 25 [.p (i6 (0)), .p (.sl .nil 0 [])]), (3, .box 31 [.p (.sl .nil 0 [])])], L0, []⟩ trivial ?_
  refine WX.seq ?_
  refine WX.seq ?_
  obtain ⟨t3_2, h3_1, h⟩ := bind_some h
  refine WC.r1 hn [(1, .resP (.fn 117 [.rop ([i6 (t3_2.N), sW t3_2.Words])]))] [1, 2, 3, 8] [1, 2, 3] ⟨[(1, .ptr 1 0), (2, .ptr 2 0), (3, .ptr 3 0), (8, .p (.fn 117 [.rop ([i6 (t3_2.N), sW t3_2.Words])]))], [(1, .box 25 (vV4 a0)), (2, .box 25 [.p (i6 (0)), .p (.sl .nil 0 [])]), (3, .box 31 [.p (.sl .nil 0 [])])], L0, []⟩ (And.intro ((bits_All_ok h3_1)) (trivial)) ?_
  refine WX.block ?_
  obtain ⟨l4, hI4, h⟩ := bind_some h
  refine WC.nil hn [] (some (3, 0)) 17 3 1 (by kernel_rfl) [1, 2, 3, 8] [1, 2, 3, 17] (st' := ⟨[(1, .ptr 1 0), (2, .ptr 2 0), (3, .ptr 3 0), (8, .p (.fn 117 [.rop ([i6 (t3_2.N), sW t3_2.Words])]))], [(1, .box 25 (vV4 a0)), (2, .box 25 [.p (i6 (0)), .p (.sl .nil 0 [])]), (3, .box 31 [.own 17]), (17, rI 3 (([] : List Int)))], L0, []⟩) (by kernel_rfl) ?_
  refine WC.range (V := List Int) hn (reverse_mirrored_l0 k a0) r (fun v4 => ⟨[(1, .ptr 1 0), (2, .ptr 2 0), (3, .ptr 3 0), (8, .p (.fn 117 [.rop ([i6 (t3_2.N), sW t3_2.Words])]))], [(1, .box 25 (vV4 a0)), (2, .box 25 [.p (i6 (0)), .p (.sl .nil 0 [])]), (3, .box 31 [.own 17]), (17, rI 3 v4)], L0, []⟩) (fun x4 v4 => ⟨[(1, .ptr 1 0), (2, .ptr 2 0), (3, .ptr 3 0), (4, .p (i6 (x4))), (8, .p (.fn 117 [.rop ([i6 (t3_2.N), sW t3_2.Words])])), (9, .p (i6 (x4)))], [(1, .box 25 (vV4 a0)), (2, .box 25 [.p (i6 (0)), .p (.sl .nil 0 [])]), (3, .box 31 [.own 17]), (17, rI 3 v4)], ⟨[], false⟩, [[(1, .ptr 1 0), (2, .ptr 2 0), (3, .ptr 3 0), (8, .p (.fn 117 [.rop ([i6 (t3_2.N), sW t3_2.Words])]))]]⟩) (fun x : Int => ([i6 (x)] : List PV)) l4 (([] : List Int)) h [1, 2, 3, 8] [1, 2, 3, 17] (by kernel_rfl) (fun v4 => .p (.fn 117 [.rop ([i6 (t3_2.N), sW t3_2.Words])])) (fun v4 => by kernel_rfl) (by kernel_rfl) (bits_All_1_v1_it hI4) (by kernel_rfl) (fun v4 => by kernel_rfl) (fun x => rfl) ?_ ?_ ?_
  · clear h; rintro x4_1_1 h
    rw [reverse_mirrored_l0] at h
    refine WX.popBlk ?_
    refine WX.seq ?_
    obtain ⟨t13_2, h13_1, h⟩ := bind_some h
    refine WC.r1 hn [(3, .co [] [] [17] [(22, rW 58 t13_2.1.Words)] (.tup [.agg [.p (i6 (t13_2.1.N)), .own 22], .p (i6 (t13_2.2))]))] [2, 5] [2, 5, 22] ⟨[(2, .ptr 2 0), (5, .ptr 5 0)], [(2, .box 25 [.p (i6 (0)), .p (.sl .nil 0 [])]), (5, .box 25 [.p (i6 (t13_2.1.N)), .own 22]), (22, rW 58 t13_2.1.Words)], L0, []⟩ (And.intro (And.intro ((bits_New_ok h13_1).ren 17 22 (by kernel_rfl)) (And.intro (rfl : (.tup [.agg [.p (i6 (t13_2.1.N)), .own 22], .p (i6 (t13_2.2))] : AV).flat = true) (And.intro (flats_encL (eI .u64) (fun _ => rfl) t13_2.1.Words) (trivial)))) (trivial)) ?_
    refine WC.rg hn [] [2] [2, 22] ⟨[(2, .ptr 2 0)], [(2, .box 25 [.p (i6 (t13_2.1.N)), .own 22]), (22, rW 58 t13_2.1.Words)], L0, []⟩ trivial ?_
    refine WX.ret ?_
    exact WC.outO (by rw [← Option.some.inj h]; kernel_rfl)
  · clear h; intro X hn x4; rintro x4_1_1
    refine WC.r1 hn [] [1, 2, 3, 4, 8, 9] [1, 2, 3, 17] ⟨[(1, .ptr 1 0), (2, .ptr 2 0), (3, .ptr 3 0), (4, .p (i6 (x4))), (8, .p (.fn 117 [.rop ([i6 (t3_2.N), sW t3_2.Words])])), (9, .p (i6 (x4)))], [(1, .box 25 (vV4 a0)), (2, .box 25 [.p (i6 (0)), .p (.sl .nil 0 [])]), (3, .box 31 [.own 17]), (17, rI 3 x4_1_1)], ⟨[], false⟩, [[(1, .ptr 1 0), (2, .ptr 2 0), (3, .ptr 3 0), (8, .p (.fn 117 [.rop ([i6 (t3_2.N), sW t3_2.Words])]))]]⟩ trivial ?_
    exact WC.exit_nil ⟨rfl, rfl⟩
  · clear h; intro X hn x4 xs4; rintro x4_1_1 h K4 hnext4 hexit4
    rw [reverse_mirrored_l0] at h
    refine WX.block ?_
    obtain ⟨c16_1, h⟩ := if_some h
    refine WC.r1 hn [(7, .app (some 17) (rI 3 (x4_1_1 ++ ([(IntKind.i64.wrap ((IntKind.i64.wrap (a0.N - 1)) - x4))]))))] [] [1, 2, 3, 17] ⟨[], [(1, .box 25 (vV4 a0)), (2, .box 25 [.p (i6 (0)), .p (.sl .nil 0 [])]), (3, .box 31 [.own 17]), (17, rI 3 (x4_1_1 ++ ([(IntKind.i64.wrap ((IntKind.i64.wrap (a0.N - 1)) - x4))])))], ⟨[], false⟩, [[(1, .ptr 1 0), (2, .ptr 2 0), (3, .ptr 3 0), (8, .p (.fn 117 [.rop ([i6 (t3_2.N), sW t3_2.Words])]))]]⟩ (And.intro (Ap (eI .i64) (some 17) 3 8 1 x4_1_1 ([(IntKind.i64.wrap ((IntKind.i64.wrap (a0.N - 1)) - x4))]) c16_1) (trivial)) ?_
    refine WX.popBlk ?_
    refine WC.keep [] [1, 2, 3, 17] (st' := ⟨[], [(1, .box 25 (vV4 a0)), (2, .box 25 [.p (i6 (0)), .p (.sl .nil 0 [])]), (3, .box 31 [.own 17]), (17, rI 3 (x4_1_1 ++ ([(IntKind.i64.wrap ((IntKind.i64.wrap (a0.N - 1)) - x4))])))], ⟨[], false⟩, [[(1, .ptr 1 0), (2, .ptr 2 0), (3, .ptr 3 0), (8, .p (.fn 117 [.rop ([i6 (t3_2.N), sW t3_2.Words])]))]]⟩) (by kernel_rfl) ?_
    exact WC.nextR [] [1, 2, 3, 17] (s := ⟨[], [(1, .box 25 (vV4 a0)), (2, .box 25 [.p (i6 (0)), .p (.sl .nil 0 [])]), (3, .box 31 [.own 17]), (17, rI 3 (x4_1_1 ++ ([(IntKind.i64.wrap ((IntKind.i64.wrap (a0.N - 1)) - x4))])))], ⟨[], false⟩, [[(1, .ptr 1 0), (2, .ptr 2 0), (3, .ptr 3 0), (8, .p (.fn 117 [.rop ([i6 (t3_2.N), sW t3_2.Words])]))]]⟩) (by kernel_rfl) rfl (fun s hb => hnext4 (x4_1_1 ++ ([(IntKind.i64.wrap ((IntKind.i64.wrap (a0.N - 1)) - x4))])) s h hb)
theorem reverse_mirrored_okP {k : Nat} {a0 : api_Bits} {r : api_Bits} (h : reverse_mirrored k a0 = some r) : Ans Tryd.prog 52 [pP4 a0] (pP4 r) := AnsO.ans (args := [pP4 a0]) (reverse_mirrored_ok h) (by kernel_rfl)
def slices_Reverse_riddle_api_Class_riddle_api_Class_l0 (J2 : List (Arr4 Int) → Option ((List (Arr4 Int)))) : Nat → (List (Arr4 Int) × Int × Int) → Option ((List (Arr4 Int)))
  | 0, _ => none
  | k + 1, (x12_1_1, x12_1_2, x12_1_3) => (if (decide (x12_1_2 < x12_1_3)) = true then (at_ x12_1_1 x12_1_3).bind fun t23_2 => (at_ x12_1_1 x12_1_2).bind fun t23_4 => (at_ (x12_1_1.set x12_1_2.toNat t23_2) x12_1_3).bind fun t23_6 => slices_Reverse_riddle_api_Class_riddle_api_Class_l0 J2 k ((x12_1_1.set x12_1_2.toNat t23_2).set x12_1_3.toNat t23_4, (IntKind.i64.wrap (x12_1_2 + 1)), (IntKind.i64.wrap (x12_1_3 - 1))) else J2 x12_1_1)
def slices_Reverse_riddle_api_Class_riddle_api_Class (k : Nat) (a0 : (List (Arr4 Int))) : Option ((List (Arr4 Int))) :=
  jn (fun (v2 : List (Arr4 Int)) => some v2) fun J2 => slices_Reverse_riddle_api_Class_riddle_api_Class_l0 J2 k (a0, 0, (IntKind.i64.wrap ((a0.length : Int) - 1)))
theorem slices_Reverse_riddle_api_Class_riddle_api_Class_ok {k : Nat} {a0 : (List (Arr4 Int))} {r : (List (Arr4 Int))} (h : slices_Reverse_riddle_api_Class_riddle_api_Class k a0 = some r) : AnsO Tryd.prog 53 [(1000, rowV 60 (e4 (eI .u64)) a0)] [.own 1000] [(1000, rowV 60 (e4 (eI .u64)) r)] (.tup []) := by
  refine W_fnO [1000] Tryd.func53 rfl (by kernel_rfl) (by kernel_rfl) (by kernel_rfl) (by kernel_rfl) ?_
  intro X hro hn
  unfold slices_Reverse_riddle_api_Class_riddle_api_Class at h
  refine WC.rg hn [] [0, 2, 3] [1000] ⟨[(0, .own 1000), (2, .p (i6 (0))), (3, .p (i6 (((IntKind.i64.wrap ((a0.length : Int) - 1))))))], [(1000, rowV 60 (e4 (eI .u64)) a0)], L0, []⟩ trivial ?_
  obtain ⟨J2, eJ2, h⟩ := jn_some h
  try dsimp only at h
  refine WC.join (α := List (Arr4 Int)) (fun v2 => ⟨[], [(1000, rowV 60 (e4 (eI .u64)) v2)], L0, []⟩) (fun v2 => J2 v2 = some r) ?_ (fun hJ2 => ?_)
  · rintro y2_o1000 h
    rw [eJ2] at h
    try dsimp only at h
    exact WC.outOn (by rw [← Option.some.inj h]; kernel_rfl)
  · replace hJ2 := fun y2_o1000 => hJ2 y2_o1000
    refine WX.block ?_
    refine WC.loop (V := List (Arr4 Int) × Int × Int) (slices_Reverse_riddle_api_Class_riddle_api_Class_l0 J2) r (fun v12 => ⟨[(0, .own 1000), (2, .p (i6 (v12.2.1))), (3, .p (i6 (v12.2.2)))], [(1000, rowV 60 (e4 (eI .u64)) v12.1)], L0, []⟩) _ (a0, 0, (IntKind.i64.wrap ((a0.length : Int) - 1))) h (fun _ => rfl) [0, 2, 3] [1000] (by kernel_rfl) ?_
    clear h; rintro k ⟨x12_1_1, x12_1_2, x12_1_3⟩ h K12 hnext12 hexit12
    rw [slices_Reverse_riddle_api_Class_riddle_api_Class_l0] at h
    refine WX.seq ?_
    refine WC.rg hn [] [0, 2, 3, 9] [1000] ⟨[(0, .own 1000), (2, .p (i6 (x12_1_2))), (3, .p (i6 (x12_1_3))), (9, .p (bo (((decide (x12_1_2 < x12_1_3))))))], [(1000, rowV 60 (e4 (eI .u64)) x12_1_1)], L0, []⟩ trivial ?_
    rcases if_or h with ⟨c22, h⟩ | ⟨c22, h⟩
    · refine WC.condT c22 (by kernel_rfl) ?_
      refine WX.skip ?_
      refine WX.seq ?_
      refine WX.block ?_
      obtain ⟨t23_2, h23_1, h⟩ := bind_some h
      obtain ⟨t23_4, h23_3, h⟩ := bind_some h
      obtain ⟨t23_6, h23_5, h⟩ := bind_some h
      refine WC.drw hn [(13, [2, 3]), (15, [])] [] [(6, .val (.ptr 1000 (x12_1_3.toNat * 4))), (7, .val (.p (.agg [u6 (t23_2.a0), u6 (t23_2.a1), u6 (t23_2.a2), u6 (t23_2.a3)]))), (10, .val (.ptr 1000 (x12_1_2.toNat * 4))), (11, .val (.p (.agg [u6 (t23_4.a0), u6 (t23_4.a1), u6 (t23_4.a2), u6 (t23_4.a3)]))), (12, .val (.ptr 1000 (x12_1_2.toNat * 4))), (13, .sto 1000 (rowV 60 (e4 (eI .u64)) (x12_1_1.set x12_1_2.toNat t23_2))), (14, .val (.ptr 1000 (x12_1_3.toNat * 4))), (15, .sto 1000 (rowV 60 (e4 (eI .u64)) ((x12_1_1.set x12_1_2.toNat t23_2).set x12_1_3.toNat t23_4)))] [0, 2, 3] [1000] ⟨[(0, .own 1000), (2, .p (i6 (x12_1_2))), (3, .p (i6 (x12_1_3)))], [(1000, rowV 60 (e4 (eI .u64)) ((x12_1_1.set x12_1_2.toNat t23_2).set x12_1_3.toNat t23_4))], L0, []⟩ (And.intro (IxO 1000 4 h23_1) (And.intro (LdO0 Tryd.prog (e4 (eI .u64)) 60 h23_1) (And.intro (IxO 1000 4 h23_3) (And.intro (LdO0 Tryd.prog (e4 (eI .u64)) 60 h23_3) (And.intro (IxO 1000 4 h23_3) (And.intro (StO0 (e4 (eI .u64)) 1000 60 4 4 [u6 (t23_2.a0), u6 (t23_2.a1), u6 (t23_2.a2), u6 (t23_2.a3)] t23_2 h23_3 rfl rfl (by decide)) (And.intro (And.intro (Eq.refl (some (.own 1000 : AV))) (And.intro (Eq.refl (some (.p (i6 (x12_1_3)) : AV))) (trivial))) (And.intro (IxO 1000 4 h23_5) (And.intro (StO0 (e4 (eI .u64)) 1000 60 4 4 [u6 (t23_4.a0), u6 (t23_4.a1), u6 (t23_4.a2), u6 (t23_4.a3)] t23_4 h23_5 rfl rfl (by decide)) (trivial)))))))))) (by kernel_rfl) (by kernel_rfl) (by kernel_rfl) (by kernel_rfl) ?_
      refine WX.popBlk ?_
      refine WC.r1 hn [] [0, 2, 3] [1000] ⟨[(0, .own 1000), (2, .p (i6 (((IntKind.i64.wrap (x12_1_2 + 1)))))), (3, .p (i6 (((IntKind.i64.wrap (x12_1_3 - 1))))))], [(1000, rowV 60 (e4 (eI .u64)) ((x12_1_1.set x12_1_2.toNat t23_2).set x12_1_3.toNat t23_4))], L0, []⟩ trivial ?_
      exact WC.next [0, 2, 3] [1000] (by kernel_rfl) (hnext12 ((x12_1_1.set x12_1_2.toNat t23_2).set x12_1_3.toNat t23_4, (IntKind.i64.wrap (x12_1_2 + 1)), (IntKind.i64.wrap (x12_1_3 - 1))) h)
    · refine WC.condF c22 (by kernel_rfl) ?_
      refine WX.exit ?_
      refine WX.popCodeExit ?_
      refine WC.exit_nil (hexit12 _ _ (by simp) ?_)
      refine WX.popBlkHit ?_
      exact WC.keep [] [1000] (by kernel_rfl) (hJ2 x12_1_1 h)
def slices_Backward_riddle_api_Bits_riddle_api_Bits (a0 : (List api_Bits)) : Option (((List api_Bits))) :=
  some a0
theorem slices_Backward_riddle_api_Bits_riddle_api_Bits_ok {a0 : (List api_Bits)} {r : ((List api_Bits))} (h : slices_Backward_riddle_api_Bits_riddle_api_Bits a0 = some r) : Ans Tryd.prog 54 [sB a0] (.fn 94 [.rop ([sB r])]) := by
  refine W_fn Tryd.func54 rfl (by kernel_rfl) (by kernel_rfl) ?_
  intro X hro hn
  unfold slices_Backward_riddle_api_Bits_riddle_api_Bits at h
  refine WC.rg hn [] [1] [1] ⟨[(1, .ptr 1 0)], [(1, .box 26 [.p (sB a0)])], L0, []⟩ trivial ?_
  refine WC.rg hn [] [2] [1] ⟨[(2, .fn 94 [.ptr 1 0])], [(1, .box 26 [.p (sB a0)])], L0, []⟩ trivial ?_
  refine WX.ret ?_
  exact WC.outP (by rw [← Option.some.inj h]; kernel_rfl)
def slices_Backward_riddle_api_Bits_riddle_api_Bits_1_v1_l0 (a1 : (List api_Bits)) : Nat → Int → Option (List (Int × api_Bits))
  | 0, _ => none
  | k + 1, x2_1_1 => (if (decide (x2_1_1 ≥ 0)) = true then (at_ a1 x2_1_1).bind fun t13_2 => (slices_Backward_riddle_api_Bits_riddle_api_Bits_1_v1_l0 a1 k ((IntKind.i64.wrap (x2_1_1 - 1)))).map ((x2_1_1, t13_2) :: ·) else some [])
def slices_Backward_riddle_api_Bits_riddle_api_Bits_1_v1 (k : Nat) (a1 : (List api_Bits)) : Option (List (Int × api_Bits)) :=
  slices_Backward_riddle_api_Bits_riddle_api_Bits_1_v1_l0 a1 k ((IntKind.i64.wrap ((a1.length : Int) - 1)))
theorem slices_Backward_riddle_api_Bits_riddle_api_Bits_1_v1_it {k : Nat} {a1 : (List api_Bits)} {r : List (Int × api_Bits)} (h : slices_Backward_riddle_api_Bits_riddle_api_Bits_1_v1 k a1 = some r) : Iter Tryd.prog 94 [.rop ([sB a1])] (r.map (fun x : Int × api_Bits => ([i6 (x.1), pP4 x.2] : List PV))) := by
  refine W_it Tryd.func94 rfl (by kernel_rfl) (Nat.le_of_ble_eq_true (by kernel_rfl)) ?_
  intro X hro hn hY
  obtain ⟨L, hLe⟩ : ∃ L, L = r.map (fun x : Int × api_Bits => ([i6 (x.1), pP4 x.2] : List PV)) := ⟨_, rfl⟩
  rw [← hLe] at hY ⊢
  have hL : ([] : List (List PV)) ++ r.map (fun x : Int × api_Bits => ([i6 (x.1), pP4 x.2] : List PV)) = L := by rw [hLe]; rfl
  clear hLe
  unfold slices_Backward_riddle_api_Bits_riddle_api_Bits_1_v1 at h
  refine WC.rg hn [] [0, 1, 3] [] ⟨[(0, .yield), (1, .p (.rop ([sB a1]))), (3, .p (i6 (((IntKind.i64.wrap ((a1.length : Int) - 1))))))], [], ⟨([] : List (List PV)), false⟩, []⟩ trivial ?_
  refine WX.block ?_
  refine WC.loop (V := Int × List (List PV)) (fun k v2 => (slices_Backward_riddle_api_Bits_riddle_api_Bits_1_v1_l0 a1 k v2.1).map fun r => v2.2 ++ r.map (fun x : Int × api_Bits => ([i6 (x.1), pP4 x.2] : List PV))) L (fun v2 => ⟨[(0, .yield), (1, .p (.rop ([sB a1]))), (3, .p (i6 (v2.1)))], [], ⟨v2.2, false⟩, []⟩) _ ((IntKind.i64.wrap ((a1.length : Int) - 1)), ([] : List (List PV))) (by rw [h]; exact congrArg some hL) (fun _ => rfl) [0, 1, 3] [] (by kernel_rfl) ?_
  clear h hL; rintro k ⟨x2_1_1, x2_1_2⟩ h K2 hnext2 hexit2
  obtain ⟨r, h, hL⟩ := mapO_some h
  dsimp only at h hL
  rw [slices_Backward_riddle_api_Bits_riddle_api_Bits_1_v1_l0] at h
  refine WX.seq ?_
  refine WC.rg hn [] [0, 1, 3, 8] [] ⟨[(0, .yield), (1, .p (.rop ([sB a1]))), (3, .p (i6 (x2_1_1))), (8, .p (bo (((decide (x2_1_1 ≥ 0))))))], [], ⟨x2_1_2, false⟩, []⟩ trivial ?_
  rcases if_or h with ⟨c12, h⟩ | ⟨c12, h⟩
  · refine WC.condT c12 (by kernel_rfl) ?_
    refine WX.skip ?_
    refine WX.seq ?_
    refine WX.block ?_
    refine WX.seq ?_
    obtain ⟨t13_2, h13_1, h⟩ := bind_some h
    obtain ⟨r13, hh13, hr13⟩ := mapO_some h
    subst hr13
    replace h := hh13
    refine WC.yld hn hY 6 [(4, .val (.p (.rop (e_api_Bits.cells t13_2 ++ encL e_api_Bits (a1.drop (x2_1_1.toNat + 1))))))] [0, 1, 3, 18] [] (⟨[(0, .yield), (1, .p (.rop ([sB a1]))), (3, .p (i6 (x2_1_1))), (18, .p (bo (false)))], [], ⟨(x2_1_2 ++ [[i6 (x2_1_1), pP4 t13_2]]), false⟩, []⟩) (⟨[(0, .yield), (1, .p (.rop ([sB a1]))), (3, .p (i6 (x2_1_1))), (18, .p (bo (true)))], [], ⟨(x2_1_2 ++ [[i6 (x2_1_1), pP4 t13_2]]), true⟩, []⟩) x2_1_2 [i6 (x2_1_1), pP4 t13_2] (And.intro (And.intro (Ix e_api_Bits h13_1) (True.intro)) (And.intro True.intro True.intro)) (by kernel_rfl) (pre_ok (val := (fun x : Int × api_Bits => ([i6 (x.1), pP4 x.2] : List PV))) (x := (x2_1_1, t13_2)) (l := r13) hL) ?_ ?_
    · replace hL : (x2_1_2 ++ [[i6 (x2_1_1), pP4 t13_2]]) ++ r13.map (fun x : Int × api_Bits => ([i6 (x.1), pP4 x.2] : List PV)) = L := by rw [← hL]; simp
      refine WC.condF rfl (by kernel_rfl) ?_
      refine WX.skip ?_
      refine WX.popBlk ?_
      refine WC.r1 hn [] [0, 1, 3] [] ⟨[(0, .yield), (1, .p (.rop ([sB a1]))), (3, .p (i6 (((IntKind.i64.wrap (x2_1_1 - 1))))))], [], ⟨(x2_1_2 ++ [[i6 (x2_1_1), pP4 t13_2]]), false⟩, []⟩ trivial ?_
      exact WC.next [0, 1, 3] [] (by kernel_rfl) (hnext2 ((IntKind.i64.wrap (x2_1_1 - 1)), (x2_1_2 ++ [[i6 (x2_1_1), pP4 t13_2]])) (by rw [h]; exact congrArg some hL))
    · refine WC.condT rfl (by kernel_rfl) ?_
      refine WX.ret ?_
      refine WC.ret_all (hexit2 _ _ (by simp) ?_)
      exact WC.ret_all ⟨by kernel_rfl, fun h => by cases h⟩
  · refine WC.condF c12 (by kernel_rfl) ?_
    refine WX.exit ?_
    refine WX.popCodeExit ?_
    refine WC.exit_nil (hexit2 _ _ (by simp) ?_)
    refine WX.popBlkHit ?_
    obtain rfl := Option.some.inj h
    exact WC.exit_nil ⟨by kernel_rfl, fun _ => by simpa using hL⟩
def reverse_Turn_l0 (k : Nat) (t2_2 : api_Nfa) (t4_2 : api_Bits) (t4_4 : api_Bits) (t5_2 : (List (Arr4 Int))) : List (Int × api_Bits) → List api_Bits → Option (api_Nfa)
  | [], x7_1_1 => some ((api_Nfa.mk t5_2 t4_2 t4_4 x7_1_1 t2_2.Null))
  | x7 :: xs7, x7_1_1 => (reverse_mirrored k x7.2).bind fun t16_2 => (if okApp 32 (x7_1_1.length + ([t16_2]).length) then reverse_Turn_l0 k t2_2 t4_2 t4_4 t5_2 xs7 (x7_1_1 ++ ([t16_2])) else none)
def reverse_Turn (k : Nat) (a0 : api_Nfa) : Option (api_Nfa) :=
  (reverse_may k a0).bind fun t2_2 => (reverse_mirrored k t2_2.First).bind fun t4_2 => (reverse_mirrored k t2_2.Last).bind fun t4_4 => (slices_Reverse_riddle_api_Class_riddle_api_Class k t2_2.Classes).bind fun t5_2 => (slices_Backward_riddle_api_Bits_riddle_api_Bits t2_2.Follow).bind fun t6_2 => (slices_Backward_riddle_api_Bits_riddle_api_Bits_1_v1 k t6_2).bind fun l7 => reverse_Turn_l0 k t2_2 t4_2 t4_4 t5_2 l7 (([] : List api_Bits))
theorem reverse_Turn_ok {k : Nat} {a0 : api_Nfa} {r : api_Nfa} (h : reverse_Turn k a0 = some r) : AnsO Tryd.prog 22 [] [.p (pP1 a0)] [(34, rowV 60 (e4 (eI .u64)) r.Classes), (32, rowV 25 e_api_Bits r.Follow)] (.agg [.own 34, .p (i6 (r.First.N)), .p (sW r.First.Words), .p (i6 (r.Last.N)), .p (sW r.Last.Words), .own 32, .p (bo (r.Null))]) := by
  refine W_fnO [34, 32] Tryd.func22 rfl (by kernel_rfl) (by kernel_rfl) (by kernel_rfl) (by kernel_rfl) ?_
  intro X hro hn
  unfold reverse_Turn at h
  refine WC.rg hn [] [1, 2] [1, 2] ⟨[(1, .ptr 1 0), (2, .ptr 2 0)], [(1, .box 28 (vV1 a0)), (2, .box 28 [.p (.sl .nil 0 []), .p (i6 (0)), .p (.sl .nil 0 []), .p (i6 (0)), .p (.sl .nil 0 []), .p (.sl .nil 0 []), .p (bo (false))])], L0, []⟩ trivial ?_
  refine WX.seq ?_
  obtain ⟨t2_2, h2_1, h⟩ := bind_some h
  refine WC.r1 hn [(1, .co [] [] [] [(34, rowV 60 (e4 (eI .u64)) t2_2.Classes), (7, rW 58 t2_2.Last.Words)] (.agg [.own 34, .p (i6 (t2_2.First.N)), .p (sW t2_2.First.Words), .p (i6 (t2_2.Last.N)), .own 7, .p (sB t2_2.Follow), .p (bo (t2_2.Null))]))] [1, 2] [1, 2, 7, 34] ⟨[(1, .ptr 1 0), (2, .ptr 2 0)], [(1, .box 28 [.own 34, .p (i6 (t2_2.First.N)), .p (sW t2_2.First.Words), .p (i6 (t2_2.Last.N)), .own 7, .p (sB t2_2.Follow), .p (bo (t2_2.Null))]), (2, .box 28 [.p (.sl .nil 0 []), .p (i6 (0)), .p (.sl .nil 0 []), .p (i6 (0)), .p (.sl .nil 0 []), .p (.sl .nil 0 []), .p (bo (false))]), (7, rW 58 t2_2.Last.Words), (34, rowV 60 (e4 (eI .u64)) t2_2.Classes)], L0, []⟩ (And.intro (And.intro ((reverse_may_ok h2_1).ren 10 34 (by kernel_rfl)) (trivial)) (trivial)) ?_
  refine WX.seq ?_
  refine WC.frz 7 (st' := ⟨[(1, .ptr 1 0), (2, .ptr 2 0)], [(1, .box 28 [.own 34, .p (i6 (t2_2.First.N)), .p (sW t2_2.First.Words), .p (i6 (t2_2.Last.N)), .p (sW t2_2.Last.Words), .p (sB t2_2.Follow), .p (bo (t2_2.Null))]), (2, .box 28 [.p (.sl .nil 0 []), .p (i6 (0)), .p (.sl .nil 0 []), .p (i6 (0)), .p (.sl .nil 0 []), .p (.sl .nil 0 []), .p (bo (false))]), (34, rowV 60 (e4 (eI .u64)) t2_2.Classes)], L0, []⟩) (by kernel_rfl) ?_
  obtain ⟨t4_2, h4_1, h⟩ := bind_some h
  obtain ⟨t4_4, h4_3, h⟩ := bind_some h
  refine WC.drw hn [(12, [])] [3] [(4, .resP (pP4 t4_2)), (7, .resP (pP4 t4_4))] [1, 2, 3] [1, 2, 3, 34] ⟨[(1, .ptr 1 0), (2, .ptr 2 0), (3, .ptr 3 0)], [(1, .box 28 [.own 34, .p (i6 (t2_2.First.N)), .p (sW t2_2.First.Words), .p (i6 (t2_2.Last.N)), .p (sW t2_2.Last.Words), .p (sB t2_2.Follow), .p (bo (t2_2.Null))]), (2, .box 28 [.p (.sl .nil 0 []), .p (i6 (0)), .p (.sl .nil 0 []), .p (i6 (0)), .p (.sl .nil 0 []), .p (.sl .nil 0 []), .p (bo (false))]), (3, .box 28 [.own 34, .p (i6 (t4_2.N)), .p (sW t4_2.Words), .p (i6 (t4_4.N)), .p (sW t4_4.Words), .p (.sl .nil 0 []), .p (bo (t2_2.Null))]), (34, rowV 60 (e4 (eI .u64)) t2_2.Classes)], L0, []⟩ (And.intro ((reverse_mirrored_okP h4_1)) (And.intro ((reverse_mirrored_okP h4_3)) (trivial))) (by kernel_rfl) (by kernel_rfl) (by kernel_rfl) (by kernel_rfl) ?_
  refine WX.seq ?_
  obtain ⟨t5_2, h5_1, h⟩ := bind_some h
  refine WC.r1 hn [(2, .co [] [34] [] [(34, rowV 60 (e4 (eI .u64)) t5_2)] (.tup []))] [1, 2, 3] [1, 2, 3, 34] ⟨[(1, .ptr 1 0), (2, .ptr 2 0), (3, .ptr 3 0)], [(1, .box 28 [.own 34, .p (i6 (t2_2.First.N)), .p (sW t2_2.First.Words), .p (i6 (t2_2.Last.N)), .p (sW t2_2.Last.Words), .p (sB t2_2.Follow), .p (bo (t2_2.Null))]), (2, .box 28 [.p (.sl .nil 0 []), .p (i6 (0)), .p (.sl .nil 0 []), .p (i6 (0)), .p (.sl .nil 0 []), .p (.sl .nil 0 []), .p (bo (false))]), (3, .box 28 [.own 34, .p (i6 (t4_2.N)), .p (sW t4_2.Words), .p (i6 (t4_4.N)), .p (sW t4_4.Words), .p (.sl .nil 0 []), .p (bo (t2_2.Null))]), (34, rowV 60 (e4 (eI .u64)) t5_2)], L0, []⟩ (And.intro (And.intro ((slices_Reverse_riddle_api_Class_riddle_api_Class_ok h5_1).ren 1000 34 (by kernel_rfl)) (trivial)) (trivial)) ?_
  refine WX.seq ?_
  refine WX.seq ?_
  obtain ⟨t6_2, h6_1, h⟩ := bind_some h
  refine WC.r1 hn [(2, .resP (.fn 94 [.rop ([sB t6_2])]))] [2, 3, 24] [2, 3, 34] ⟨[(2, .ptr 2 0), (3, .ptr 3 0), (24, .p (.fn 94 [.rop ([sB t6_2])]))], [(2, .box 28 [.p (.sl .nil 0 []), .p (i6 (0)), .p (.sl .nil 0 []), .p (i6 (0)), .p (.sl .nil 0 []), .p (.sl .nil 0 []), .p (bo (false))]), (3, .box 28 [.own 34, .p (i6 (t4_2.N)), .p (sW t4_2.Words), .p (i6 (t4_4.N)), .p (sW t4_4.Words), .p (.sl .nil 0 []), .p (bo (t2_2.Null))]), (34, rowV 60 (e4 (eI .u64)) t5_2)], L0, []⟩ (And.intro ((slices_Backward_riddle_api_Bits_riddle_api_Bits_ok h6_1)) (trivial)) ?_
  refine WX.block ?_
  obtain ⟨l7, hI7, h⟩ := bind_some h
  refine WC.nil hn [] (some (3, 5)) 32 25 2 (by kernel_rfl) [2, 3, 24] [2, 3, 32, 34] (st' := ⟨[(2, .ptr 2 0), (3, .ptr 3 0), (24, .p (.fn 94 [.rop ([sB t6_2])]))], [(2, .box 28 [.p (.sl .nil 0 []), .p (i6 (0)), .p (.sl .nil 0 []), .p (i6 (0)), .p (.sl .nil 0 []), .p (.sl .nil 0 []), .p (bo (false))]), (3, .box 28 [.own 34, .p (i6 (t4_2.N)), .p (sW t4_2.Words), .p (i6 (t4_4.N)), .p (sW t4_4.Words), .own 32, .p (bo (t2_2.Null))]), (32, rowV 25 e_api_Bits (([] : List api_Bits))), (34, rowV 60 (e4 (eI .u64)) t5_2)], L0, []⟩) (by kernel_rfl) ?_
  refine WC.range (V := List api_Bits) hn (reverse_Turn_l0 k t2_2 t4_2 t4_4 t5_2) r (fun v7 => ⟨[(2, .ptr 2 0), (3, .ptr 3 0), (24, .p (.fn 94 [.rop ([sB t6_2])]))], [(2, .box 28 [.p (.sl .nil 0 []), .p (i6 (0)), .p (.sl .nil 0 []), .p (i6 (0)), .p (.sl .nil 0 []), .p (.sl .nil 0 []), .p (bo (false))]), (3, .box 28 [.own 34, .p (i6 (t4_2.N)), .p (sW t4_2.Words), .p (i6 (t4_4.N)), .p (sW t4_4.Words), .own 32, .p (bo (t2_2.Null))]), (32, rowV 25 e_api_Bits v7), (34, rowV 60 (e4 (eI .u64)) t5_2)], L0, []⟩) (fun x7 v7 => ⟨[(2, .ptr 2 0), (3, .ptr 3 0), (5, .ptr 5 0), (24, .p (.fn 94 [.rop ([sB t6_2])])), (25, .p (i6 (x7.1))), (26, .p (pP4 x7.2))], [(2, .box 28 [.p (.sl .nil 0 []), .p (i6 (0)), .p (.sl .nil 0 []), .p (i6 (0)), .p (.sl .nil 0 []), .p (.sl .nil 0 []), .p (bo (false))]), (3, .box 28 [.own 34, .p (i6 (t4_2.N)), .p (sW t4_2.Words), .p (i6 (t4_4.N)), .p (sW t4_4.Words), .own 32, .p (bo (t2_2.Null))]), (5, .box 25 (vV4 x7.2)), (32, rowV 25 e_api_Bits v7), (34, rowV 60 (e4 (eI .u64)) t5_2)], ⟨[], false⟩, [[(2, .ptr 2 0), (3, .ptr 3 0), (24, .p (.fn 94 [.rop ([sB t6_2])]))]]⟩) (fun x : Int × api_Bits => ([i6 (x.1), pP4 x.2] : List PV)) l7 (([] : List api_Bits)) h [2, 3, 24] [2, 3, 32, 34] (by kernel_rfl) (fun v7 => .p (.fn 94 [.rop ([sB t6_2])])) (fun v7 => by kernel_rfl) (by kernel_rfl) (slices_Backward_riddle_api_Bits_riddle_api_Bits_1_v1_it hI7) (by kernel_rfl) (fun v7 => by kernel_rfl) (fun x => rfl) ?_ ?_ ?_
  · clear h; rintro x7_1_1 h
    rw [reverse_Turn_l0] at h
    refine WX.popBlk ?_
    refine WC.rg hn [] [2] [2, 32, 34] ⟨[(2, .ptr 2 0)], [(2, .box 28 [.own 34, .p (i6 (t4_2.N)), .p (sW t4_2.Words), .p (i6 (t4_4.N)), .p (sW t4_4.Words), .own 32, .p (bo (t2_2.Null))]), (32, rowV 25 e_api_Bits x7_1_1), (34, rowV 60 (e4 (eI .u64)) t5_2)], L0, []⟩ trivial ?_
    refine WX.ret ?_
    exact WC.outO (by rw [← Option.some.inj h]; kernel_rfl)
  · clear h; intro X hn x7; rintro x7_1_1
    refine WC.r1 hn [] [2, 3, 5, 24, 25, 26] [2, 3, 5, 32, 34] ⟨[(2, .ptr 2 0), (3, .ptr 3 0), (5, .ptr 5 0), (24, .p (.fn 94 [.rop ([sB t6_2])])), (25, .p (i6 (x7.1))), (26, .p (pP4 x7.2))], [(2, .box 28 [.p (.sl .nil 0 []), .p (i6 (0)), .p (.sl .nil 0 []), .p (i6 (0)), .p (.sl .nil 0 []), .p (.sl .nil 0 []), .p (bo (false))]), (3, .box 28 [.own 34, .p (i6 (t4_2.N)), .p (sW t4_2.Words), .p (i6 (t4_4.N)), .p (sW t4_4.Words), .own 32, .p (bo (t2_2.Null))]), (5, .box 25 (vV4 x7.2)), (32, rowV 25 e_api_Bits x7_1_1), (34, rowV 60 (e4 (eI .u64)) t5_2)], ⟨[], false⟩, [[(2, .ptr 2 0), (3, .ptr 3 0), (24, .p (.fn 94 [.rop ([sB t6_2])]))]]⟩ trivial ?_
    exact WC.exit_nil ⟨rfl, rfl⟩
  · clear h; intro X hn x7 xs7; rintro x7_1_1 h K7 hnext7 hexit7
    rw [reverse_Turn_l0] at h
    refine WX.block ?_
    obtain ⟨t16_2, h16_1, h⟩ := bind_some h
    obtain ⟨c16_3, h⟩ := if_some h
    refine WC.drw hn [(5, []), (7, [])] [] [(3, .resP (pP4 t16_2)), (5, .app (some 32) (rowV 25 e_api_Bits (x7_1_1 ++ ([t16_2]))))] [] [2, 3, 32, 34] ⟨[], [(2, .box 28 [.p (.sl .nil 0 []), .p (i6 (0)), .p (.sl .nil 0 []), .p (i6 (0)), .p (.sl .nil 0 []), .p (.sl .nil 0 []), .p (bo (false))]), (3, .box 28 [.own 34, .p (i6 (t4_2.N)), .p (sW t4_2.Words), .p (i6 (t4_4.N)), .p (sW t4_4.Words), .own 32, .p (bo (t2_2.Null))]), (32, rowV 25 e_api_Bits (x7_1_1 ++ ([t16_2]))), (34, rowV 60 (e4 (eI .u64)) t5_2)], ⟨[], false⟩, [[(2, .ptr 2 0), (3, .ptr 3 0), (24, .p (.fn 94 [.rop ([sB t6_2])]))]]⟩ (And.intro ((reverse_mirrored_okP h16_1)) (And.intro (ApS e_api_Bits (some 32) 25 32 x7_1_1 ([t16_2]) c16_3) (trivial))) (by kernel_rfl) (by kernel_rfl) (by kernel_rfl) (by kernel_rfl) ?_
    refine WX.popBlk ?_
    refine WC.keep [] [2, 3, 32, 34] (st' := ⟨[], [(2, .box 28 [.p (.sl .nil 0 []), .p (i6 (0)), .p (.sl .nil 0 []), .p (i6 (0)), .p (.sl .nil 0 []), .p (.sl .nil 0 []), .p (bo (false))]), (3, .box 28 [.own 34, .p (i6 (t4_2.N)), .p (sW t4_2.Words), .p (i6 (t4_4.N)), .p (sW t4_4.Words), .own 32, .p (bo (t2_2.Null))]), (32, rowV 25 e_api_Bits (x7_1_1 ++ ([t16_2]))), (34, rowV 60 (e4 (eI .u64)) t5_2)], ⟨[], false⟩, [[(2, .ptr 2 0), (3, .ptr 3 0), (24, .p (.fn 94 [.rop ([sB t6_2])]))]]⟩) (by kernel_rfl) ?_
    exact WC.nextR [] [2, 3, 32, 34] (s := ⟨[], [(2, .box 28 [.p (.sl .nil 0 []), .p (i6 (0)), .p (.sl .nil 0 []), .p (i6 (0)), .p (.sl .nil 0 []), .p (.sl .nil 0 []), .p (bo (false))]), (3, .box 28 [.own 34, .p (i6 (t4_2.N)), .p (sW t4_2.Words), .p (i6 (t4_4.N)), .p (sW t4_4.Words), .own 32, .p (bo (t2_2.Null))]), (32, rowV 25 e_api_Bits (x7_1_1 ++ ([t16_2]))), (34, rowV 60 (e4 (eI .u64)) t5_2)], ⟨[], false⟩, [[(2, .ptr 2 0), (3, .ptr 3 0), (24, .p (.fn 94 [.rop ([sB t6_2])]))]]⟩) (by kernel_rfl) rfl (fun s hb => hnext7 (x7_1_1 ++ ([t16_2])) s h hb)
theorem reverse_Turn_okP {k : Nat} {a0 : api_Nfa} {r : api_Nfa} (h : reverse_Turn k a0 = some r) : Ans Tryd.prog 22 [pP1 a0] (pP1 r) := AnsO.ans (args := [pP1 a0]) (reverse_Turn_ok h) (by kernel_rfl)
def riddlelaw12_ReverseTwice (k : Nat) (a0 : api_Nfa) : Option (Bool) :=
  (riddlelaw12_few a0 ([])).bind fun t2_2 => ((if (!t2_2) = true then some true else (riddleref10_Check k a0).bind fun t2_4 => some ((t2_4 != 0))) : Option (Bool)).bind fun v2 => (if v2 = true then some true else (riddlelaw12_begun k).bind fun t5_2 => ((if t5_2 = true then (reverse_Reverse k a0).bind fun t5_4 => (reverse_Reverse k t5_4).bind fun t5_6 => (riddleref10_Same k t5_6 a0).bind fun t5_8 => (if t5_8 = true then (reverse_Turn k a0).bind fun t5_10 => (reverse_Turn k t5_10).bind fun t5_12 => (riddleref10_Same k t5_12 a0).bind fun t5_14 => some t5_14 else some false) else some false) : Option (Bool)).bind fun v5 => some v5)
theorem riddlelaw12_ReverseTwice_ok {k : Nat} {a0 : api_Nfa} {r : Bool} (h : riddlelaw12_ReverseTwice k a0 = some r) : Ans Tryd.prog 5 [pP1 a0] (bo (r)) := by
  refine W_fn Tryd.func5 rfl (by kernel_rfl) (by kernel_rfl) ?_
  intro X hro hn
  unfold riddlelaw12_ReverseTwice at h
  refine WC.rg hn [] [1] [1] ⟨[(1, .ptr 1 0)], [(1, .box 28 (vV1 a0))], L0, []⟩ trivial ?_
  refine WX.seq ?_
  refine WX.seq ?_
  obtain ⟨t2_2, h2_1, h⟩ := bind_some h
  obtain ⟨m2_1, g2, h⟩ := bind_some h
  refine WC.via (α := Bool) (fun v2 => ⟨[(1, .ptr 1 0), (10, .p (bo (v2)))], [(1, .box 28 (vV1 a0))], L0, []⟩) m2_1 (fun hk => ?_) ?_
  · rcases if_or g2 with ⟨b2_3, g2⟩ | ⟨b2_3, g2⟩
    · exact WC.reg hn [(1, .resP (bo (t2_2))), (3, .val (.p (bo (true))))] [1, 10] [1] ⟨[(1, .ptr 1 0), (10, .p (bo (true)))], [(1, .box 28 (vV1 a0))], L0, []⟩ (And.intro ((riddlelaw12_few_ok h2_1)) (And.intro (Bl b2_3) (trivial))) (by kernel_rfl) (hk true (Option.some.inj g2))
    · obtain ⟨t2_4, h2_3, g2⟩ := bind_some g2
      exact WC.reg hn [(1, .resP (bo (t2_2))), (3, .val (.p (bo (false)))), (5, .resP (i6 (t2_4)))] [1, 10] [1] ⟨[(1, .ptr 1 0), (10, .p (bo (((t2_4 != 0)))))], [(1, .box 28 (vV1 a0))], L0, []⟩ (And.intro ((riddlelaw12_few_ok h2_1)) (And.intro (Bl b2_3) (And.intro ((riddleref10_Check_ok h2_3)) (trivial)))) (by kernel_rfl) (hk ((t2_4 != 0)) (Option.some.inj g2))
  rcases if_or h with ⟨c3, h⟩ | ⟨c3, h⟩
  · refine WC.condT c3 (by kernel_rfl) ?_
    refine WC.rg hn [] [2] [] ⟨[(2, .p (bo (true)))], [], L0, []⟩ trivial ?_
    refine WX.ret ?_
    exact WC.outP (by rw [← Option.some.inj h]; kernel_rfl)
  · refine WC.condF c3 (by kernel_rfl) ?_
    refine WX.skip ?_
    refine WX.seq ?_
    obtain ⟨t5_2, h5_1, h⟩ := bind_some h
    obtain ⟨m5_1, g5, h⟩ := bind_some h
    refine WC.via (α := Bool) (fun v5 => ⟨[(2, .p (bo (v5)))], [], L0, []⟩) m5_1 (fun hk => ?_) ?_
    · rcases if_or g5 with ⟨b5_1, g5⟩ | ⟨b5_1, g5⟩
      · obtain ⟨t5_4, h5_3, g5⟩ := bind_some g5
        obtain ⟨t5_6, h5_5, g5⟩ := bind_some g5
        obtain ⟨t5_8, h5_7, g5⟩ := bind_some g5
        rcases if_or g5 with ⟨b5_8, g5⟩ | ⟨b5_8, g5⟩
        · obtain ⟨t5_10, h5_9, g5⟩ := bind_some g5
          obtain ⟨t5_12, h5_11, g5⟩ := bind_some g5
          obtain ⟨t5_14, h5_13, g5⟩ := bind_some g5
          exact WC.drw hn [] [] [(0, .resP (bo (t5_2))), (1, .val (.p (bo (true)))), (3, .resP (pP1 t5_4)), (4, .resP (pP1 t5_6)), (6, .resP (bo (t5_8))), (8, .val (.p (bo (true)))), (10, .resP (pP1 t5_10)), (11, .resP (pP1 t5_12)), (13, .resP (bo (t5_14)))] [2] [] ⟨[(2, .p (bo (t5_14)))], [], L0, []⟩ (And.intro ((riddlelaw12_begun_ok h5_1)) (And.intro (Bl b5_1) (And.intro ((reverse_Reverse_okP h5_3)) (And.intro ((reverse_Reverse_okP h5_5)) (And.intro ((riddleref10_Same_ok h5_7)) (And.intro (Bl b5_8) (And.intro ((reverse_Turn_okP h5_9)) (And.intro ((reverse_Turn_okP h5_11)) (And.intro ((riddleref10_Same_ok h5_13)) (trivial)))))))))) (by kernel_rfl) (by kernel_rfl) (by kernel_rfl) (by kernel_rfl) (hk t5_14 (Option.some.inj g5))
        · exact WC.drw hn [] [] [(0, .resP (bo (t5_2))), (1, .val (.p (bo (true)))), (3, .resP (pP1 t5_4)), (4, .resP (pP1 t5_6)), (6, .resP (bo (t5_8))), (8, .val (.p (bo (false))))] [2] [] ⟨[(2, .p (bo (false)))], [], L0, []⟩ (And.intro ((riddlelaw12_begun_ok h5_1)) (And.intro (Bl b5_1) (And.intro ((reverse_Reverse_okP h5_3)) (And.intro ((reverse_Reverse_okP h5_5)) (And.intro ((riddleref10_Same_ok h5_7)) (And.intro (Bl b5_8) (trivial))))))) (by kernel_rfl) (by kernel_rfl) (by kernel_rfl) (by kernel_rfl) (hk false (Option.some.inj g5))
      · exact WC.drw hn [] [] [(0, .resP (bo (t5_2))), (1, .val (.p (bo (false))))] [2] [] ⟨[(2, .p (bo (false)))], [], L0, []⟩ (And.intro ((riddlelaw12_begun_ok h5_1)) (And.intro (Bl b5_1) (trivial))) (by kernel_rfl) (by kernel_rfl) (by kernel_rfl) (by kernel_rfl) (hk false (Option.some.inj g5))
    refine WX.ret ?_
    exact WC.outP (by rw [← Option.some.inj h]; kernel_rfl)
def slices_Reverse_byte_byte_l0 (J2 : List Int → Option ((List Int))) : Nat → (List Int × Int × Int) → Option ((List Int))
  | 0, _ => none
  | k + 1, (x12_1_1, x12_1_2, x12_1_3) => (if (decide (x12_1_2 < x12_1_3)) = true then (at_ x12_1_1 x12_1_3).bind fun t23_2 => (at_ x12_1_1 x12_1_2).bind fun t23_4 => (at_ (x12_1_1.set x12_1_2.toNat t23_2) x12_1_3).bind fun t23_6 => slices_Reverse_byte_byte_l0 J2 k ((x12_1_1.set x12_1_2.toNat t23_2).set x12_1_3.toNat t23_4, (IntKind.i64.wrap (x12_1_2 + 1)), (IntKind.i64.wrap (x12_1_3 - 1))) else J2 x12_1_1)
def slices_Reverse_byte_byte (k : Nat) (a0 : (List Int)) : Option ((List Int)) :=
  jn (fun (v2 : List Int) => some v2) fun J2 => slices_Reverse_byte_byte_l0 J2 k (a0, 0, (IntKind.i64.wrap ((a0.length : Int) - 1)))
theorem slices_Reverse_byte_byte_ok {k : Nat} {a0 : (List Int)} {r : (List Int)} (h : slices_Reverse_byte_byte k a0 = some r) : AnsO Tryd.prog 24 [(1000, rowV 5 (eI .u8) a0)] [.own 1000] [(1000, rowV 5 (eI .u8) r)] (.tup []) := by
  refine W_fnO [1000] Tryd.func24 rfl (by kernel_rfl) (by kernel_rfl) (by kernel_rfl) (by kernel_rfl) ?_
  intro X hro hn
  unfold slices_Reverse_byte_byte at h
  refine WC.rg hn [] [0, 2, 3] [1000] ⟨[(0, .own 1000), (2, .p (i6 (0))), (3, .p (i6 (((IntKind.i64.wrap ((a0.length : Int) - 1))))))], [(1000, rowV 5 (eI .u8) a0)], L0, []⟩ trivial ?_
  obtain ⟨J2, eJ2, h⟩ := jn_some h
  try dsimp only at h
  refine WC.join (α := List Int) (fun v2 => ⟨[], [(1000, rowV 5 (eI .u8) v2)], L0, []⟩) (fun v2 => J2 v2 = some r) ?_ (fun hJ2 => ?_)
  · rintro y2_o1000 h
    rw [eJ2] at h
    try dsimp only at h
    exact WC.outOn (by rw [← Option.some.inj h]; kernel_rfl)
  · replace hJ2 := fun y2_o1000 => hJ2 y2_o1000
    refine WX.block ?_
    refine WC.loop (V := List Int × Int × Int) (slices_Reverse_byte_byte_l0 J2) r (fun v12 => ⟨[(0, .own 1000), (2, .p (i6 (v12.2.1))), (3, .p (i6 (v12.2.2)))], [(1000, rowV 5 (eI .u8) v12.1)], L0, []⟩) _ (a0, 0, (IntKind.i64.wrap ((a0.length : Int) - 1))) h (fun _ => rfl) [0, 2, 3] [1000] (by kernel_rfl) ?_
    clear h; rintro k ⟨x12_1_1, x12_1_2, x12_1_3⟩ h K12 hnext12 hexit12
    rw [slices_Reverse_byte_byte_l0] at h
    refine WX.seq ?_
    refine WC.rg hn [] [0, 2, 3, 9] [1000] ⟨[(0, .own 1000), (2, .p (i6 (x12_1_2))), (3, .p (i6 (x12_1_3))), (9, .p (bo (((decide (x12_1_2 < x12_1_3))))))], [(1000, rowV 5 (eI .u8) x12_1_1)], L0, []⟩ trivial ?_
    rcases if_or h with ⟨c22, h⟩ | ⟨c22, h⟩
    · refine WC.condT c22 (by kernel_rfl) ?_
      refine WX.skip ?_
      refine WX.seq ?_
      refine WX.block ?_
      obtain ⟨t23_2, h23_1, h⟩ := bind_some h
      obtain ⟨t23_4, h23_3, h⟩ := bind_some h
      obtain ⟨t23_6, h23_5, h⟩ := bind_some h
      refine WC.drw hn [(13, [2, 3]), (15, [])] [] [(6, .val (.ptr 1000 (x12_1_3.toNat * 1))), (7, .val (.p (.s (.int .u8 t23_2)))), (10, .val (.ptr 1000 (x12_1_2.toNat * 1))), (11, .val (.p (.s (.int .u8 t23_4)))), (12, .val (.ptr 1000 (x12_1_2.toNat * 1))), (13, .sto 1000 (rowV 5 (eI .u8) (x12_1_1.set x12_1_2.toNat t23_2))), (14, .val (.ptr 1000 (x12_1_3.toNat * 1))), (15, .sto 1000 (rowV 5 (eI .u8) ((x12_1_1.set x12_1_2.toNat t23_2).set x12_1_3.toNat t23_4)))] [0, 2, 3] [1000] ⟨[(0, .own 1000), (2, .p (i6 (x12_1_2))), (3, .p (i6 (x12_1_3)))], [(1000, rowV 5 (eI .u8) ((x12_1_1.set x12_1_2.toNat t23_2).set x12_1_3.toNat t23_4))], L0, []⟩ (And.intro (IxO 1000 1 h23_1) (And.intro (LdO0 Tryd.prog (eI .u8) 5 h23_1) (And.intro (IxO 1000 1 h23_3) (And.intro (LdO0 Tryd.prog (eI .u8) 5 h23_3) (And.intro (IxO 1000 1 h23_3) (And.intro (StO0 (eI .u8) 1000 5 1 1 [.s (.int .u8 t23_2)] t23_2 h23_3 rfl rfl (by decide)) (And.intro (And.intro (Eq.refl (some (.own 1000 : AV))) (And.intro (Eq.refl (some (.p (i6 (x12_1_3)) : AV))) (trivial))) (And.intro (IxO 1000 1 h23_5) (And.intro (StO0 (eI .u8) 1000 5 1 1 [.s (.int .u8 t23_4)] t23_4 h23_5 rfl rfl (by decide)) (trivial)))))))))) (by kernel_rfl) (by kernel_rfl) (by kernel_rfl) (by kernel_rfl) ?_
      refine WX.popBlk ?_
      refine WC.r1 hn [] [0, 2, 3] [1000] ⟨[(0, .own 1000), (2, .p (i6 (((IntKind.i64.wrap (x12_1_2 + 1)))))), (3, .p (i6 (((IntKind.i64.wrap (x12_1_3 - 1))))))], [(1000, rowV 5 (eI .u8) ((x12_1_1.set x12_1_2.toNat t23_2).set x12_1_3.toNat t23_4))], L0, []⟩ trivial ?_
      exact WC.next [0, 2, 3] [1000] (by kernel_rfl) (hnext12 ((x12_1_1.set x12_1_2.toNat t23_2).set x12_1_3.toNat t23_4, (IntKind.i64.wrap (x12_1_2 + 1)), (IntKind.i64.wrap (x12_1_3 - 1))) h)
    · refine WC.condF c22 (by kernel_rfl) ?_
      refine WX.exit ?_
      refine WX.popCodeExit ?_
      refine WC.exit_nil (hexit12 _ _ (by simp) ?_)
      refine WX.popBlkHit ?_
      exact WC.keep [] [1000] (by kernel_rfl) (hJ2 x12_1_1 h)
def riddlelaw12_ReverseTurned (k : Nat) (a0 : api_Nfa) (a1 : (List Int)) : Option (Bool) :=
  (riddlelaw12_few a0 a1).bind fun t2_2 => ((if (!t2_2) = true then some true else (riddleref10_Check k a0).bind fun t2_4 => some ((t2_4 != 0))) : Option (Bool)).bind fun v2 => (if v2 = true then some true else (slices_Clone_byte_byte a1).bind fun t5_2 => (slices_Reverse_byte_byte k t5_2).bind fun t6_2 => (reverse_Reverse k a0).bind fun t7_2 => (riddlelaw12_begun k).bind fun t8_2 => ((if t8_2 = true then (riddleref10_Check k t7_2).bind fun t8_4 => (if (t8_4 == 0) = true then (riddleref10_Takes k t7_2 t6_2).bind fun t8_6 => (riddleref10_Takes k a0 a1).bind fun t8_8 => (if (t8_6 == t8_8) = true then (reverse_Turn k a0).bind fun t8_10 => (riddleref10_Takes k t8_10 a1).bind fun t8_12 => (riddleref10_Takes k a0 a1).bind fun t8_14 => some ((t8_12 == t8_14)) else some false) else some false) else some false) : Option (Bool)).bind fun v8 => some v8)
theorem riddlelaw12_ReverseTurned_ok {k : Nat} {a0 : api_Nfa} {a1 : (List Int)} {r : Bool} (h : riddlelaw12_ReverseTurned k a0 a1 = some r) : Ans Tryd.prog 6 [pP1 a0, slV (eI .u8) a1] (bo (r)) := by
  refine W_fn Tryd.func6 rfl (by kernel_rfl) (by kernel_rfl) ?_
  intro X hro hn
  unfold riddlelaw12_ReverseTurned at h
  refine WC.rg hn [] [1, 2] [2] ⟨[(1, .p (slV (eI .u8) a1)), (2, .ptr 2 0)], [(2, .box 28 (vV1 a0))], L0, []⟩ trivial ?_
  refine WX.seq ?_
  refine WX.seq ?_
  obtain ⟨t2_2, h2_1, h⟩ := bind_some h
  obtain ⟨m2_1, g2, h⟩ := bind_some h
  refine WC.via (α := Bool) (fun v2 => ⟨[(1, .p (slV (eI .u8) a1)), (2, .ptr 2 0), (15, .p (bo (v2)))], [(2, .box 28 (vV1 a0))], L0, []⟩) m2_1 (fun hk => ?_) ?_
  · rcases if_or g2 with ⟨b2_4, g2⟩ | ⟨b2_4, g2⟩
    · exact WC.reg hn [(2, .resP (bo (t2_2))), (4, .val (.p (bo (true))))] [1, 2, 15] [2] ⟨[(1, .p (slV (eI .u8) a1)), (2, .ptr 2 0), (15, .p (bo (true)))], [(2, .box 28 (vV1 a0))], L0, []⟩ (And.intro ((riddlelaw12_few_ok h2_1)) (And.intro (Bl b2_4) (trivial))) (by kernel_rfl) (hk true (Option.some.inj g2))
    · obtain ⟨t2_4, h2_3, g2⟩ := bind_some g2
      exact WC.reg hn [(2, .resP (bo (t2_2))), (4, .val (.p (bo (false)))), (6, .resP (i6 (t2_4)))] [1, 2, 15] [2] ⟨[(1, .p (slV (eI .u8) a1)), (2, .ptr 2 0), (15, .p (bo (((t2_4 != 0)))))], [(2, .box 28 (vV1 a0))], L0, []⟩ (And.intro ((riddlelaw12_few_ok h2_1)) (And.intro (Bl b2_4) (And.intro ((riddleref10_Check_ok h2_3)) (trivial)))) (by kernel_rfl) (hk ((t2_4 != 0)) (Option.some.inj g2))
  rcases if_or h with ⟨c3, h⟩ | ⟨c3, h⟩
  · refine WC.condT c3 (by kernel_rfl) ?_
    refine WC.rg hn [] [4] [] ⟨[(4, .p (bo (true)))], [], L0, []⟩ trivial ?_
    refine WX.ret ?_
    exact WC.outP (by rw [← Option.some.inj h]; kernel_rfl)
  · refine WC.condF c3 (by kernel_rfl) ?_
    refine WX.skip ?_
    refine WX.seq ?_
    obtain ⟨t5_2, h5_1, h⟩ := bind_some h
    refine WC.r1 hn [(1, .co [] [] [] [(17, rowV 5 (eI .u8) t5_2)] (.own 17))] [1, 2, 5] [2, 17] ⟨[(1, .p (slV (eI .u8) a1)), (2, .ptr 2 0), (5, .own 17)], [(2, .box 28 (vV1 a0)), (17, rowV 5 (eI .u8) t5_2)], L0, []⟩ (And.intro (And.intro ((slices_Clone_byte_byte_ok h5_1).ren 7 17 (by kernel_rfl)) (trivial)) (trivial)) ?_
    refine WX.seq ?_
    obtain ⟨t6_2, h6_1, h⟩ := bind_some h
    refine WC.r1 hn [(1, .co [] [17] [] [(17, rowV 5 (eI .u8) t6_2)] (.tup []))] [1, 2, 5] [2, 17] ⟨[(1, .p (slV (eI .u8) a1)), (2, .ptr 2 0), (5, .own 17)], [(2, .box 28 (vV1 a0)), (17, rowV 5 (eI .u8) t6_2)], L0, []⟩ (And.intro (And.intro ((slices_Reverse_byte_byte_ok h6_1).ren 1000 17 (by kernel_rfl)) (trivial)) (trivial)) ?_
    refine WX.seq ?_
    obtain ⟨t7_2, h7_1, h⟩ := bind_some h
    refine WC.r1 hn [(1, .co [] [] [] [(21, rowV 25 e_api_Bits t7_2.Follow)] (.agg [.p (sC t7_2.Classes), .p (i6 (t7_2.First.N)), .p (sW t7_2.First.Words), .p (i6 (t7_2.Last.N)), .p (sW t7_2.Last.Words), .own 21, .p (bo (t7_2.Null))]))] [1, 2, 5, 6] [2, 6, 17, 21] ⟨[(1, .p (slV (eI .u8) a1)), (2, .ptr 2 0), (5, .own 17), (6, .ptr 6 0)], [(2, .box 28 (vV1 a0)), (6, .box 28 [.p (sC t7_2.Classes), .p (i6 (t7_2.First.N)), .p (sW t7_2.First.Words), .p (i6 (t7_2.Last.N)), .p (sW t7_2.Last.Words), .own 21, .p (bo (t7_2.Null))]), (17, rowV 5 (eI .u8) t6_2), (21, rowV 25 e_api_Bits t7_2.Follow)], L0, []⟩ (And.intro (And.intro ((reverse_Reverse_ok h7_1).ren 29 21 (by kernel_rfl)) (trivial)) (trivial)) ?_
    refine WX.seq ?_
    obtain ⟨t8_2, h8_1, h⟩ := bind_some h
    obtain ⟨m8_1, g8, h⟩ := bind_some h
    refine WC.via (α := Bool) (fun v8 => ⟨[(4, .p (bo (v8)))], [], L0, []⟩) m8_1 (fun hk => ?_) ?_
    · rcases if_or g8 with ⟨b8_1, g8⟩ | ⟨b8_1, g8⟩
      · obtain ⟨t8_4, h8_3, g8⟩ := bind_some g8
        rcases if_or g8 with ⟨b8_6, g8⟩ | ⟨b8_6, g8⟩
        · obtain ⟨t8_6, h8_5, g8⟩ := bind_some g8
          obtain ⟨t8_8, h8_7, g8⟩ := bind_some g8
          rcases if_or g8 with ⟨b8_15, g8⟩ | ⟨b8_15, g8⟩
          · obtain ⟨t8_10, h8_9, g8⟩ := bind_some g8
            obtain ⟨t8_12, h8_11, g8⟩ := bind_some g8
            obtain ⟨t8_14, h8_13, g8⟩ := bind_some g8
            exact WC.drw hn [] [] [(0, .resP (bo (t8_2))), (1, .val (.p (bo (true)))), (3, .res (i6 (t8_4))), (6, .val (.p (bo (true)))), (9, .res (bo (t8_6))), (12, .resP (bo (t8_8))), (15, .val (.p (bo (true)))), (17, .resP (pP1 t8_10)), (19, .resP (bo (t8_12))), (22, .resP (bo (t8_14)))] [4] [] ⟨[(4, .p (bo (((t8_12 == t8_14)))))], [], L0, []⟩ (And.intro ((riddlelaw12_begun_ok h8_1)) (And.intro (Bl b8_1) (And.intro (And.intro (riddleref10_Check_ok h8_3) (rfl : (i6 (t8_4) : PV).flat = true)) (And.intro (Bl b8_6) (And.intro (And.intro (riddleref10_Takes_ok h8_5) (rfl : (bo (t8_6) : PV).flat = true)) (And.intro ((riddleref10_Takes_ok h8_7)) (And.intro (Bl b8_15) (And.intro ((reverse_Turn_okP h8_9)) (And.intro ((riddleref10_Takes_ok h8_11)) (And.intro ((riddleref10_Takes_ok h8_13)) (trivial))))))))))) (by kernel_rfl) (by kernel_rfl) (by kernel_rfl) (by kernel_rfl) (hk ((t8_12 == t8_14)) (Option.some.inj g8))
          · exact WC.drw hn [] [] [(0, .resP (bo (t8_2))), (1, .val (.p (bo (true)))), (3, .res (i6 (t8_4))), (6, .val (.p (bo (true)))), (9, .res (bo (t8_6))), (12, .resP (bo (t8_8))), (15, .val (.p (bo (false))))] [4] [] ⟨[(4, .p (bo (false)))], [], L0, []⟩ (And.intro ((riddlelaw12_begun_ok h8_1)) (And.intro (Bl b8_1) (And.intro (And.intro (riddleref10_Check_ok h8_3) (rfl : (i6 (t8_4) : PV).flat = true)) (And.intro (Bl b8_6) (And.intro (And.intro (riddleref10_Takes_ok h8_5) (rfl : (bo (t8_6) : PV).flat = true)) (And.intro ((riddleref10_Takes_ok h8_7)) (And.intro (Bl b8_15) (trivial)))))))) (by kernel_rfl) (by kernel_rfl) (by kernel_rfl) (by kernel_rfl) (hk false (Option.some.inj g8))
        · exact WC.drw hn [] [] [(0, .resP (bo (t8_2))), (1, .val (.p (bo (true)))), (3, .res (i6 (t8_4))), (6, .val (.p (bo (false))))] [4] [] ⟨[(4, .p (bo (false)))], [], L0, []⟩ (And.intro ((riddlelaw12_begun_ok h8_1)) (And.intro (Bl b8_1) (And.intro (And.intro (riddleref10_Check_ok h8_3) (rfl : (i6 (t8_4) : PV).flat = true)) (And.intro (Bl b8_6) (trivial))))) (by kernel_rfl) (by kernel_rfl) (by kernel_rfl) (by kernel_rfl) (hk false (Option.some.inj g8))
      · exact WC.drw hn [] [] [(0, .resP (bo (t8_2))), (1, .val (.p (bo (false))))] [4] [] ⟨[(4, .p (bo (false)))], [], L0, []⟩ (And.intro ((riddlelaw12_begun_ok h8_1)) (And.intro (Bl b8_1) (trivial))) (by kernel_rfl) (by kernel_rfl) (by kernel_rfl) (by kernel_rfl) (hk false (Option.some.inj g8))
    refine WX.ret ?_
    exact WC.outP (by rw [← Option.some.inj h]; kernel_rfl)
def riddleref12_none (k : Nat) (a0 : Int) : Option (api_Bits) :=
  (riddleref01_New k a0 ([])).bind fun t2_2 => some t2_2.1
theorem riddleref12_none_ok {k : Nat} {a0 : Int} {r : api_Bits} (h : riddleref12_none k a0 = some r) : AnsO Tryd.prog 66 [] [.p (i6 (a0))] [(7, rW 58 r.Words)] (.agg [.p (i6 (r.N)), .own 7]) := by
  refine W_fnO [7] Tryd.func66 rfl (by kernel_rfl) (by kernel_rfl) (by kernel_rfl) (by kernel_rfl) ?_
  intro X hro hn
  unfold riddleref12_none at h
  refine WC.rg hn [] [0, 2] [2] ⟨[(0, .p (i6 (a0))), (2, .ptr 2 0)], [(2, .box 25 [.p (i6 (0)), .p (.sl .nil 0 [])])], L0, []⟩ trivial ?_
  refine WX.seq ?_
  obtain ⟨t2_2, h2_1, h⟩ := bind_some h
  refine WC.r1 hn [(1, .co [] [] [] [(7, rW 58 t2_2.1.Words)] (.tup [.agg [.p (i6 (t2_2.1.N)), .own 7], .p (i6 (t2_2.2))]))] [2, 3] [2, 3, 7] ⟨[(2, .ptr 2 0), (3, .ptr 3 0)], [(2, .box 25 [.p (i6 (0)), .p (.sl .nil 0 [])]), (3, .box 25 [.p (i6 (t2_2.1.N)), .own 7]), (7, rW 58 t2_2.1.Words)], L0, []⟩ (And.intro (And.intro ((riddleref01_New_ok h2_1).ren 16 7 (by kernel_rfl)) (trivial)) (trivial)) ?_
  refine WC.rg hn [] [2] [2, 7] ⟨[(2, .ptr 2 0)], [(2, .box 25 [.p (i6 (t2_2.1.N)), .own 7]), (7, rW 58 t2_2.1.Words)], L0, []⟩ trivial ?_
  refine WX.ret ?_
  exact WC.outO (by rw [← Option.some.inj h]; kernel_rfl)
theorem riddleref12_none_okP {k : Nat} {a0 : Int} {r : api_Bits} (h : riddleref12_none k a0 = some r) : Ans Tryd.prog 66 [i6 (a0)] (pP4 r) := AnsO.ans (args := [i6 (a0)]) (riddleref12_none_ok h) (by kernel_rfl)
def riddleref12_Reverse_l1 (t2_2 : api_Nfa) (x55_1_1 : Int) (J106 : (Int × List Int) → Option (api_Nfa)) : Nat → (Int × Int × List Int) → Option (api_Nfa)
  | 0, _ => none
  | k + 1, (x125_1_1, x125_1_2, x125_1_3) => (if (decide (x125_1_1 < (t2_2.Classes.length : Int))) = true then (at_ t2_2.Follow x125_1_1).bind fun t142_2 => (riddleref01_Has k t142_2 x55_1_1).bind fun t142_4 => (if t142_4 = true then (riddleref01_With k ((api_Bits.mk x125_1_2 x125_1_3)) x125_1_1).bind fun t144_2 => riddleref12_Reverse_l1 t2_2 x55_1_1 J106 k ((IntKind.i64.wrap (x125_1_1 + 1)), t144_2.N, t144_2.Words) else riddleref12_Reverse_l1 t2_2 x55_1_1 J106 k ((IntKind.i64.wrap (x125_1_1 + 1)), x125_1_2, x125_1_3)) else J106 (x125_1_2, x125_1_3))
def riddleref12_Reverse_l0 (t2_2 : api_Nfa) (J6 : List api_Bits → Option (api_Nfa)) : Nat → (Int × List api_Bits) → Option (api_Nfa)
  | 0, _ => none
  | k + 1, (x55_1_1, x55_1_2) => (if (decide (x55_1_1 < (t2_2.Classes.length : Int))) = true then (riddleref12_none k ((t2_2.Classes.length : Int))).bind fun t104_2 => jn (fun (v106 : Int × List Int) => (if okApp 32 (x55_1_2.length + ([(api_Bits.mk v106.1 v106.2)]).length) then riddleref12_Reverse_l0 t2_2 J6 k ((IntKind.i64.wrap (x55_1_1 + 1)), x55_1_2 ++ ([(api_Bits.mk v106.1 v106.2)])) else none)) fun J106 => riddleref12_Reverse_l1 t2_2 x55_1_1 J106 k (0, t104_2.N, t104_2.Words) else J6 x55_1_2)
def riddleref12_Reverse (k : Nat) (a0 : api_Nfa) : Option (api_Nfa) :=
  (riddleref12_may k a0).bind fun t2_2 => (if okApp 32 (([] : List (Arr4 Int)).length + t2_2.Classes.length) then jn (fun (v6 : List api_Bits) => some ((api_Nfa.mk (([] : List (Arr4 Int)) ++ t2_2.Classes) t2_2.Last t2_2.First v6 t2_2.Null))) fun J6 => riddleref12_Reverse_l0 t2_2 J6 k (0, ([] : List api_Bits)) else none)
theorem riddleref12_Reverse_ok {k : Nat} {a0 : api_Nfa} {r : api_Nfa} (h : riddleref12_Reverse k a0 = some r) : AnsO Tryd.prog 29 [] [.p (pP1 a0)] [(15, rowV 60 (e4 (eI .u64)) r.Classes), (49, rowV 25 e_api_Bits r.Follow)] (.agg [.own 15, .p (i6 (r.First.N)), .p (sW r.First.Words), .p (i6 (r.Last.N)), .p (sW r.Last.Words), .own 49, .p (bo (r.Null))]) := by
  refine W_fnO [15, 49] Tryd.func29 rfl (by kernel_rfl) (by kernel_rfl) (by kernel_rfl) (by kernel_rfl) ?_
  intro X hro hn
  unfold riddleref12_Reverse at h
  refine WC.rg hn [] [1, 2] [1, 2] ⟨[(1, .ptr 1 0), (2, .ptr 2 0)], [(1, .box 28 (vV1 a0)), (2, .box 28 [.p (.sl .nil 0 []), .p (i6 (0)), .p (.sl .nil 0 []), .p (i6 (0)), .p (.sl .nil 0 []), .p (.sl .nil 0 []), .p (bo (false))])], L0, []⟩ trivial ?_
  refine WX.seq ?_
  obtain ⟨t2_2, h2_1, h⟩ := bind_some h
  refine WC.r1 hn [(1, .resP (pP1 t2_2))] [1, 2] [1, 2] ⟨[(1, .ptr 1 0), (2, .ptr 2 0)], [(1, .box 28 (vV1 t2_2)), (2, .box 28 [.p (.sl .nil 0 []), .p (i6 (0)), .p (.sl .nil 0 []), .p (i6 (0)), .p (.sl .nil 0 []), .p (.sl .nil 0 []), .p (bo (false))])], L0, []⟩ (And.intro ((riddleref12_may_ok h2_1)) (trivial)) ?_
  refine WC.rg hn [] [1, 2, 3] [1, 2] ⟨[(1, .ptr 1 0), (2, .ptr 2 0), (3, .p (i6 (((t2_2.Classes.length : Int)))))], [(1, .box 28 (vV1 t2_2)), (2, .box 28 [.p (.sl .nil 0 []), .p (i6 (0)), .p (.sl .nil 0 []), .p (i6 (0)), .p (.sl .nil 0 []), .p (.sl .nil 0 []), .p (bo (false))])], L0, []⟩ trivial ?_
  refine WX.seq ?_
  obtain ⟨c4_1, h⟩ := if_some h
  have q4_2 := ApS (e4 (eI .u64)) none 60 32 ([] : List (Arr4 Int)) t2_2.Classes c4_1
  refine WC.exp hn (by kernel_rfl) [(2, .app none (rowV 60 (e4 (eI .u64)) (([] : List (Arr4 Int)) ++ t2_2.Classes)))] [1, 2, 3, 4] [1, 2, 4, 15] ⟨[(1, .ptr 1 0), (2, .ptr 2 0), (3, .p (i6 (((t2_2.Classes.length : Int))))), (4, .ptr 4 0)], [(1, .box 28 (vV1 t2_2)), (2, .box 28 [.p (.sl .nil 0 []), .p (i6 (0)), .p (.sl .nil 0 []), .p (i6 (0)), .p (.sl .nil 0 []), .p (.sl .nil 0 []), .p (bo (false))]), (4, .box 28 [.own 15, .p (i6 (t2_2.Last.N)), .p (sW t2_2.Last.Words), .p (i6 (t2_2.First.N)), .p (sW t2_2.First.Words), .p (.sl .nil 0 []), .p (bo (t2_2.Null))]), (15, rowV 60 (e4 (eI .u64)) (([] : List (Arr4 Int)) ++ t2_2.Classes))], L0, []⟩ [0, 1, 3, 7, 8, 9, 11, 15, 24, 25, 27, 31, 32, 33, 35, 39, 40, 41, 43, 47, 56, 57, 59, 63, 96, 97, 99, 103, 104, 105, 107, 111, 120, 121, 123, 127, 128, 129, 131, 135, 136, 137, 139, 143, 152, 153, 155, 159, 160, 161, 163, 167, 168, 169, 171, 175, 184, 185, 187, 191, 224, 225, 227, 231, 232, 233, 235, 239, 248, 249, 251, 255, 384, 385, 387, 391, 392, 393, 395, 399, 408, 409, 411, 415, 416, 417, 419, 423, 424, 425, 427, 431, 440, 441, 443, 447, 480, 481, 483, 487, 488, 489, 491, 495, 504, 505, 507, 511, 1023, 1024, 1025, 1027, 1031, 1032, 1033, 1035, 1039, 1048, 1049, 1051, 1055, 1056, 1057, 1059, 1063, 1064, 1065, 1067, 1071, 1080, 1081, 1083, 1087, 1120, 1121, 1123, 1127, 1128, 1129, 1131, 1135, 1144, 1145, 1147, 1151, 1152, 1153, 1155, 1159, 1160, 1161, 1163, 1167, 1176, 1177, 1179, 1183, 1184, 1185, 1187, 1191, 1192, 1193, 1195, 1199, 1208, 1209, 1211, 1215, 1248, 1249, 1251, 1255, 1256, 1257, 1259, 1263, 1272, 1273, 1275, 1279, 1408, 1409, 1411, 1415, 1416, 1417, 1419, 1423, 1432, 1433, 1435, 1439, 1440, 1441, 1443, 1447, 1448, 1449, 1451, 1455, 1464, 1465, 1467, 1471, 1504, 1505, 1507, 1511, 1512, 1513, 1515, 1519, 1528, 1529, 1531, 1535, 2047, 4095] 4095 (by kernel_rfl) (by kernel_rfl) (by kernel_rfl) (And.intro q4_2 (And.intro q4_2 (And.intro q4_2 (And.intro q4_2 (And.intro q4_2 (And.intro q4_2 (And.intro q4_2 (And.intro q4_2 (And.intro q4_2 (And.intro q4_2 (And.intro q4_2 (And.intro q4_2 (And.intro q4_2 (And.intro q4_2 (And.intro q4_2 (And.intro q4_2 (And.intro q4_2 (And.intro q4_2 (And.intro q4_2 (And.intro q4_2 (And.intro q4_2 (And.intro q4_2 (And.intro q4_2 (And.intro q4_2 (And.intro q4_2 (And.intro q4_2 (And.intro q4_2 (And.intro q4_2 (And.intro q4_2 (And.intro q4_2 (And.intro q4_2 (And.intro q4_2 (And.intro q4_2 (And.intro q4_2 (And.intro q4_2 (And.intro q4_2 (And.intro q4_2 (And.intro q4_2 (And.intro q4_2 (And.intro q4_2 (And.intro q4_2 (And.intro q4_2 (And.intro q4_2 (And.intro q4_2 (And.intro q4_2 (And.intro q4_2 (And.intro q4_2 (And.intro q4_2 (And.intro q4_2 (And.intro q4_2 (And.intro q4_2 (And.intro q4_2 (And.intro q4_2 (And.intro q4_2 (trivial))))))))))))))))))))))))))))))))))))))))))))))))))))))) (by kernel_rfl) (by kernel_rfl) ?_
  refine WX.seq ?_
  refine WC.rg hn [] [1, 2, 3, 4, 5] [1, 2, 4, 15] ⟨[(1, .ptr 1 0), (2, .ptr 2 0), (3, .p (i6 (((t2_2.Classes.length : Int))))), (4, .ptr 4 0), (5, .p (i6 (0)))], [(1, .box 28 (vV1 t2_2)), (2, .box 28 [.p (.sl .nil 0 []), .p (i6 (0)), .p (.sl .nil 0 []), .p (i6 (0)), .p (.sl .nil 0 []), .p (.sl .nil 0 []), .p (bo (false))]), (4, .box 28 [.own 15, .p (i6 (t2_2.Last.N)), .p (sW t2_2.Last.Words), .p (i6 (t2_2.First.N)), .p (sW t2_2.First.Words), .p (.sl .nil 0 []), .p (bo (t2_2.Null))]), (15, rowV 60 (e4 (eI .u64)) (([] : List (Arr4 Int)) ++ t2_2.Classes))], L0, []⟩ trivial ?_
  obtain ⟨J6, eJ6, h⟩ := jn_some h
  try dsimp only at h
  refine WC.join (α := List api_Bits) (fun v6 => ⟨[(2, .ptr 2 0), (4, .ptr 4 0)], [(2, .box 28 [.p (.sl .nil 0 []), .p (i6 (0)), .p (.sl .nil 0 []), .p (i6 (0)), .p (.sl .nil 0 []), .p (.sl .nil 0 []), .p (bo (false))]), (4, .box 28 [.own 15, .p (i6 (t2_2.Last.N)), .p (sW t2_2.Last.Words), .p (i6 (t2_2.First.N)), .p (sW t2_2.First.Words), .own 49, .p (bo (t2_2.Null))]), (15, rowV 60 (e4 (eI .u64)) (([] : List (Arr4 Int)) ++ t2_2.Classes)), (49, rowV 25 e_api_Bits v6)], L0, []⟩) (fun v6 => J6 v6 = some r) ?_ (fun hJ6 => ?_)
  · rintro y6_1 h
    rw [eJ6] at h
    try dsimp only at h
    refine WC.rg hn [] [2] [2, 15, 49] ⟨[(2, .ptr 2 0)], [(2, .box 28 [.own 15, .p (i6 (t2_2.Last.N)), .p (sW t2_2.Last.Words), .p (i6 (t2_2.First.N)), .p (sW t2_2.First.Words), .own 49, .p (bo (t2_2.Null))]), (15, rowV 60 (e4 (eI .u64)) (([] : List (Arr4 Int)) ++ t2_2.Classes)), (49, rowV 25 e_api_Bits y6_1)], L0, []⟩ trivial ?_
    refine WX.ret ?_
    exact WC.outO (by rw [← Option.some.inj h]; kernel_rfl)
  · replace hJ6 := fun y6_1 => hJ6 y6_1
    refine WX.block ?_
    refine WC.nil hn [] (some (4, 5)) 49 25 2 (by kernel_rfl) [1, 2, 3, 4, 5] [1, 2, 4, 15, 49] (st' := ⟨[(1, .ptr 1 0), (2, .ptr 2 0), (3, .p (i6 (((t2_2.Classes.length : Int))))), (4, .ptr 4 0), (5, .p (i6 (0)))], [(1, .box 28 (vV1 t2_2)), (2, .box 28 [.p (.sl .nil 0 []), .p (i6 (0)), .p (.sl .nil 0 []), .p (i6 (0)), .p (.sl .nil 0 []), .p (.sl .nil 0 []), .p (bo (false))]), (4, .box 28 [.own 15, .p (i6 (t2_2.Last.N)), .p (sW t2_2.Last.Words), .p (i6 (t2_2.First.N)), .p (sW t2_2.First.Words), .own 49, .p (bo (t2_2.Null))]), (15, rowV 60 (e4 (eI .u64)) (([] : List (Arr4 Int)) ++ t2_2.Classes)), (49, rowV 25 e_api_Bits (([] : List api_Bits)))], L0, []⟩) (by kernel_rfl) ?_
    refine WC.loop (V := Int × List api_Bits) (riddleref12_Reverse_l0 t2_2 J6) r (fun v55 => ⟨[(1, .ptr 1 0), (2, .ptr 2 0), (3, .p (i6 (((t2_2.Classes.length : Int))))), (4, .ptr 4 0), (5, .p (i6 (v55.1)))], [(1, .box 28 (vV1 t2_2)), (2, .box 28 [.p (.sl .nil 0 []), .p (i6 (0)), .p (.sl .nil 0 []), .p (i6 (0)), .p (.sl .nil 0 []), .p (.sl .nil 0 []), .p (bo (false))]), (4, .box 28 [.own 15, .p (i6 (t2_2.Last.N)), .p (sW t2_2.Last.Words), .p (i6 (t2_2.First.N)), .p (sW t2_2.First.Words), .own 49, .p (bo (t2_2.Null))]), (15, rowV 60 (e4 (eI .u64)) (([] : List (Arr4 Int)) ++ t2_2.Classes)), (49, rowV 25 e_api_Bits v55.2)], L0, []⟩) _ (0, ([] : List api_Bits)) h (fun _ => rfl) [1, 2, 3, 4, 5] [1, 2, 4, 15, 49] (by kernel_rfl) ?_
    clear h; rintro k ⟨x55_1_1, x55_1_2⟩ h K55 hnext55 hexit55
    rw [riddleref12_Reverse_l0] at h
    refine WX.seq ?_
    refine WC.rg hn [] [1, 2, 3, 4, 5, 25] [1, 2, 4, 15, 49] ⟨[(1, .ptr 1 0), (2, .ptr 2 0), (3, .p (i6 (((t2_2.Classes.length : Int))))), (4, .ptr 4 0), (5, .p (i6 (x55_1_1))), (25, .p (bo (((decide (x55_1_1 < (t2_2.Classes.length : Int)))))))], [(1, .box 28 (vV1 t2_2)), (2, .box 28 [.p (.sl .nil 0 []), .p (i6 (0)), .p (.sl .nil 0 []), .p (i6 (0)), .p (.sl .nil 0 []), .p (.sl .nil 0 []), .p (bo (false))]), (4, .box 28 [.own 15, .p (i6 (t2_2.Last.N)), .p (sW t2_2.Last.Words), .p (i6 (t2_2.First.N)), .p (sW t2_2.First.Words), .own 49, .p (bo (t2_2.Null))]), (15, rowV 60 (e4 (eI .u64)) (([] : List (Arr4 Int)) ++ t2_2.Classes)), (49, rowV 25 e_api_Bits x55_1_2)], L0, []⟩ trivial ?_
    rcases if_or h with ⟨c103, h⟩ | ⟨c103, h⟩
    · refine WC.condT c103 (by kernel_rfl) ?_
      refine WX.skip ?_
      refine WX.seq ?_
      refine WX.block ?_
      refine WX.seq ?_
      obtain ⟨t104_2, h104_1, h⟩ := bind_some h
      refine WC.r1 hn [(1, .co [] [] [] [(29, rW 58 t104_2.Words)] (.agg [.p (i6 (t104_2.N)), .own 29]))] [1, 2, 3, 4, 5, 6] [1, 2, 4, 6, 15, 29, 49] ⟨[(1, .ptr 1 0), (2, .ptr 2 0), (3, .p (i6 (((t2_2.Classes.length : Int))))), (4, .ptr 4 0), (5, .p (i6 (x55_1_1))), (6, .ptr 6 0)], [(1, .box 28 (vV1 t2_2)), (2, .box 28 [.p (.sl .nil 0 []), .p (i6 (0)), .p (.sl .nil 0 []), .p (i6 (0)), .p (.sl .nil 0 []), .p (.sl .nil 0 []), .p (bo (false))]), (4, .box 28 [.own 15, .p (i6 (t2_2.Last.N)), .p (sW t2_2.Last.Words), .p (i6 (t2_2.First.N)), .p (sW t2_2.First.Words), .own 49, .p (bo (t2_2.Null))]), (6, .box 25 [.p (i6 (t104_2.N)), .own 29]), (15, rowV 60 (e4 (eI .u64)) (([] : List (Arr4 Int)) ++ t2_2.Classes)), (29, rW 58 t104_2.Words), (49, rowV 25 e_api_Bits x55_1_2)], L0, []⟩ (And.intro (And.intro ((riddleref12_none_ok h104_1).ren 7 29 (by kernel_rfl)) (trivial)) (trivial)) ?_
      refine WX.seq ?_
      refine WC.rg hn [] [1, 2, 3, 4, 5, 6, 7] [1, 2, 4, 6, 15, 29, 49] ⟨[(1, .ptr 1 0), (2, .ptr 2 0), (3, .p (i6 (((t2_2.Classes.length : Int))))), (4, .ptr 4 0), (5, .p (i6 (x55_1_1))), (6, .ptr 6 0), (7, .p (i6 (0)))], [(1, .box 28 (vV1 t2_2)), (2, .box 28 [.p (.sl .nil 0 []), .p (i6 (0)), .p (.sl .nil 0 []), .p (i6 (0)), .p (.sl .nil 0 []), .p (.sl .nil 0 []), .p (bo (false))]), (4, .box 28 [.own 15, .p (i6 (t2_2.Last.N)), .p (sW t2_2.Last.Words), .p (i6 (t2_2.First.N)), .p (sW t2_2.First.Words), .own 49, .p (bo (t2_2.Null))]), (6, .box 25 [.p (i6 (t104_2.N)), .own 29]), (15, rowV 60 (e4 (eI .u64)) (([] : List (Arr4 Int)) ++ t2_2.Classes)), (29, rW 58 t104_2.Words), (49, rowV 25 e_api_Bits x55_1_2)], L0, []⟩ trivial ?_
      obtain ⟨J106, eJ106, h⟩ := jn_some h
      try dsimp only at h
      refine WC.join (α := Int × List Int) (fun v106 => ⟨[(1, .ptr 1 0), (2, .ptr 2 0), (3, .p (i6 (((t2_2.Classes.length : Int))))), (4, .ptr 4 0), (5, .p (i6 (x55_1_1))), (6, .ptr 6 0)], [(1, .box 28 (vV1 t2_2)), (2, .box 28 [.p (.sl .nil 0 []), .p (i6 (0)), .p (.sl .nil 0 []), .p (i6 (0)), .p (.sl .nil 0 []), .p (.sl .nil 0 []), .p (bo (false))]), (4, .box 28 [.own 15, .p (i6 (t2_2.Last.N)), .p (sW t2_2.Last.Words), .p (i6 (t2_2.First.N)), .p (sW t2_2.First.Words), .own 49, .p (bo (t2_2.Null))]), (6, .box 25 [.p (i6 (v106.1)), .own 29]), (15, rowV 60 (e4 (eI .u64)) (([] : List (Arr4 Int)) ++ t2_2.Classes)), (29, rW 58 v106.2), (49, rowV 25 e_api_Bits x55_1_2)], L0, []⟩) (fun v106 => J106 v106 = some r) ?_ (fun hJ106 => ?_)
      · rintro ⟨y106_1, y106_2⟩ h
        rw [eJ106] at h
        try dsimp only at h
        refine WC.frz 29 (st' := ⟨[(1, .ptr 1 0), (2, .ptr 2 0), (3, .p (i6 (((t2_2.Classes.length : Int))))), (4, .ptr 4 0), (5, .p (i6 (x55_1_1))), (6, .ptr 6 0)], [(1, .box 28 (vV1 t2_2)), (2, .box 28 [.p (.sl .nil 0 []), .p (i6 (0)), .p (.sl .nil 0 []), .p (i6 (0)), .p (.sl .nil 0 []), .p (.sl .nil 0 []), .p (bo (false))]), (4, .box 28 [.own 15, .p (i6 (t2_2.Last.N)), .p (sW t2_2.Last.Words), .p (i6 (t2_2.First.N)), .p (sW t2_2.First.Words), .own 49, .p (bo (t2_2.Null))]), (6, .box 25 [.p (i6 (y106_1)), .p (sW y106_2)]), (15, rowV 60 (e4 (eI .u64)) (([] : List (Arr4 Int)) ++ t2_2.Classes)), (49, rowV 25 e_api_Bits x55_1_2)], L0, []⟩) (by kernel_rfl) ?_
        obtain ⟨c123_1, h⟩ := if_some h
        refine WC.r1 hn [(4, .app (some 49) (rowV 25 e_api_Bits (x55_1_2 ++ ([(api_Bits.mk y106_1 y106_2)]))))] [1, 2, 3, 4, 5] [1, 2, 4, 15, 49] ⟨[(1, .ptr 1 0), (2, .ptr 2 0), (3, .p (i6 (((t2_2.Classes.length : Int))))), (4, .ptr 4 0), (5, .p (i6 (x55_1_1)))], [(1, .box 28 (vV1 t2_2)), (2, .box 28 [.p (.sl .nil 0 []), .p (i6 (0)), .p (.sl .nil 0 []), .p (i6 (0)), .p (.sl .nil 0 []), .p (.sl .nil 0 []), .p (bo (false))]), (4, .box 28 [.own 15, .p (i6 (t2_2.Last.N)), .p (sW t2_2.Last.Words), .p (i6 (t2_2.First.N)), .p (sW t2_2.First.Words), .own 49, .p (bo (t2_2.Null))]), (15, rowV 60 (e4 (eI .u64)) (([] : List (Arr4 Int)) ++ t2_2.Classes)), (49, rowV 25 e_api_Bits (x55_1_2 ++ ([(api_Bits.mk y106_1 y106_2)])))], L0, []⟩ (And.intro (Ap e_api_Bits (some 49) 25 32 2 x55_1_2 ([(api_Bits.mk y106_1 y106_2)]) c123_1) (trivial)) ?_
        refine WX.popBlk ?_
        refine WC.r1 hn [] [1, 2, 3, 4, 5] [1, 2, 4, 15, 49] ⟨[(1, .ptr 1 0), (2, .ptr 2 0), (3, .p (i6 (((t2_2.Classes.length : Int))))), (4, .ptr 4 0), (5, .p (i6 (((IntKind.i64.wrap (x55_1_1 + 1))))))], [(1, .box 28 (vV1 t2_2)), (2, .box 28 [.p (.sl .nil 0 []), .p (i6 (0)), .p (.sl .nil 0 []), .p (i6 (0)), .p (.sl .nil 0 []), .p (.sl .nil 0 []), .p (bo (false))]), (4, .box 28 [.own 15, .p (i6 (t2_2.Last.N)), .p (sW t2_2.Last.Words), .p (i6 (t2_2.First.N)), .p (sW t2_2.First.Words), .own 49, .p (bo (t2_2.Null))]), (15, rowV 60 (e4 (eI .u64)) (([] : List (Arr4 Int)) ++ t2_2.Classes)), (49, rowV 25 e_api_Bits (x55_1_2 ++ ([(api_Bits.mk y106_1 y106_2)])))], L0, []⟩ trivial ?_
        exact WC.next [1, 2, 3, 4, 5] [1, 2, 4, 15, 49] (by kernel_rfl) (hnext55 ((IntKind.i64.wrap (x55_1_1 + 1)), x55_1_2 ++ ([(api_Bits.mk y106_1 y106_2)])) h)
      · replace hJ106 := fun y106_1 y106_2 => hJ106 (y106_1, y106_2)
        refine WX.block ?_
        refine WC.loop (V := Int × Int × List Int) (riddleref12_Reverse_l1 t2_2 x55_1_1 J106) r (fun v125 => ⟨[(1, .ptr 1 0), (2, .ptr 2 0), (3, .p (i6 (((t2_2.Classes.length : Int))))), (4, .ptr 4 0), (5, .p (i6 (x55_1_1))), (6, .ptr 6 0), (7, .p (i6 (v125.1)))], [(1, .box 28 (vV1 t2_2)), (2, .box 28 [.p (.sl .nil 0 []), .p (i6 (0)), .p (.sl .nil 0 []), .p (i6 (0)), .p (.sl .nil 0 []), .p (.sl .nil 0 []), .p (bo (false))]), (4, .box 28 [.own 15, .p (i6 (t2_2.Last.N)), .p (sW t2_2.Last.Words), .p (i6 (t2_2.First.N)), .p (sW t2_2.First.Words), .own 49, .p (bo (t2_2.Null))]), (6, .box 25 [.p (i6 (v125.2.1)), .own 29]), (15, rowV 60 (e4 (eI .u64)) (([] : List (Arr4 Int)) ++ t2_2.Classes)), (29, rW 58 v125.2.2), (49, rowV 25 e_api_Bits x55_1_2)], L0, []⟩) _ (0, t104_2.N, t104_2.Words) h (fun _ => rfl) [1, 2, 3, 4, 5, 6, 7] [1, 2, 4, 6, 15, 29, 49] (by kernel_rfl) ?_
        clear h; rintro k ⟨x125_1_1, x125_1_2, x125_1_3⟩ h K125 hnext125 hexit125
        rw [riddleref12_Reverse_l1] at h
        refine WX.seq ?_
        refine WC.rg hn [] [1, 2, 3, 4, 5, 6, 7, 32] [1, 2, 4, 6, 15, 29, 49] ⟨[(1, .ptr 1 0), (2, .ptr 2 0), (3, .p (i6 (((t2_2.Classes.length : Int))))), (4, .ptr 4 0), (5, .p (i6 (x55_1_1))), (6, .ptr 6 0), (7, .p (i6 (x125_1_1))), (32, .p (bo (((decide (x125_1_1 < (t2_2.Classes.length : Int)))))))], [(1, .box 28 (vV1 t2_2)), (2, .box 28 [.p (.sl .nil 0 []), .p (i6 (0)), .p (.sl .nil 0 []), .p (i6 (0)), .p (.sl .nil 0 []), .p (.sl .nil 0 []), .p (bo (false))]), (4, .box 28 [.own 15, .p (i6 (t2_2.Last.N)), .p (sW t2_2.Last.Words), .p (i6 (t2_2.First.N)), .p (sW t2_2.First.Words), .own 49, .p (bo (t2_2.Null))]), (6, .box 25 [.p (i6 (x125_1_2)), .own 29]), (15, rowV 60 (e4 (eI .u64)) (([] : List (Arr4 Int)) ++ t2_2.Classes)), (29, rW 58 x125_1_3), (49, rowV 25 e_api_Bits x55_1_2)], L0, []⟩ trivial ?_
        rcases if_or h with ⟨c141, h⟩ | ⟨c141, h⟩
        · refine WC.condT c141 (by kernel_rfl) ?_
          refine WX.skip ?_
          refine WX.seq ?_
          refine WX.block ?_
          refine WX.seq ?_
          obtain ⟨t142_2, h142_1, h⟩ := bind_some h
          obtain ⟨t142_4, h142_3, h⟩ := bind_some h
          refine WC.r1 hn [(3, .val (.p (.rop (e_api_Bits.cells t142_2 ++ encL e_api_Bits (t2_2.Follow.drop (x125_1_1.toNat + 1)))))), (6, .resP (bo (t142_4)))] [1, 2, 3, 4, 5, 6, 7, 41] [1, 2, 4, 6, 15, 29, 49] ⟨[(1, .ptr 1 0), (2, .ptr 2 0), (3, .p (i6 (((t2_2.Classes.length : Int))))), (4, .ptr 4 0), (5, .p (i6 (x55_1_1))), (6, .ptr 6 0), (7, .p (i6 (x125_1_1))), (41, .p (bo (t142_4)))], [(1, .box 28 (vV1 t2_2)), (2, .box 28 [.p (.sl .nil 0 []), .p (i6 (0)), .p (.sl .nil 0 []), .p (i6 (0)), .p (.sl .nil 0 []), .p (.sl .nil 0 []), .p (bo (false))]), (4, .box 28 [.own 15, .p (i6 (t2_2.Last.N)), .p (sW t2_2.Last.Words), .p (i6 (t2_2.First.N)), .p (sW t2_2.First.Words), .own 49, .p (bo (t2_2.Null))]), (6, .box 25 [.p (i6 (x125_1_2)), .own 29]), (15, rowV 60 (e4 (eI .u64)) (([] : List (Arr4 Int)) ++ t2_2.Classes)), (29, rW 58 x125_1_3), (49, rowV 25 e_api_Bits x55_1_2)], L0, []⟩ (And.intro (Ix e_api_Bits h142_1) (And.intro ((riddleref01_Has_ok h142_3)) (trivial))) ?_
          rcases if_or h with ⟨c143, h⟩ | ⟨c143, h⟩
          · refine WC.condT c143 (by kernel_rfl) ?_
            obtain ⟨t144_2, h144_1, h⟩ := bind_some h
            refine WC.r1 hn [(2, .co [] [] [29] [(44, rW 58 t144_2.Words)] (.agg [.p (i6 (t144_2.N)), .own 44]))] [1, 2, 3, 4, 5, 6, 7] [1, 2, 4, 6, 15, 44, 49] ⟨[(1, .ptr 1 0), (2, .ptr 2 0), (3, .p (i6 (((t2_2.Classes.length : Int))))), (4, .ptr 4 0), (5, .p (i6 (x55_1_1))), (6, .ptr 6 0), (7, .p (i6 (x125_1_1)))], [(1, .box 28 (vV1 t2_2)), (2, .box 28 [.p (.sl .nil 0 []), .p (i6 (0)), .p (.sl .nil 0 []), .p (i6 (0)), .p (.sl .nil 0 []), .p (.sl .nil 0 []), .p (bo (false))]), (4, .box 28 [.own 15, .p (i6 (t2_2.Last.N)), .p (sW t2_2.Last.Words), .p (i6 (t2_2.First.N)), .p (sW t2_2.First.Words), .own 49, .p (bo (t2_2.Null))]), (6, .box 25 [.p (i6 (t144_2.N)), .own 44]), (15, rowV 60 (e4 (eI .u64)) (([] : List (Arr4 Int)) ++ t2_2.Classes)), (44, rW 58 t144_2.Words), (49, rowV 25 e_api_Bits x55_1_2)], L0, []⟩ (And.intro (And.intro ((riddleref01_With_ok h144_1).ren 7 44 (by kernel_rfl)) (And.intro (rfl : (.agg [.p (i6 (t144_2.N)), .own 44] : AV).flat = true) (And.intro (flats_encL (eI .u64) (fun _ => rfl) t144_2.Words) (trivial)))) (trivial)) ?_
            refine WX.popBlk ?_
            refine WC.r1 hn [] [1, 2, 3, 4, 5, 6, 7] [1, 2, 4, 6, 15, 44, 49] ⟨[(1, .ptr 1 0), (2, .ptr 2 0), (3, .p (i6 (((t2_2.Classes.length : Int))))), (4, .ptr 4 0), (5, .p (i6 (x55_1_1))), (6, .ptr 6 0), (7, .p (i6 (((IntKind.i64.wrap (x125_1_1 + 1))))))], [(1, .box 28 (vV1 t2_2)), (2, .box 28 [.p (.sl .nil 0 []), .p (i6 (0)), .p (.sl .nil 0 []), .p (i6 (0)), .p (.sl .nil 0 []), .p (.sl .nil 0 []), .p (bo (false))]), (4, .box 28 [.own 15, .p (i6 (t2_2.Last.N)), .p (sW t2_2.Last.Words), .p (i6 (t2_2.First.N)), .p (sW t2_2.First.Words), .own 49, .p (bo (t2_2.Null))]), (6, .box 25 [.p (i6 (t144_2.N)), .own 44]), (15, rowV 60 (e4 (eI .u64)) (([] : List (Arr4 Int)) ++ t2_2.Classes)), (44, rW 58 t144_2.Words), (49, rowV 25 e_api_Bits x55_1_2)], L0, []⟩ trivial ?_
            refine WC.ren hn 44 29 (by kernel_rfl) [1, 2, 3, 4, 5, 6, 7] [1, 2, 4, 6, 15, 29, 49] (st' := ⟨[(1, .ptr 1 0), (2, .ptr 2 0), (3, .p (i6 (((t2_2.Classes.length : Int))))), (4, .ptr 4 0), (5, .p (i6 (x55_1_1))), (6, .ptr 6 0), (7, .p (i6 (((IntKind.i64.wrap (x125_1_1 + 1))))))], [(1, .box 28 (vV1 t2_2)), (2, .box 28 [.p (.sl .nil 0 []), .p (i6 (0)), .p (.sl .nil 0 []), .p (i6 (0)), .p (.sl .nil 0 []), .p (.sl .nil 0 []), .p (bo (false))]), (4, .box 28 [.own 15, .p (i6 (t2_2.Last.N)), .p (sW t2_2.Last.Words), .p (i6 (t2_2.First.N)), .p (sW t2_2.First.Words), .own 49, .p (bo (t2_2.Null))]), (6, .box 25 [.p (i6 (t144_2.N)), .own 29]), (15, rowV 60 (e4 (eI .u64)) (([] : List (Arr4 Int)) ++ t2_2.Classes)), (29, rW 58 t144_2.Words), (49, rowV 25 e_api_Bits x55_1_2)], L0, []⟩) (by kernel_rfl) ?_
            exact WC.next [1, 2, 3, 4, 5, 6, 7] [1, 2, 4, 6, 15, 29, 49] (by kernel_rfl) (hnext125 ((IntKind.i64.wrap (x125_1_1 + 1)), t144_2.N, t144_2.Words) h)
          · refine WC.condF c143 (by kernel_rfl) ?_
            refine WX.skip ?_
            refine WX.popBlk ?_
            refine WC.r1 hn [] [1, 2, 3, 4, 5, 6, 7] [1, 2, 4, 6, 15, 29, 49] ⟨[(1, .ptr 1 0), (2, .ptr 2 0), (3, .p (i6 (((t2_2.Classes.length : Int))))), (4, .ptr 4 0), (5, .p (i6 (x55_1_1))), (6, .ptr 6 0), (7, .p (i6 (((IntKind.i64.wrap (x125_1_1 + 1))))))], [(1, .box 28 (vV1 t2_2)), (2, .box 28 [.p (.sl .nil 0 []), .p (i6 (0)), .p (.sl .nil 0 []), .p (i6 (0)), .p (.sl .nil 0 []), .p (.sl .nil 0 []), .p (bo (false))]), (4, .box 28 [.own 15, .p (i6 (t2_2.Last.N)), .p (sW t2_2.Last.Words), .p (i6 (t2_2.First.N)), .p (sW t2_2.First.Words), .own 49, .p (bo (t2_2.Null))]), (6, .box 25 [.p (i6 (x125_1_2)), .own 29]), (15, rowV 60 (e4 (eI .u64)) (([] : List (Arr4 Int)) ++ t2_2.Classes)), (29, rW 58 x125_1_3), (49, rowV 25 e_api_Bits x55_1_2)], L0, []⟩ trivial ?_
            exact WC.next [1, 2, 3, 4, 5, 6, 7] [1, 2, 4, 6, 15, 29, 49] (by kernel_rfl) (hnext125 ((IntKind.i64.wrap (x125_1_1 + 1)), x125_1_2, x125_1_3) h)
        · refine WC.condF c141 (by kernel_rfl) ?_
          refine WX.exit ?_
          refine WX.popCodeExit ?_
          refine WC.exit_nil (hexit125 _ _ (by simp) ?_)
          refine WX.popBlkHit ?_
          exact WC.keep [1, 2, 3, 4, 5, 6] [1, 2, 4, 6, 15, 29, 49] (by kernel_rfl) (hJ106 x125_1_2 x125_1_3 h)
    · refine WC.condF c103 (by kernel_rfl) ?_
      refine WX.exit ?_
      refine WX.popCodeExit ?_
      refine WC.exit_nil (hexit55 _ _ (by simp) ?_)
      refine WX.popBlkHit ?_
      exact WC.keep [2, 4] [2, 4, 15, 49] (by kernel_rfl) (hJ6 x55_1_2 h)
theorem riddleref12_Reverse_okP {k : Nat} {a0 : api_Nfa} {r : api_Nfa} (h : riddleref12_Reverse k a0 = some r) : Ans Tryd.prog 29 [pP1 a0] (pP1 r) := AnsO.ans (args := [pP1 a0]) (riddleref12_Reverse_ok h) (by kernel_rfl)
def riddleref12_turned_l0 (a0 : api_Bits) (J4 : (Int × List Int) → Option (api_Bits)) : Nat → (Int × Int × List Int) → Option (api_Bits)
  | 0, _ => none
  | k + 1, (x21_1_1, x21_1_2, x21_1_3) => (if (decide (x21_1_1 < a0.N)) = true then (riddleref01_Has k a0 x21_1_1).bind fun t38_2 => (if t38_2 = true then (riddleref01_With k ((api_Bits.mk x21_1_2 x21_1_3)) ((IntKind.i64.wrap ((IntKind.i64.wrap (a0.N - 1)) - x21_1_1)))).bind fun t40_2 => riddleref12_turned_l0 a0 J4 k ((IntKind.i64.wrap (x21_1_1 + 1)), t40_2.N, t40_2.Words) else riddleref12_turned_l0 a0 J4 k ((IntKind.i64.wrap (x21_1_1 + 1)), x21_1_2, x21_1_3)) else J4 (x21_1_2, x21_1_3))
def riddleref12_turned (k : Nat) (a0 : api_Bits) : Option (api_Bits) :=
  (riddleref12_none k a0.N).bind fun t2_2 => jn (fun (v4 : Int × List Int) => some ((api_Bits.mk v4.1 v4.2))) fun J4 => riddleref12_turned_l0 a0 J4 k (0, t2_2.N, t2_2.Words)
theorem riddleref12_turned_ok {k : Nat} {a0 : api_Bits} {r : api_Bits} (h : riddleref12_turned k a0 = some r) : AnsO Tryd.prog 67 [] [.p (pP4 a0)] [(7, rW 58 r.Words)] (.agg [.p (i6 (r.N)), .own 7]) := by
  refine W_fnO [7] Tryd.func67 rfl (by kernel_rfl) (by kernel_rfl) (by kernel_rfl) (by kernel_rfl) ?_
  intro X hro hn
  unfold riddleref12_turned at h
  refine WC.rg hn [] [1, 2] [1, 2] ⟨[(1, .ptr 1 0), (2, .ptr 2 0)], [(1, .box 25 (vV4 a0)), (2, .box 25 [.p (i6 (0)), .p (.sl .nil 0 [])])], L0, []⟩ trivial ?_
  refine WX.seq ?_
  obtain ⟨t2_2, h2_1, h⟩ := bind_some h
  refine WC.r1 hn [(2, .co [] [] [] [(7, rW 58 t2_2.Words)] (.agg [.p (i6 (t2_2.N)), .own 7]))] [1, 2, 3] [1, 2, 3, 7] ⟨[(1, .ptr 1 0), (2, .ptr 2 0), (3, .ptr 3 0)], [(1, .box 25 (vV4 a0)), (2, .box 25 [.p (i6 (0)), .p (.sl .nil 0 [])]), (3, .box 25 [.p (i6 (t2_2.N)), .own 7]), (7, rW 58 t2_2.Words)], L0, []⟩ (And.intro (And.intro (riddleref12_none_ok h2_1) (trivial)) (trivial)) ?_
  refine WX.seq ?_
  refine WC.rg hn [] [1, 2, 3, 4] [1, 2, 3, 7] ⟨[(1, .ptr 1 0), (2, .ptr 2 0), (3, .ptr 3 0), (4, .p (i6 (0)))], [(1, .box 25 (vV4 a0)), (2, .box 25 [.p (i6 (0)), .p (.sl .nil 0 [])]), (3, .box 25 [.p (i6 (t2_2.N)), .own 7]), (7, rW 58 t2_2.Words)], L0, []⟩ trivial ?_
  obtain ⟨J4, eJ4, h⟩ := jn_some h
  try dsimp only at h
  refine WC.join (α := Int × List Int) (fun v4 => ⟨[(2, .ptr 2 0), (3, .ptr 3 0)], [(2, .box 25 [.p (i6 (0)), .p (.sl .nil 0 [])]), (3, .box 25 [.p (i6 (v4.1)), .own 7]), (7, rW 58 v4.2)], L0, []⟩) (fun v4 => J4 v4 = some r) ?_ (fun hJ4 => ?_)
  · rintro ⟨y4_1, y4_2⟩ h
    rw [eJ4] at h
    try dsimp only at h
    refine WC.rg hn [] [2] [2, 7] ⟨[(2, .ptr 2 0)], [(2, .box 25 [.p (i6 (y4_1)), .own 7]), (7, rW 58 y4_2)], L0, []⟩ trivial ?_
    refine WX.ret ?_
    exact WC.outO (by rw [← Option.some.inj h]; kernel_rfl)
  · replace hJ4 := fun y4_1 y4_2 => hJ4 (y4_1, y4_2)
    refine WX.block ?_
    refine WC.loop (V := Int × Int × List Int) (riddleref12_turned_l0 a0 J4) r (fun v21 => ⟨[(1, .ptr 1 0), (2, .ptr 2 0), (3, .ptr 3 0), (4, .p (i6 (v21.1)))], [(1, .box 25 (vV4 a0)), (2, .box 25 [.p (i6 (0)), .p (.sl .nil 0 [])]), (3, .box 25 [.p (i6 (v21.2.1)), .own 7]), (7, rW 58 v21.2.2)], L0, []⟩) _ (0, t2_2.N, t2_2.Words) h (fun _ => rfl) [1, 2, 3, 4] [1, 2, 3, 7] (by kernel_rfl) ?_
    clear h; rintro k ⟨x21_1_1, x21_1_2, x21_1_3⟩ h K21 hnext21 hexit21
    rw [riddleref12_turned_l0] at h
    refine WX.seq ?_
    refine WC.rg hn [] [1, 2, 3, 4, 11] [1, 2, 3, 7] ⟨[(1, .ptr 1 0), (2, .ptr 2 0), (3, .ptr 3 0), (4, .p (i6 (x21_1_1))), (11, .p (bo (((decide (x21_1_1 < a0.N))))))], [(1, .box 25 (vV4 a0)), (2, .box 25 [.p (i6 (0)), .p (.sl .nil 0 [])]), (3, .box 25 [.p (i6 (x21_1_2)), .own 7]), (7, rW 58 x21_1_3)], L0, []⟩ trivial ?_
    rcases if_or h with ⟨c37, h⟩ | ⟨c37, h⟩
    · refine WC.condT c37 (by kernel_rfl) ?_
      refine WX.skip ?_
      refine WX.seq ?_
      refine WX.block ?_
      refine WX.seq ?_
      obtain ⟨t38_2, h38_1, h⟩ := bind_some h
      refine WC.r1 hn [(2, .resP (bo (t38_2)))] [1, 2, 3, 4, 16] [1, 2, 3, 7] ⟨[(1, .ptr 1 0), (2, .ptr 2 0), (3, .ptr 3 0), (4, .p (i6 (x21_1_1))), (16, .p (bo (t38_2)))], [(1, .box 25 (vV4 a0)), (2, .box 25 [.p (i6 (0)), .p (.sl .nil 0 [])]), (3, .box 25 [.p (i6 (x21_1_2)), .own 7]), (7, rW 58 x21_1_3)], L0, []⟩ (And.intro ((riddleref01_Has_ok h38_1)) (trivial)) ?_
      rcases if_or h with ⟨c39, h⟩ | ⟨c39, h⟩
      · refine WC.condT c39 (by kernel_rfl) ?_
        obtain ⟨t40_2, h40_1, h⟩ := bind_some h
        refine WC.r1 hn [(6, .co [] [] [7] [(23, rW 58 t40_2.Words)] (.agg [.p (i6 (t40_2.N)), .own 23]))] [1, 2, 3, 4] [1, 2, 3, 23] ⟨[(1, .ptr 1 0), (2, .ptr 2 0), (3, .ptr 3 0), (4, .p (i6 (x21_1_1)))], [(1, .box 25 (vV4 a0)), (2, .box 25 [.p (i6 (0)), .p (.sl .nil 0 [])]), (3, .box 25 [.p (i6 (t40_2.N)), .own 23]), (23, rW 58 t40_2.Words)], L0, []⟩ (And.intro (And.intro ((riddleref01_With_ok h40_1).ren 7 23 (by kernel_rfl)) (And.intro (rfl : (.agg [.p (i6 (t40_2.N)), .own 23] : AV).flat = true) (And.intro (flats_encL (eI .u64) (fun _ => rfl) t40_2.Words) (trivial)))) (trivial)) ?_
        refine WX.popBlk ?_
        refine WC.r1 hn [] [1, 2, 3, 4] [1, 2, 3, 23] ⟨[(1, .ptr 1 0), (2, .ptr 2 0), (3, .ptr 3 0), (4, .p (i6 (((IntKind.i64.wrap (x21_1_1 + 1))))))], [(1, .box 25 (vV4 a0)), (2, .box 25 [.p (i6 (0)), .p (.sl .nil 0 [])]), (3, .box 25 [.p (i6 (t40_2.N)), .own 23]), (23, rW 58 t40_2.Words)], L0, []⟩ trivial ?_
        refine WC.ren hn 23 7 (by kernel_rfl) [1, 2, 3, 4] [1, 2, 3, 7] (st' := ⟨[(1, .ptr 1 0), (2, .ptr 2 0), (3, .ptr 3 0), (4, .p (i6 (((IntKind.i64.wrap (x21_1_1 + 1))))))], [(1, .box 25 (vV4 a0)), (2, .box 25 [.p (i6 (0)), .p (.sl .nil 0 [])]), (3, .box 25 [.p (i6 (t40_2.N)), .own 7]), (7, rW 58 t40_2.Words)], L0, []⟩) (by kernel_rfl) ?_
        exact WC.next [1, 2, 3, 4] [1, 2, 3, 7] (by kernel_rfl) (hnext21 ((IntKind.i64.wrap (x21_1_1 + 1)), t40_2.N, t40_2.Words) h)
      · refine WC.condF c39 (by kernel_rfl) ?_
        refine WX.skip ?_
        refine WX.popBlk ?_
        refine WC.r1 hn [] [1, 2, 3, 4] [1, 2, 3, 7] ⟨[(1, .ptr 1 0), (2, .ptr 2 0), (3, .ptr 3 0), (4, .p (i6 (((IntKind.i64.wrap (x21_1_1 + 1))))))], [(1, .box 25 (vV4 a0)), (2, .box 25 [.p (i6 (0)), .p (.sl .nil 0 [])]), (3, .box 25 [.p (i6 (x21_1_2)), .own 7]), (7, rW 58 x21_1_3)], L0, []⟩ trivial ?_
        exact WC.next [1, 2, 3, 4] [1, 2, 3, 7] (by kernel_rfl) (hnext21 ((IntKind.i64.wrap (x21_1_1 + 1)), x21_1_2, x21_1_3) h)
    · refine WC.condF c37 (by kernel_rfl) ?_
      refine WX.exit ?_
      refine WX.popCodeExit ?_
      refine WC.exit_nil (hexit21 _ _ (by simp) ?_)
      refine WX.popBlkHit ?_
      exact WC.keep [2, 3] [2, 3, 7] (by kernel_rfl) (hJ4 x21_1_2 x21_1_3 h)
theorem riddleref12_turned_okP {k : Nat} {a0 : api_Bits} {r : api_Bits} (h : riddleref12_turned k a0 = some r) : Ans Tryd.prog 67 [pP4 a0] (pP4 r) := AnsO.ans (args := [pP4 a0]) (riddleref12_turned_ok h) (by kernel_rfl)
def riddleref12_Turn_l0 (t2_2 : api_Nfa) (J5 : (List (Arr4 Int) × List api_Bits) → Option (api_Nfa)) : Nat → (Int × List (Arr4 Int) × List api_Bits) → Option (api_Nfa)
  | 0, _ => none
  | k + 1, (x18_1_1, x18_1_2, x18_1_3) => (if (decide (x18_1_1 ≥ 0)) = true then (at_ t2_2.Classes x18_1_1).bind fun t31_2 => (if okApp 32 (x18_1_2.length + ([t31_2]).length) then (at_ t2_2.Follow x18_1_1).bind fun t32_2 => (riddleref12_turned k t32_2).bind fun t32_4 => (if okApp 32 (x18_1_3.length + ([t32_4]).length) then riddleref12_Turn_l0 t2_2 J5 k ((IntKind.i64.wrap (x18_1_1 - 1)), x18_1_2 ++ ([t31_2]), x18_1_3 ++ ([t32_4])) else none) else none) else J5 (x18_1_2, x18_1_3))
def riddleref12_Turn (k : Nat) (a0 : api_Nfa) : Option (api_Nfa) :=
  (riddleref12_may k a0).bind fun t2_2 => (riddleref12_turned k t2_2.First).bind fun t3_2 => (riddleref12_turned k t2_2.Last).bind fun t3_4 => jn (fun (v5 : List (Arr4 Int) × List api_Bits) => some ((api_Nfa.mk v5.1 t3_2 t3_4 v5.2 t2_2.Null))) fun J5 => riddleref12_Turn_l0 t2_2 J5 k ((IntKind.i64.wrap ((t2_2.Classes.length : Int) - 1)), ([] : List (Arr4 Int)), ([] : List api_Bits))
theorem riddleref12_Turn_ok {k : Nat} {a0 : api_Nfa} {r : api_Nfa} (h : riddleref12_Turn k a0 = some r) : AnsO Tryd.prog 30 [] [.p (pP1 a0)] [(32, rowV 60 (e4 (eI .u64)) r.Classes), (43, rowV 25 e_api_Bits r.Follow)] (.agg [.own 32, .p (i6 (r.First.N)), .p (sW r.First.Words), .p (i6 (r.Last.N)), .p (sW r.Last.Words), .own 43, .p (bo (r.Null))]) := by
  refine W_fnO [32, 43] Tryd.func30 rfl (by kernel_rfl) (by kernel_rfl) (by kernel_rfl) (by kernel_rfl) ?_
  intro X hro hn
  unfold riddleref12_Turn at h
  refine WC.rg hn [] [1, 2] [1, 2] ⟨[(1, .ptr 1 0), (2, .ptr 2 0)], [(1, .box 28 (vV1 a0)), (2, .box 28 [.p (.sl .nil 0 []), .p (i6 (0)), .p (.sl .nil 0 []), .p (i6 (0)), .p (.sl .nil 0 []), .p (.sl .nil 0 []), .p (bo (false))])], L0, []⟩ trivial ?_
  refine WX.seq ?_
  obtain ⟨t2_2, h2_1, h⟩ := bind_some h
  refine WC.r1 hn [(1, .resP (pP1 t2_2))] [1, 2] [1, 2] ⟨[(1, .ptr 1 0), (2, .ptr 2 0)], [(1, .box 28 (vV1 t2_2)), (2, .box 28 [.p (.sl .nil 0 []), .p (i6 (0)), .p (.sl .nil 0 []), .p (i6 (0)), .p (.sl .nil 0 []), .p (.sl .nil 0 []), .p (bo (false))])], L0, []⟩ (And.intro ((riddleref12_may_ok h2_1)) (trivial)) ?_
  refine WX.seq ?_
  obtain ⟨t3_2, h3_1, h⟩ := bind_some h
  obtain ⟨t3_4, h3_3, h⟩ := bind_some h
  refine WC.drw hn [(10, [])] [3] [(2, .resP (pP4 t3_2)), (5, .resP (pP4 t3_4))] [1, 2, 3] [1, 2, 3] ⟨[(1, .ptr 1 0), (2, .ptr 2 0), (3, .ptr 3 0)], [(1, .box 28 (vV1 t2_2)), (2, .box 28 [.p (.sl .nil 0 []), .p (i6 (0)), .p (.sl .nil 0 []), .p (i6 (0)), .p (.sl .nil 0 []), .p (.sl .nil 0 []), .p (bo (false))]), (3, .box 28 [.p (.sl .nil 0 []), .p (i6 (t3_2.N)), .p (sW t3_2.Words), .p (i6 (t3_4.N)), .p (sW t3_4.Words), .p (.sl .nil 0 []), .p (bo (t2_2.Null))])], L0, []⟩ (And.intro ((riddleref12_turned_okP h3_1)) (And.intro ((riddleref12_turned_okP h3_3)) (trivial))) (by kernel_rfl) (by kernel_rfl) (by kernel_rfl) (by kernel_rfl) ?_
  refine WX.seq ?_
  refine WC.rg hn [] [1, 2, 3, 4] [1, 2, 3] ⟨[(1, .ptr 1 0), (2, .ptr 2 0), (3, .ptr 3 0), (4, .p (i6 (((IntKind.i64.wrap ((t2_2.Classes.length : Int) - 1))))))], [(1, .box 28 (vV1 t2_2)), (2, .box 28 [.p (.sl .nil 0 []), .p (i6 (0)), .p (.sl .nil 0 []), .p (i6 (0)), .p (.sl .nil 0 []), .p (.sl .nil 0 []), .p (bo (false))]), (3, .box 28 [.p (.sl .nil 0 []), .p (i6 (t3_2.N)), .p (sW t3_2.Words), .p (i6 (t3_4.N)), .p (sW t3_4.Words), .p (.sl .nil 0 []), .p (bo (t2_2.Null))])], L0, []⟩ trivial ?_
  obtain ⟨J5, eJ5, h⟩ := jn_some h
  try dsimp only at h
  refine WC.join (α := List (Arr4 Int) × List api_Bits) (fun v5 => ⟨[(2, .ptr 2 0), (3, .ptr 3 0)], [(2, .box 28 [.p (.sl .nil 0 []), .p (i6 (0)), .p (.sl .nil 0 []), .p (i6 (0)), .p (.sl .nil 0 []), .p (.sl .nil 0 []), .p (bo (false))]), (3, .box 28 [.own 32, .p (i6 (t3_2.N)), .p (sW t3_2.Words), .p (i6 (t3_4.N)), .p (sW t3_4.Words), .own 43, .p (bo (t2_2.Null))]), (32, rowV 60 (e4 (eI .u64)) v5.1), (43, rowV 25 e_api_Bits v5.2)], L0, []⟩) (fun v5 => J5 v5 = some r) ?_ (fun hJ5 => ?_)
  · rintro ⟨y5_1, y5_2⟩ h
    rw [eJ5] at h
    try dsimp only at h
    refine WC.rg hn [] [2] [2, 32, 43] ⟨[(2, .ptr 2 0)], [(2, .box 28 [.own 32, .p (i6 (t3_2.N)), .p (sW t3_2.Words), .p (i6 (t3_4.N)), .p (sW t3_4.Words), .own 43, .p (bo (t2_2.Null))]), (32, rowV 60 (e4 (eI .u64)) y5_1), (43, rowV 25 e_api_Bits y5_2)], L0, []⟩ trivial ?_
    refine WX.ret ?_
    exact WC.outO (by rw [← Option.some.inj h]; kernel_rfl)
  · replace hJ5 := fun y5_1 y5_2 => hJ5 (y5_1, y5_2)
    refine WX.block ?_
    refine WC.nil hn [] (some (3, 0)) 32 60 4 (by kernel_rfl) [1, 2, 3, 4] [1, 2, 3, 32] (st' := ⟨[(1, .ptr 1 0), (2, .ptr 2 0), (3, .ptr 3 0), (4, .p (i6 (((IntKind.i64.wrap ((t2_2.Classes.length : Int) - 1))))))], [(1, .box 28 (vV1 t2_2)), (2, .box 28 [.p (.sl .nil 0 []), .p (i6 (0)), .p (.sl .nil 0 []), .p (i6 (0)), .p (.sl .nil 0 []), .p (.sl .nil 0 []), .p (bo (false))]), (3, .box 28 [.own 32, .p (i6 (t3_2.N)), .p (sW t3_2.Words), .p (i6 (t3_4.N)), .p (sW t3_4.Words), .p (.sl .nil 0 []), .p (bo (t2_2.Null))]), (32, rowV 60 (e4 (eI .u64)) (([] : List (Arr4 Int))))], L0, []⟩) (by kernel_rfl) ?_
    refine WC.nil hn [] (some (3, 5)) 43 25 2 (by kernel_rfl) [1, 2, 3, 4] [1, 2, 3, 32, 43] (st' := ⟨[(1, .ptr 1 0), (2, .ptr 2 0), (3, .ptr 3 0), (4, .p (i6 (((IntKind.i64.wrap ((t2_2.Classes.length : Int) - 1))))))], [(1, .box 28 (vV1 t2_2)), (2, .box 28 [.p (.sl .nil 0 []), .p (i6 (0)), .p (.sl .nil 0 []), .p (i6 (0)), .p (.sl .nil 0 []), .p (.sl .nil 0 []), .p (bo (false))]), (3, .box 28 [.own 32, .p (i6 (t3_2.N)), .p (sW t3_2.Words), .p (i6 (t3_4.N)), .p (sW t3_4.Words), .own 43, .p (bo (t2_2.Null))]), (32, rowV 60 (e4 (eI .u64)) (([] : List (Arr4 Int)))), (43, rowV 25 e_api_Bits (([] : List api_Bits)))], L0, []⟩) (by kernel_rfl) ?_
    refine WC.loop (V := Int × List (Arr4 Int) × List api_Bits) (riddleref12_Turn_l0 t2_2 J5) r (fun v18 => ⟨[(1, .ptr 1 0), (2, .ptr 2 0), (3, .ptr 3 0), (4, .p (i6 (v18.1)))], [(1, .box 28 (vV1 t2_2)), (2, .box 28 [.p (.sl .nil 0 []), .p (i6 (0)), .p (.sl .nil 0 []), .p (i6 (0)), .p (.sl .nil 0 []), .p (.sl .nil 0 []), .p (bo (false))]), (3, .box 28 [.own 32, .p (i6 (t3_2.N)), .p (sW t3_2.Words), .p (i6 (t3_4.N)), .p (sW t3_4.Words), .own 43, .p (bo (t2_2.Null))]), (32, rowV 60 (e4 (eI .u64)) v18.2.1), (43, rowV 25 e_api_Bits v18.2.2)], L0, []⟩) _ ((IntKind.i64.wrap ((t2_2.Classes.length : Int) - 1)), ([] : List (Arr4 Int)), ([] : List api_Bits)) h (fun _ => rfl) [1, 2, 3, 4] [1, 2, 3, 32, 43] (by kernel_rfl) ?_
    clear h; rintro k ⟨x18_1_1, x18_1_2, x18_1_3⟩ h K18 hnext18 hexit18
    rw [riddleref12_Turn_l0] at h
    refine WX.seq ?_
    refine WC.rg hn [] [1, 2, 3, 4, 21] [1, 2, 3, 32, 43] ⟨[(1, .ptr 1 0), (2, .ptr 2 0), (3, .ptr 3 0), (4, .p (i6 (x18_1_1))), (21, .p (bo (((decide (x18_1_1 ≥ 0))))))], [(1, .box 28 (vV1 t2_2)), (2, .box 28 [.p (.sl .nil 0 []), .p (i6 (0)), .p (.sl .nil 0 []), .p (i6 (0)), .p (.sl .nil 0 []), .p (.sl .nil 0 []), .p (bo (false))]), (3, .box 28 [.own 32, .p (i6 (t3_2.N)), .p (sW t3_2.Words), .p (i6 (t3_4.N)), .p (sW t3_4.Words), .own 43, .p (bo (t2_2.Null))]), (32, rowV 60 (e4 (eI .u64)) x18_1_2), (43, rowV 25 e_api_Bits x18_1_3)], L0, []⟩ trivial ?_
    rcases if_or h with ⟨c30, h⟩ | ⟨c30, h⟩
    · refine WC.condT c30 (by kernel_rfl) ?_
      refine WX.skip ?_
      refine WX.seq ?_
      refine WX.block ?_
      refine WX.seq ?_
      obtain ⟨t31_2, h31_1, h⟩ := bind_some h
      obtain ⟨c31_3, h⟩ := if_some h
      have q31_5 := Ix (e4 (eI .u64)) h31_1
      have q31_8 := Ap (e4 (eI .u64)) (some 32) 60 32 4 x18_1_2 ([t31_2]) c31_3
      refine WC.exp hn (by kernel_rfl) [(5, .val (.p (.rop ((e4 (eI .u64)).cells t31_2 ++ encL (e4 (eI .u64)) (t2_2.Classes.drop (x18_1_1.toNat + 1)))))), (8, .app (some 32) (rowV 60 (e4 (eI .u64)) (x18_1_2 ++ ([t31_2]))))] [1, 2, 3, 4] [1, 2, 3, 32, 43] ⟨[(1, .ptr 1 0), (2, .ptr 2 0), (3, .ptr 3 0), (4, .p (i6 (x18_1_1)))], [(1, .box 28 (vV1 t2_2)), (2, .box 28 [.p (.sl .nil 0 []), .p (i6 (0)), .p (.sl .nil 0 []), .p (i6 (0)), .p (.sl .nil 0 []), .p (.sl .nil 0 []), .p (bo (false))]), (3, .box 28 [.own 32, .p (i6 (t3_2.N)), .p (sW t3_2.Words), .p (i6 (t3_4.N)), .p (sW t3_4.Words), .own 43, .p (bo (t2_2.Null))]), (32, rowV 60 (e4 (eI .u64)) (x18_1_2 ++ ([t31_2]))), (43, rowV 25 e_api_Bits x18_1_3)], L0, []⟩ [0, 1, 3, 4, 5, 7, 12, 13, 15, 16, 17, 19, 20, 21, 23, 28, 29, 31, 60, 61, 63, 124, 125, 127, 252, 253, 255, 511, 1023, 2047] 2047 (by kernel_rfl) (by kernel_rfl) (by kernel_rfl) (And.intro q31_5 (And.intro q31_5 (And.intro q31_5 (And.intro q31_8 (trivial))))) (by kernel_rfl) (by kernel_rfl) ?_
      obtain ⟨t32_2, h32_1, h⟩ := bind_some h
      obtain ⟨t32_4, h32_3, h⟩ := bind_some h
      obtain ⟨c32_5, h⟩ := if_some h
      have q32_5 := Ix e_api_Bits h32_1
      have q32_7 := (riddleref12_turned_okP h32_3)
      have q32_9 := Ap e_api_Bits (some 43) 25 32 2 x18_1_3 ([t32_4]) c32_5
      refine WC.exp hn (by kernel_rfl) [(5, .val (.p (.rop (e_api_Bits.cells t32_2 ++ encL e_api_Bits (t2_2.Follow.drop (x18_1_1.toNat + 1)))))), (7, .resP (pP4 t32_4)), (9, .app (some 43) (rowV 25 e_api_Bits (x18_1_3 ++ ([t32_4]))))] [1, 2, 3, 4] [1, 2, 3, 32, 43] ⟨[(1, .ptr 1 0), (2, .ptr 2 0), (3, .ptr 3 0), (4, .p (i6 (x18_1_1)))], [(1, .box 28 (vV1 t2_2)), (2, .box 28 [.p (.sl .nil 0 []), .p (i6 (0)), .p (.sl .nil 0 []), .p (i6 (0)), .p (.sl .nil 0 []), .p (.sl .nil 0 []), .p (bo (false))]), (3, .box 28 [.own 32, .p (i6 (t3_2.N)), .p (sW t3_2.Words), .p (i6 (t3_4.N)), .p (sW t3_4.Words), .own 43, .p (bo (t2_2.Null))]), (32, rowV 60 (e4 (eI .u64)) (x18_1_2 ++ ([t31_2]))), (43, rowV 25 e_api_Bits (x18_1_3 ++ ([t32_4])))], L0, []⟩ [0, 1, 3, 4, 5, 7, 12, 13, 15, 16, 17, 19, 20, 21, 23, 28, 29, 31, 60, 61, 63, 124, 125, 127, 252, 253, 255, 508, 509, 511, 1023, 2047, 4095] 4095 (by kernel_rfl) (by kernel_rfl) (by kernel_rfl) (And.intro q32_5 (And.intro q32_5 (And.intro q32_5 (And.intro q32_7 (And.intro q32_7 (And.intro q32_7 (And.intro q32_9 (trivial)))))))) (by kernel_rfl) (by kernel_rfl) ?_
      refine WX.popBlk ?_
      refine WC.r1 hn [] [1, 2, 3, 4] [1, 2, 3, 32, 43] ⟨[(1, .ptr 1 0), (2, .ptr 2 0), (3, .ptr 3 0), (4, .p (i6 (((IntKind.i64.wrap (x18_1_1 - 1))))))], [(1, .box 28 (vV1 t2_2)), (2, .box 28 [.p (.sl .nil 0 []), .p (i6 (0)), .p (.sl .nil 0 []), .p (i6 (0)), .p (.sl .nil 0 []), .p (.sl .nil 0 []), .p (bo (false))]), (3, .box 28 [.own 32, .p (i6 (t3_2.N)), .p (sW t3_2.Words), .p (i6 (t3_4.N)), .p (sW t3_4.Words), .own 43, .p (bo (t2_2.Null))]), (32, rowV 60 (e4 (eI .u64)) (x18_1_2 ++ ([t31_2]))), (43, rowV 25 e_api_Bits (x18_1_3 ++ ([t32_4])))], L0, []⟩ trivial ?_
      exact WC.next [1, 2, 3, 4] [1, 2, 3, 32, 43] (by kernel_rfl) (hnext18 ((IntKind.i64.wrap (x18_1_1 - 1)), x18_1_2 ++ ([t31_2]), x18_1_3 ++ ([t32_4])) h)
    · refine WC.condF c30 (by kernel_rfl) ?_
      refine WX.exit ?_
      refine WX.popCodeExit ?_
      refine WC.exit_nil (hexit18 _ _ (by simp) ?_)
      refine WX.popBlkHit ?_
      exact WC.keep [2, 3] [2, 3, 32, 43] (by kernel_rfl) (hJ5 x18_1_2 x18_1_3 h)
theorem riddleref12_Turn_okP {k : Nat} {a0 : api_Nfa} {r : api_Nfa} (h : riddleref12_Turn k a0 = some r) : Ans Tryd.prog 30 [pP1 a0] (pP1 r) := AnsO.ans (args := [pP1 a0]) (riddleref12_Turn_ok h) (by kernel_rfl)
def reverse_Back (k : Nat) (a0 : api_Nfa) (a1 : api_Bits) (a2 : Bool) (a3 : Int) : Option (api_Bits) :=
  (reverse_Reverse k a0).bind fun t2_2 => (nfa_Next k t2_2 a1 a2 a3).bind fun t2_4 => some t2_4
theorem reverse_Back_ok {k : Nat} {a0 : api_Nfa} {a1 : api_Bits} {a2 : Bool} {a3 : Int} {r : api_Bits} (h : reverse_Back k a0 a1 a2 a3 = some r) : Ans Tryd.prog 32 [pP1 a0, pP4 a1, bo (a2), .s (.int .u8 a3)] (pP4 r) := by
  refine W_fn Tryd.func32 rfl (by kernel_rfl) (by kernel_rfl) ?_
  intro X hro hn
  unfold reverse_Back at h
  refine WC.rg hn [] [2, 3, 4, 5, 8] [4, 5, 8] ⟨[(2, .p (bo (a2))), (3, .p (.s (.int .u8 a3))), (4, .ptr 4 0), (5, .ptr 5 0), (8, .ptr 8 0)], [(4, .box 28 (vV1 a0)), (5, .box 25 (vV4 a1)), (8, .box 25 [.p (i6 (0)), .p (.sl .nil 0 [])])], L0, []⟩ trivial ?_
  refine WX.seq ?_
  obtain ⟨t2_2, h2_1, h⟩ := bind_some h
  obtain ⟨t2_4, h2_3, h⟩ := bind_some h
  refine WC.drw hn [(6, [])] [] [(1, .resP (pP1 t2_2)), (5, .resP (pP4 t2_4))] [8] [8] ⟨[(8, .ptr 8 0)], [(8, .box 25 (vV4 t2_4))], L0, []⟩ (And.intro ((reverse_Reverse_okP h2_1)) (And.intro ((nfa_Next_ok h2_3)) (trivial))) (by kernel_rfl) (by kernel_rfl) (by kernel_rfl) (by kernel_rfl) ?_
  refine WX.ret ?_
  exact WC.outP (by rw [← Option.some.inj h]; kernel_rfl)
def riddleref11_may (k : Nat) (a0 : api_Nfa) : Option (api_Nfa) :=
  (riddleref10_Check k a0).bind fun t2_2 => (if (t2_2 != 0) = true then some ((api_Nfa.mk ([]) ((api_Bits.mk 0 ([]))) ((api_Bits.mk 0 ([]))) ([]) false)) else some a0)
theorem riddleref11_may_ok {k : Nat} {a0 : api_Nfa} {r : api_Nfa} (h : riddleref11_may k a0 = some r) : Ans Tryd.prog 69 [pP1 a0] (pP1 r) := by
  refine W_fn Tryd.func69 rfl (by kernel_rfl) (by kernel_rfl) ?_
  intro X hro hn
  unfold riddleref11_may at h
  refine WC.rg hn [] [1, 2] [1, 2] ⟨[(1, .ptr 1 0), (2, .ptr 2 0)], [(1, .box 28 (vV1 a0)), (2, .box 28 [.p (.sl .nil 0 []), .p (i6 (0)), .p (.sl .nil 0 []), .p (i6 (0)), .p (.sl .nil 0 []), .p (.sl .nil 0 []), .p (bo (false))])], L0, []⟩ trivial ?_
  refine WX.seq ?_
  refine WX.seq ?_
  obtain ⟨t2_2, h2_1, h⟩ := bind_some h
  refine WC.r1 hn [(1, .resP (i6 (t2_2)))] [1, 2, 5] [1, 2] ⟨[(1, .ptr 1 0), (2, .ptr 2 0), (5, .p (bo (((t2_2 != 0)))))], [(1, .box 28 (vV1 a0)), (2, .box 28 [.p (.sl .nil 0 []), .p (i6 (0)), .p (.sl .nil 0 []), .p (i6 (0)), .p (.sl .nil 0 []), .p (.sl .nil 0 []), .p (bo (false))])], L0, []⟩ (And.intro ((riddleref10_Check_ok h2_1)) (trivial)) ?_
  rcases if_or h with ⟨c3, h⟩ | ⟨c3, h⟩
  · refine WC.condT c3 (by kernel_rfl) ?_
    refine WC.rg hn [] [2] [2] ⟨[(2, .ptr 2 0)], [(2, .box 28 [.p (.sl .nil 0 []), .p (i6 (0)), .p (.sl .nil 0 []), .p (i6 (0)), .p (.sl .nil 0 []), .p (.sl .nil 0 []), .p (bo (false))])], L0, []⟩ trivial ?_
    refine WX.ret ?_
    exact WC.outP (by rw [← Option.some.inj h]; kernel_rfl)
  · refine WC.condF c3 (by kernel_rfl) ?_
    refine WX.skip ?_
    refine WC.rg hn [] [2] [2] ⟨[(2, .ptr 2 0)], [(2, .box 28 (vV1 a0))], L0, []⟩ trivial ?_
    refine WX.ret ?_
    exact WC.outP (by rw [← Option.some.inj h]; kernel_rfl)
end Go.Proofs.YtegjbjnmedgdoaaDoor
