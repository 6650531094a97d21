/- YtegjbjnmedgdoaaDoorGb: a part of the proof; see the last text for what is proved. -/
import Derived.Test.YtegjbjnmedgdoaaDoorGa
import Derived.Test.YtegjbjnmedgdoaaDoorProg
import Derived.KernelRfl
set_option maxRecDepth 100000
set_option linter.unusedVariables false
set_option linter.unusedSimpArgs false
namespace Go.Proofs.YtegjbjnmedgdoaaDoor
open Go.AE
def reverse_Reverse_l0 (k : Nat) (t2_2 : api_Nfa) : List (Int × Int) → List api_Bits → Option (api_Nfa)
  | [], x18_1_1 => some ((api_Nfa.mk t2_2.Classes t2_2.Last t2_2.First x18_1_1 t2_2.Null))
  | x18 :: xs18, x18_1_1 => (at_ x18_1_1 x18.2).bind fun t30_2 => (bits_With t30_2 x18.1).bind fun t30_4 => reverse_Reverse_l0 k t2_2 xs18 (x18_1_1.set x18.2.toNat t30_4)
def reverse_Reverse_l1 (t2_2 : api_Nfa) (J5 : List api_Bits → Option (api_Nfa)) : Nat → (Int × List api_Bits) → Option (api_Nfa)
  | 0, _ => none
  | k + 1, (x31_1_1, x31_1_2) => (if (decide (x31_1_1 < (t2_2.Classes.length : Int))) = true then (reverse_none k ((t2_2.Classes.length : Int))).bind fun t42_2 => (if okApp 32 (x31_1_2.length + ([t42_2]).length) then reverse_Reverse_l1 t2_2 J5 k ((IntKind.i64.wrap (x31_1_1 + 1)), x31_1_2 ++ ([t42_2])) else none) else J5 x31_1_2)
def reverse_Reverse (k : Nat) (a0 : api_Nfa) : Option (api_Nfa) :=
  (reverse_may k a0).bind fun t2_2 => jn (fun (v5 : List api_Bits) => (glushkov_Edges t2_2).bind fun t17_2 => (glushkov_Edges_1_v1 k t17_2).bind fun l18 => reverse_Reverse_l0 k t2_2 l18 v5) fun J5 => reverse_Reverse_l1 t2_2 J5 k (0, ([] : List api_Bits))
theorem reverse_Reverse_ok {k : Nat} {a0 : api_Nfa} {r : api_Nfa} (h : reverse_Reverse k a0 = some r) : AnsO Tryd.prog 21 [] [.p (pP1 a0)] [(29, rowV 25 e_api_Bits r.Follow)] (.agg [.p (sC r.Classes), .p (i6 (r.First.N)), .p (sW r.First.Words), .p (i6 (r.Last.N)), .p (sW r.Last.Words), .own 29, .p (bo (r.Null))]) := by
  refine W_fnO [29] Tryd.func21 rfl (by kernel_rfl) (by kernel_rfl) (by kernel_rfl) (by kernel_rfl) ?_
  intro X hro hn
  unfold reverse_Reverse at h
  refine WC.rg hn [] [1, 2] [1, 2] ⟨[(1, .ptr 1 0), (2, .ptr 2 0)], [(1, .box 28 (vV1 a0)), (2, .box 28 [.p (.sl .nil 0 []), .p (i6 (0)), .p (.sl .nil 0 []), .p (i6 (0)), .p (.sl .nil 0 []), .p (.sl .nil 0 []), .p (bo (false))])], L0, []⟩ trivial ?_
  refine WX.seq ?_
  obtain ⟨t2_2, h2_1, h⟩ := bind_some h
  refine WC.r1 hn [(1, .co [] [] [] [(47, rowV 60 (e4 (eI .u64)) t2_2.Classes), (7, rW 58 t2_2.Last.Words)] (.agg [.own 47, .p (i6 (t2_2.First.N)), .p (sW t2_2.First.Words), .p (i6 (t2_2.Last.N)), .own 7, .p (sB t2_2.Follow), .p (bo (t2_2.Null))]))] [1, 2] [1, 2, 7, 47] ⟨[(1, .ptr 1 0), (2, .ptr 2 0)], [(1, .box 28 [.own 47, .p (i6 (t2_2.First.N)), .p (sW t2_2.First.Words), .p (i6 (t2_2.Last.N)), .own 7, .p (sB t2_2.Follow), .p (bo (t2_2.Null))]), (2, .box 28 [.p (.sl .nil 0 []), .p (i6 (0)), .p (.sl .nil 0 []), .p (i6 (0)), .p (.sl .nil 0 []), .p (.sl .nil 0 []), .p (bo (false))]), (7, rW 58 t2_2.Last.Words), (47, rowV 60 (e4 (eI .u64)) t2_2.Classes)], L0, []⟩ (And.intro (And.intro ((reverse_may_ok h2_1).ren 10 47 (by kernel_rfl)) (trivial)) (trivial)) ?_
  refine WC.rg hn [] [1, 2, 3] [1, 2, 3, 7, 47] ⟨[(1, .ptr 1 0), (2, .ptr 2 0), (3, .ptr 3 0)], [(1, .box 28 [.own 47, .p (i6 (t2_2.First.N)), .p (sW t2_2.First.Words), .p (i6 (t2_2.Last.N)), .own 7, .p (sB t2_2.Follow), .p (bo (t2_2.Null))]), (2, .box 28 [.p (.sl .nil 0 []), .p (i6 (0)), .p (.sl .nil 0 []), .p (i6 (0)), .p (.sl .nil 0 []), .p (.sl .nil 0 []), .p (bo (false))]), (3, .box 28 [.own 47, .p (i6 (t2_2.Last.N)), .own 7, .p (i6 (t2_2.First.N)), .p (sW t2_2.First.Words), .p (.sl .nil 0 []), .p (bo (t2_2.Null))]), (7, rW 58 t2_2.Last.Words), (47, rowV 60 (e4 (eI .u64)) t2_2.Classes)], L0, []⟩ trivial ?_
  refine WX.seq ?_
  refine WC.rg hn [] [1, 2, 3, 19, 20] [1, 2, 3, 7, 47] ⟨[(1, .ptr 1 0), (2, .ptr 2 0), (3, .ptr 3 0), (19, .p (i6 (((t2_2.Classes.length : Int))))), (20, .p (i6 (0)))], [(1, .box 28 [.own 47, .p (i6 (t2_2.First.N)), .p (sW t2_2.First.Words), .p (i6 (t2_2.Last.N)), .own 7, .p (sB t2_2.Follow), .p (bo (t2_2.Null))]), (2, .box 28 [.p (.sl .nil 0 []), .p (i6 (0)), .p (.sl .nil 0 []), .p (i6 (0)), .p (.sl .nil 0 []), .p (.sl .nil 0 []), .p (bo (false))]), (3, .box 28 [.own 47, .p (i6 (t2_2.Last.N)), .own 7, .p (i6 (t2_2.First.N)), .p (sW t2_2.First.Words), .p (.sl .nil 0 []), .p (bo (t2_2.Null))]), (7, rW 58 t2_2.Last.Words), (47, rowV 60 (e4 (eI .u64)) t2_2.Classes)], L0, []⟩ trivial ?_
  obtain ⟨J5, eJ5, h⟩ := jn_some h
  try dsimp only at h
  refine WC.join (α := List api_Bits) (fun v5 => ⟨[(1, .ptr 1 0), (2, .ptr 2 0), (3, .ptr 3 0)], [(1, .box 28 [.own 47, .p (i6 (t2_2.First.N)), .p (sW t2_2.First.Words), .p (i6 (t2_2.Last.N)), .own 7, .p (sB t2_2.Follow), .p (bo (t2_2.Null))]), (2, .box 28 [.p (.sl .nil 0 []), .p (i6 (0)), .p (.sl .nil 0 []), .p (i6 (0)), .p (.sl .nil 0 []), .p (.sl .nil 0 []), .p (bo (false))]), (3, .box 28 [.own 47, .p (i6 (t2_2.Last.N)), .own 7, .p (i6 (t2_2.First.N)), .p (sW t2_2.First.Words), .own 29, .p (bo (t2_2.Null))]), (7, rW 58 t2_2.Last.Words), (29, rowV 25 e_api_Bits v5), (47, rowV 60 (e4 (eI .u64)) t2_2.Classes)], L0, []⟩) (fun v5 => J5 v5 = some r) ?_ (fun hJ5 => ?_)
  · rintro y5_1 h
    rw [eJ5] at h
    try dsimp only at h
    refine WX.seq ?_
    refine WX.seq ?_
    refine WC.frz 7 (st' := ⟨[(1, .ptr 1 0), (2, .ptr 2 0), (3, .ptr 3 0)], [(1, .box 28 [.own 47, .p (i6 (t2_2.First.N)), .p (sW t2_2.First.Words), .p (i6 (t2_2.Last.N)), .p (sW t2_2.Last.Words), .p (sB t2_2.Follow), .p (bo (t2_2.Null))]), (2, .box 28 [.p (.sl .nil 0 []), .p (i6 (0)), .p (.sl .nil 0 []), .p (i6 (0)), .p (.sl .nil 0 []), .p (.sl .nil 0 []), .p (bo (false))]), (3, .box 28 [.own 47, .p (i6 (t2_2.Last.N)), .p (sW t2_2.Last.Words), .p (i6 (t2_2.First.N)), .p (sW t2_2.First.Words), .own 29, .p (bo (t2_2.Null))]), (29, rowV 25 e_api_Bits y5_1), (47, rowV 60 (e4 (eI .u64)) t2_2.Classes)], L0, []⟩) (by kernel_rfl) ?_
    refine WC.frz 47 (st' := ⟨[(1, .ptr 1 0), (2, .ptr 2 0), (3, .ptr 3 0)], [(1, .box 28 (vV1 t2_2)), (2, .box 28 [.p (.sl .nil 0 []), .p (i6 (0)), .p (.sl .nil 0 []), .p (i6 (0)), .p (.sl .nil 0 []), .p (.sl .nil 0 []), .p (bo (false))]), (3, .box 28 [.p (sC t2_2.Classes), .p (i6 (t2_2.Last.N)), .p (sW t2_2.Last.Words), .p (i6 (t2_2.First.N)), .p (sW t2_2.First.Words), .own 29, .p (bo (t2_2.Null))]), (29, rowV 25 e_api_Bits y5_1)], L0, []⟩) (by kernel_rfl) ?_
    obtain ⟨t17_2, h17_1, h⟩ := bind_some h
    refine WC.r1 hn [(1, .resP (.fn 91 [.rop ([sC t17_2.Classes, i6 (t17_2.First.N), sW t17_2.First.Words, i6 (t17_2.Last.N), sW t17_2.Last.Words, sB t17_2.Follow, bo (t17_2.Null)])]))] [2, 3, 33] [2, 3, 29] ⟨[(2, .ptr 2 0), (3, .ptr 3 0), (33, .p (.fn 91 [.rop ([sC t17_2.Classes, i6 (t17_2.First.N), sW t17_2.First.Words, i6 (t17_2.Last.N), sW t17_2.Last.Words, sB t17_2.Follow, bo (t17_2.Null)])]))], [(2, .box 28 [.p (.sl .nil 0 []), .p (i6 (0)), .p (.sl .nil 0 []), .p (i6 (0)), .p (.sl .nil 0 []), .p (.sl .nil 0 []), .p (bo (false))]), (3, .box 28 [.p (sC t2_2.Classes), .p (i6 (t2_2.Last.N)), .p (sW t2_2.Last.Words), .p (i6 (t2_2.First.N)), .p (sW t2_2.First.Words), .own 29, .p (bo (t2_2.Null))]), (29, rowV 25 e_api_Bits y5_1)], L0, []⟩ (And.intro ((glushkov_Edges_ok h17_1)) (trivial)) ?_
    refine WX.block ?_
    obtain ⟨l18, hI18, h⟩ := bind_some h
    refine WC.range (V := List api_Bits) hn (reverse_Reverse_l0 k t2_2) r (fun v18 => ⟨[(2, .ptr 2 0), (3, .ptr 3 0), (33, .p (.fn 91 [.rop ([sC t17_2.Classes, i6 (t17_2.First.N), sW t17_2.First.Words, i6 (t17_2.Last.N), sW t17_2.Last.Words, sB t17_2.Follow, bo (t17_2.Null)])]))], [(2, .box 28 [.p (.sl .nil 0 []), .p (i6 (0)), .p (.sl .nil 0 []), .p (i6 (0)), .p (.sl .nil 0 []), .p (.sl .nil 0 []), .p (bo (false))]), (3, .box 28 [.p (sC t2_2.Classes), .p (i6 (t2_2.Last.N)), .p (sW t2_2.Last.Words), .p (i6 (t2_2.First.N)), .p (sW t2_2.First.Words), .own 29, .p (bo (t2_2.Null))]), (29, rowV 25 e_api_Bits v18)], L0, []⟩) (fun x18 v18 => ⟨[(2, .ptr 2 0), (3, .ptr 3 0), (4, .p (i6 (x18.1))), (5, .p (i6 (x18.2))), (33, .p (.fn 91 [.rop ([sC t17_2.Classes, i6 (t17_2.First.N), sW t17_2.First.Words, i6 (t17_2.Last.N), sW t17_2.Last.Words, sB t17_2.Follow, bo (t17_2.Null)])])), (34, .p (i6 (x18.1))), (35, .p (i6 (x18.2)))], [(2, .box 28 [.p (.sl .nil 0 []), .p (i6 (0)), .p (.sl .nil 0 []), .p (i6 (0)), .p (.sl .nil 0 []), .p (.sl .nil 0 []), .p (bo (false))]), (3, .box 28 [.p (sC t2_2.Classes), .p (i6 (t2_2.Last.N)), .p (sW t2_2.Last.Words), .p (i6 (t2_2.First.N)), .p (sW t2_2.First.Words), .own 29, .p (bo (t2_2.Null))]), (29, rowV 25 e_api_Bits v18)], ⟨[], false⟩, [[(2, .ptr 2 0), (3, .ptr 3 0), (33, .p (.fn 91 [.rop ([sC t17_2.Classes, i6 (t17_2.First.N), sW t17_2.First.Words, i6 (t17_2.Last.N), sW t17_2.Last.Words, sB t17_2.Follow, bo (t17_2.Null)])]))]]⟩) (fun x : Int × Int => ([i6 (x.1), i6 (x.2)] : List PV)) l18 y5_1 h [2, 3, 33] [2, 3, 29] (by kernel_rfl) (fun v18 => .p (.fn 91 [.rop ([sC t17_2.Classes, i6 (t17_2.First.N), sW t17_2.First.Words, i6 (t17_2.Last.N), sW t17_2.Last.Words, sB t17_2.Follow, bo (t17_2.Null)])])) (fun v18 => by kernel_rfl) (by kernel_rfl) (glushkov_Edges_1_v1_it hI18) (by kernel_rfl) (fun v18 => by kernel_rfl) (fun x => rfl) ?_ ?_ ?_
    · clear h; rintro x18_1_1 h
      rw [reverse_Reverse_l0] at h
      refine WX.popBlk ?_
      refine WC.rg hn [] [2] [2, 29] ⟨[(2, .ptr 2 0)], [(2, .box 28 [.p (sC t2_2.Classes), .p (i6 (t2_2.Last.N)), .p (sW t2_2.Last.Words), .p (i6 (t2_2.First.N)), .p (sW t2_2.First.Words), .own 29, .p (bo (t2_2.Null))]), (29, rowV 25 e_api_Bits x18_1_1)], L0, []⟩ trivial ?_
      refine WX.ret ?_
      exact WC.outO (by rw [← Option.some.inj h]; kernel_rfl)
    · clear h; intro X hn x18; rintro x18_1_1
      refine WC.rg hn [] [2, 3, 4, 33, 34, 35] [2, 3, 29] ⟨[(2, .ptr 2 0), (3, .ptr 3 0), (4, .p (i6 (x18.1))), (33, .p (.fn 91 [.rop ([sC t17_2.Classes, i6 (t17_2.First.N), sW t17_2.First.Words, i6 (t17_2.Last.N), sW t17_2.Last.Words, sB t17_2.Follow, bo (t17_2.Null)])])), (34, .p (i6 (x18.1))), (35, .p (i6 (x18.2)))], [(2, .box 28 [.p (.sl .nil 0 []), .p (i6 (0)), .p (.sl .nil 0 []), .p (i6 (0)), .p (.sl .nil 0 []), .p (.sl .nil 0 []), .p (bo (false))]), (3, .box 28 [.p (sC t2_2.Classes), .p (i6 (t2_2.Last.N)), .p (sW t2_2.Last.Words), .p (i6 (t2_2.First.N)), .p (sW t2_2.First.Words), .own 29, .p (bo (t2_2.Null))]), (29, rowV 25 e_api_Bits x18_1_1)], ⟨[], false⟩, [[(2, .ptr 2 0), (3, .ptr 3 0), (33, .p (.fn 91 [.rop ([sC t17_2.Classes, i6 (t17_2.First.N), sW t17_2.First.Words, i6 (t17_2.Last.N), sW t17_2.Last.Words, sB t17_2.Follow, bo (t17_2.Null)])]))]]⟩ trivial ?_
      refine WC.r1 hn [] [2, 3, 4, 5, 33, 34, 35] [2, 3, 29] ⟨[(2, .ptr 2 0), (3, .ptr 3 0), (4, .p (i6 (x18.1))), (5, .p (i6 (x18.2))), (33, .p (.fn 91 [.rop ([sC t17_2.Classes, i6 (t17_2.First.N), sW t17_2.First.Words, i6 (t17_2.Last.N), sW t17_2.Last.Words, sB t17_2.Follow, bo (t17_2.Null)])])), (34, .p (i6 (x18.1))), (35, .p (i6 (x18.2)))], [(2, .box 28 [.p (.sl .nil 0 []), .p (i6 (0)), .p (.sl .nil 0 []), .p (i6 (0)), .p (.sl .nil 0 []), .p (.sl .nil 0 []), .p (bo (false))]), (3, .box 28 [.p (sC t2_2.Classes), .p (i6 (t2_2.Last.N)), .p (sW t2_2.Last.Words), .p (i6 (t2_2.First.N)), .p (sW t2_2.First.Words), .own 29, .p (bo (t2_2.Null))]), (29, rowV 25 e_api_Bits x18_1_1)], ⟨[], false⟩, [[(2, .ptr 2 0), (3, .ptr 3 0), (33, .p (.fn 91 [.rop ([sC t17_2.Classes, i6 (t17_2.First.N), sW t17_2.First.Words, i6 (t17_2.Last.N), sW t17_2.Last.Words, sB t17_2.Follow, bo (t17_2.Null)])]))]]⟩ trivial ?_
      exact WC.exit_nil ⟨rfl, rfl⟩
    · clear h; intro X hn x18 xs18; rintro x18_1_1 h K18 hnext18 hexit18
      rw [reverse_Reverse_l0] at h
      refine WX.block ?_
      obtain ⟨t30_2, h30_1, h⟩ := bind_some h
      obtain ⟨t30_4, h30_3, h⟩ := bind_some h
      refine WC.drw hn [(11, [])] [] [(6, .val (.ptr 29 (x18.2.toNat * 2))), (7, .val (.p (pP4 t30_2))), (9, .resP (pP4 t30_4)), (10, .val (.ptr 29 (x18.2.toNat * 2))), (11, .sto 29 (rowV 25 e_api_Bits (x18_1_1.set x18.2.toNat t30_4)))] [] [2, 3, 29] ⟨[], [(2, .box 28 [.p (.sl .nil 0 []), .p (i6 (0)), .p (.sl .nil 0 []), .p (i6 (0)), .p (.sl .nil 0 []), .p (.sl .nil 0 []), .p (bo (false))]), (3, .box 28 [.p (sC t2_2.Classes), .p (i6 (t2_2.Last.N)), .p (sW t2_2.Last.Words), .p (i6 (t2_2.First.N)), .p (sW t2_2.First.Words), .own 29, .p (bo (t2_2.Null))]), (29, rowV 25 e_api_Bits (x18_1_1.set x18.2.toNat t30_4))], ⟨[], false⟩, [[(2, .ptr 2 0), (3, .ptr 3 0), (33, .p (.fn 91 [.rop ([sC t17_2.Classes, i6 (t17_2.First.N), sW t17_2.First.Words, i6 (t17_2.Last.N), sW t17_2.Last.Words, sB t17_2.Follow, bo (t17_2.Null)])]))]]⟩ (And.intro (IxO 29 2 h30_1) (And.intro (LdO0 Tryd.prog e_api_Bits 25 h30_1) (And.intro ((bits_With_okP h30_3)) (And.intro (IxO 29 2 h30_1) (And.intro (StO0 e_api_Bits 29 25 2 2 [i6 (t30_4.N), sW t30_4.Words] t30_4 h30_1 rfl rfl (by decide)) (trivial)))))) (by kernel_rfl) (by kernel_rfl) (by kernel_rfl) (by kernel_rfl) ?_
      refine WX.popBlk ?_
      refine WC.keep [] [2, 3, 29] (st' := ⟨[], [(2, .box 28 [.p (.sl .nil 0 []), .p (i6 (0)), .p (.sl .nil 0 []), .p (i6 (0)), .p (.sl .nil 0 []), .p (.sl .nil 0 []), .p (bo (false))]), (3, .box 28 [.p (sC t2_2.Classes), .p (i6 (t2_2.Last.N)), .p (sW t2_2.Last.Words), .p (i6 (t2_2.First.N)), .p (sW t2_2.First.Words), .own 29, .p (bo (t2_2.Null))]), (29, rowV 25 e_api_Bits (x18_1_1.set x18.2.toNat t30_4))], ⟨[], false⟩, [[(2, .ptr 2 0), (3, .ptr 3 0), (33, .p (.fn 91 [.rop ([sC t17_2.Classes, i6 (t17_2.First.N), sW t17_2.First.Words, i6 (t17_2.Last.N), sW t17_2.Last.Words, sB t17_2.Follow, bo (t17_2.Null)])]))]]⟩) (by kernel_rfl) ?_
      exact WC.nextR [] [2, 3, 29] (s := ⟨[], [(2, .box 28 [.p (.sl .nil 0 []), .p (i6 (0)), .p (.sl .nil 0 []), .p (i6 (0)), .p (.sl .nil 0 []), .p (.sl .nil 0 []), .p (bo (false))]), (3, .box 28 [.p (sC t2_2.Classes), .p (i6 (t2_2.Last.N)), .p (sW t2_2.Last.Words), .p (i6 (t2_2.First.N)), .p (sW t2_2.First.Words), .own 29, .p (bo (t2_2.Null))]), (29, rowV 25 e_api_Bits (x18_1_1.set x18.2.toNat t30_4))], ⟨[], false⟩, [[(2, .ptr 2 0), (3, .ptr 3 0), (33, .p (.fn 91 [.rop ([sC t17_2.Classes, i6 (t17_2.First.N), sW t17_2.First.Words, i6 (t17_2.Last.N), sW t17_2.Last.Words, sB t17_2.Follow, bo (t17_2.Null)])]))]]⟩) (by kernel_rfl) rfl (fun s hb => hnext18 (x18_1_1.set x18.2.toNat t30_4) s h hb)
  · replace hJ5 := fun y5_1 => hJ5 y5_1
    refine WX.block ?_
    refine WC.nil hn [] (some (3, 5)) 29 25 2 (by kernel_rfl) [1, 2, 3, 19, 20] [1, 2, 3, 7, 29, 47] (st' := ⟨[(1, .ptr 1 0), (2, .ptr 2 0), (3, .ptr 3 0), (19, .p (i6 (((t2_2.Classes.length : Int))))), (20, .p (i6 (0)))], [(1, .box 28 [.own 47, .p (i6 (t2_2.First.N)), .p (sW t2_2.First.Words), .p (i6 (t2_2.Last.N)), .own 7, .p (sB t2_2.Follow), .p (bo (t2_2.Null))]), (2, .box 28 [.p (.sl .nil 0 []), .p (i6 (0)), .p (.sl .nil 0 []), .p (i6 (0)), .p (.sl .nil 0 []), .p (.sl .nil 0 []), .p (bo (false))]), (3, .box 28 [.own 47, .p (i6 (t2_2.Last.N)), .own 7, .p (i6 (t2_2.First.N)), .p (sW t2_2.First.Words), .own 29, .p (bo (t2_2.Null))]), (7, rW 58 t2_2.Last.Words), (29, rowV 25 e_api_Bits (([] : List api_Bits))), (47, rowV 60 (e4 (eI .u64)) t2_2.Classes)], L0, []⟩) (by kernel_rfl) ?_
    refine WC.loop (V := Int × List api_Bits) (reverse_Reverse_l1 t2_2 J5) r (fun v31 => ⟨[(1, .ptr 1 0), (2, .ptr 2 0), (3, .ptr 3 0), (19, .p (i6 (((t2_2.Classes.length : Int))))), (20, .p (i6 (v31.1)))], [(1, .box 28 [.own 47, .p (i6 (t2_2.First.N)), .p (sW t2_2.First.Words), .p (i6 (t2_2.Last.N)), .own 7, .p (sB t2_2.Follow), .p (bo (t2_2.Null))]), (2, .box 28 [.p (.sl .nil 0 []), .p (i6 (0)), .p (.sl .nil 0 []), .p (i6 (0)), .p (.sl .nil 0 []), .p (.sl .nil 0 []), .p (bo (false))]), (3, .box 28 [.own 47, .p (i6 (t2_2.Last.N)), .own 7, .p (i6 (t2_2.First.N)), .p (sW t2_2.First.Words), .own 29, .p (bo (t2_2.Null))]), (7, rW 58 t2_2.Last.Words), (29, rowV 25 e_api_Bits v31.2), (47, rowV 60 (e4 (eI .u64)) t2_2.Classes)], L0, []⟩) _ (0, ([] : List api_Bits)) h (fun _ => rfl) [1, 2, 3, 19, 20] [1, 2, 3, 7, 29, 47] (by kernel_rfl) ?_
    clear h; rintro k ⟨x31_1_1, x31_1_2⟩ h K31 hnext31 hexit31
    rw [reverse_Reverse_l1] at h
    refine WC.rg hn [] [1, 2, 3, 19, 20, 21] [1, 2, 3, 7, 29, 47] ⟨[(1, .ptr 1 0), (2, .ptr 2 0), (3, .ptr 3 0), (19, .p (i6 (((t2_2.Classes.length : Int))))), (20, .p (i6 (x31_1_1))), (21, .p (bo (((decide (x31_1_1 < (t2_2.Classes.length : Int)))))))], [(1, .box 28 [.own 47, .p (i6 (t2_2.First.N)), .p (sW t2_2.First.Words), .p (i6 (t2_2.Last.N)), .own 7, .p (sB t2_2.Follow), .p (bo (t2_2.Null))]), (2, .box 28 [.p (.sl .nil 0 []), .p (i6 (0)), .p (.sl .nil 0 []), .p (i6 (0)), .p (.sl .nil 0 []), .p (.sl .nil 0 []), .p (bo (false))]), (3, .box 28 [.own 47, .p (i6 (t2_2.Last.N)), .own 7, .p (i6 (t2_2.First.N)), .p (sW t2_2.First.Words), .own 29, .p (bo (t2_2.Null))]), (7, rW 58 t2_2.Last.Words), (29, rowV 25 e_api_Bits x31_1_2), (47, rowV 60 (e4 (eI .u64)) t2_2.Classes)], L0, []⟩ trivial ?_
    refine WX.seq ?_
    rcases if_or h with ⟨c41, h⟩ | ⟨c41, h⟩
    · refine WC.condT c41 (by kernel_rfl) ?_
      refine WX.skip ?_
      refine WX.seq ?_
      refine WX.block ?_
      obtain ⟨t42_2, h42_1, h⟩ := bind_some h
      obtain ⟨c42_3, h⟩ := if_some h
      have q42_5 := (reverse_none_okP h42_1)
      have q42_7 := Ap e_api_Bits (some 29) 25 32 2 x31_1_2 ([t42_2]) c42_3
      refine WC.exp hn (by kernel_rfl) [(5, .resP (pP4 t42_2)), (7, .app (some 29) (rowV 25 e_api_Bits (x31_1_2 ++ ([t42_2]))))] [1, 2, 3, 19, 20] [1, 2, 3, 7, 29, 47] ⟨[(1, .ptr 1 0), (2, .ptr 2 0), (3, .ptr 3 0), (19, .p (i6 (((t2_2.Classes.length : Int))))), (20, .p (i6 (x31_1_1)))], [(1, .box 28 [.own 47, .p (i6 (t2_2.First.N)), .p (sW t2_2.First.Words), .p (i6 (t2_2.Last.N)), .own 7, .p (sB t2_2.Follow), .p (bo (t2_2.Null))]), (2, .box 28 [.p (.sl .nil 0 []), .p (i6 (0)), .p (.sl .nil 0 []), .p (i6 (0)), .p (.sl .nil 0 []), .p (.sl .nil 0 []), .p (bo (false))]), (3, .box 28 [.own 47, .p (i6 (t2_2.Last.N)), .own 7, .p (i6 (t2_2.First.N)), .p (sW t2_2.First.Words), .own 29, .p (bo (t2_2.Null))]), (7, rW 58 t2_2.Last.Words), (29, rowV 25 e_api_Bits (x31_1_2 ++ ([t42_2]))), (47, rowV 60 (e4 (eI .u64)) t2_2.Classes)], L0, []⟩ [0, 1, 3, 4, 5, 7, 12, 13, 15, 28, 29, 31, 60, 61, 63, 124, 125, 127, 255, 511, 1023] 1023 (by kernel_rfl) (by kernel_rfl) (by kernel_rfl) (And.intro q42_5 (And.intro q42_5 (And.intro q42_5 (And.intro q42_7 (trivial))))) (by kernel_rfl) (by kernel_rfl) ?_
      refine WX.popBlk ?_
      refine WC.r1 hn [] [1, 2, 3, 19, 20] [1, 2, 3, 7, 29, 47] ⟨[(1, .ptr 1 0), (2, .ptr 2 0), (3, .ptr 3 0), (19, .p (i6 (((t2_2.Classes.length : Int))))), (20, .p (i6 (((IntKind.i64.wrap (x31_1_1 + 1))))))], [(1, .box 28 [.own 47, .p (i6 (t2_2.First.N)), .p (sW t2_2.First.Words), .p (i6 (t2_2.Last.N)), .own 7, .p (sB t2_2.Follow), .p (bo (t2_2.Null))]), (2, .box 28 [.p (.sl .nil 0 []), .p (i6 (0)), .p (.sl .nil 0 []), .p (i6 (0)), .p (.sl .nil 0 []), .p (.sl .nil 0 []), .p (bo (false))]), (3, .box 28 [.own 47, .p (i6 (t2_2.Last.N)), .own 7, .p (i6 (t2_2.First.N)), .p (sW t2_2.First.Words), .own 29, .p (bo (t2_2.Null))]), (7, rW 58 t2_2.Last.Words), (29, rowV 25 e_api_Bits (x31_1_2 ++ ([t42_2]))), (47, rowV 60 (e4 (eI .u64)) t2_2.Classes)], L0, []⟩ trivial ?_
      exact WC.next [1, 2, 3, 19, 20] [1, 2, 3, 7, 29, 47] (by kernel_rfl) (hnext31 ((IntKind.i64.wrap (x31_1_1 + 1)), x31_1_2 ++ ([t42_2])) h)
    · refine WC.condF c41 (by kernel_rfl) ?_
      refine WX.exit ?_
      refine WX.popCodeExit ?_
      refine WC.exit_nil (hexit31 _ _ (by simp) ?_)
      refine WX.popBlkHit ?_
      exact WC.keep [1, 2, 3] [1, 2, 3, 7, 29, 47] (by kernel_rfl) (hJ5 x31_1_2 h)
theorem reverse_Reverse_okP {k : Nat} {a0 : api_Nfa} {r : api_Nfa} (h : reverse_Reverse k a0 = some r) : Ans Tryd.prog 21 [pP1 a0] (pP1 r) := AnsO.ans (args := [pP1 a0]) (reverse_Reverse_ok h) (by kernel_rfl)
def slices_Clone_byte_byte (a0 : (List Int)) : Option ((List Int)) :=
  (if okApp 1 (([] : List Int).length + a0.length) then some (([] : List Int) ++ a0) else none)
theorem slices_Clone_byte_byte_ok {a0 : (List Int)} {r : (List Int)} (h : slices_Clone_byte_byte a0 = some r) : AnsO Tryd.prog 23 [] [.p (slV (eI .u8) a0)] [(7, rowV 5 (eI .u8) r)] (.own 7) := by
  refine W_fnO [7] Tryd.func23 rfl (by kernel_rfl) (by kernel_rfl) (by kernel_rfl) (by kernel_rfl) ?_
  intro X hro hn
  unfold slices_Clone_byte_byte at h
  refine WC.rg hn [] [0] [] ⟨[(0, .p (slV (eI .u8) a0))], [], L0, []⟩ trivial ?_
  refine WX.seq ?_
  refine WX.seq ?_
  refine WC.nilCase (E := (eI .u8)) (l := a0) 0 (by kernel_rfl) (fun hnil => ?_) ?_
  · have h1 : (some (([] : List Int))) = some r := by rw [hnil] at h; clear hnil; simp at h ⊢; first | exact h.2 | exact h | simp_all
    replace h := h1
    refine WC.keep [0] [] (st' := ⟨[(0, .p (.sl .isnil a0.length (encL (eI .u8) a0)))], [], L0, []⟩) (by kernel_rfl) ?_
    refine WC.r1 hn [] [0, 4] [] ⟨[(0, .p (.sl .isnil a0.length (encL (eI .u8) a0))), (4, .p (bo (true)))], [], L0, []⟩ trivial ?_
    refine WC.tag [0] [] [0, 4] [] (st' := ⟨[(0, .p (slV (eI .u8) a0)), (4, .p (bo (true)))], [], L0, []⟩) (by kernel_rfl) ?_
    refine WC.condT rfl (by kernel_rfl) ?_
    refine WC.rg hn [] [2] [] ⟨[(2, .p (.sl .nil 0 []))], [], L0, []⟩ trivial ?_
    refine WX.ret ?_
    refine WC.nil hn [2] none 7 5 1 (by kernel_rfl) [2] [7] (st' := ⟨[(2, .own 7)], [(7, rowV 5 (eI .u8) (([] : List Int)))], L0, []⟩) (by kernel_rfl) ?_
    exact WC.outO (by rw [← Option.some.inj h]; kernel_rfl)
  · refine WC.keep [0] [] (st' := ⟨[(0, .p (.sl .nn a0.length (encL (eI .u8) a0)))], [], L0, []⟩) (by kernel_rfl) ?_
    refine WC.r1 hn [] [0, 4] [] ⟨[(0, .p (.sl .nn a0.length (encL (eI .u8) a0))), (4, .p (bo (false)))], [], L0, []⟩ trivial ?_
    refine WC.tag [0] [] [0, 4] [] (st' := ⟨[(0, .p (slV (eI .u8) a0)), (4, .p (bo (false)))], [], L0, []⟩) (by kernel_rfl) ?_
    refine WC.condF rfl (by kernel_rfl) ?_
    refine WX.skip ?_
    refine WX.seq ?_
    obtain ⟨c6_1, h⟩ := if_some h
    refine WC.r1 hn [(2, .app (some 5) (rowV 5 (eI .u8) (([] : List Int) ++ a0)))] [2] [7] ⟨[(2, .own 7)], [(7, rowV 5 (eI .u8) (([] : List Int) ++ a0))], L0, []⟩ (And.intro (ApS (eI .u8) (some 5) 5 1 ([] : List Int) a0 c6_1) (trivial)) ?_
    refine WX.ret ?_
    exact WC.outO (by rw [← Option.some.inj h]; kernel_rfl)
theorem slices_Clone_byte_byte_okP {a0 : (List Int)} {r : (List Int)} (h : slices_Clone_byte_byte a0 = some r) : Ans Tryd.prog 23 [slV (eI .u8) a0] (slV (eI .u8) r) := AnsO.ans (args := [slV (eI .u8) a0]) (slices_Clone_byte_byte_ok h) (by kernel_rfl)
def glushkov_none (k : Nat) (a0 : Int) : Option (api_Bits) :=
  (bits_New k a0 ([])).bind fun t2_2 => some t2_2.1
theorem glushkov_none_ok {k : Nat} {a0 : Int} {r : api_Bits} (h : glushkov_none k a0 = some r) : AnsO Tryd.prog 120 [] [.p (i6 (a0))] [(7, rW 58 r.Words)] (.agg [.p (i6 (r.N)), .own 7]) := by
  refine W_fnO [7] Tryd.func120 rfl (by kernel_rfl) (by kernel_rfl) (by kernel_rfl) (by kernel_rfl) ?_
  intro X hro hn
  unfold glushkov_none at h
  refine WC.rg hn [] [0, 2] [2] ⟨[(0, .p (i6 (a0))), (2, .ptr 2 0)], [(2, .box 25 [.p (i6 (0)), .p (.sl .nil 0 [])])], L0, []⟩ trivial ?_
  refine WX.seq ?_
  obtain ⟨t2_2, h2_1, h⟩ := bind_some h
  refine WC.r1 hn [(1, .co [] [] [] [(7, rW 58 t2_2.1.Words)] (.tup [.agg [.p (i6 (t2_2.1.N)), .own 7], .p (i6 (t2_2.2))]))] [2, 3] [2, 3, 7] ⟨[(2, .ptr 2 0), (3, .ptr 3 0)], [(2, .box 25 [.p (i6 (0)), .p (.sl .nil 0 [])]), (3, .box 25 [.p (i6 (t2_2.1.N)), .own 7]), (7, rW 58 t2_2.1.Words)], L0, []⟩ (And.intro (And.intro ((bits_New_ok h2_1).ren 17 7 (by kernel_rfl)) (trivial)) (trivial)) ?_
  refine WC.rg hn [] [2] [2, 7] ⟨[(2, .ptr 2 0)], [(2, .box 25 [.p (i6 (t2_2.1.N)), .own 7]), (7, rW 58 t2_2.1.Words)], L0, []⟩ trivial ?_
  refine WX.ret ?_
  exact WC.outO (by rw [← Option.some.inj h]; kernel_rfl)
theorem glushkov_none_okP {k : Nat} {a0 : Int} {r : api_Bits} (h : glushkov_none k a0 = some r) : Ans Tryd.prog 120 [i6 (a0)] (pP4 r) := AnsO.ans (args := [i6 (a0)]) (glushkov_none_ok h) (by kernel_rfl)
def glushkov_Empty (k : Nat)  : Option (api_Nfa) :=
  (glushkov_none k 0).bind fun t2_2 => (glushkov_none k 0).bind fun t2_4 => some ((api_Nfa.mk ([]) t2_2 t2_4 ([]) true))
theorem glushkov_Empty_ok {k : Nat}  {r : api_Nfa} (h : glushkov_Empty k = some r) : AnsO Tryd.prog 103 [] [] [(1, rW 58 r.First.Words), (2, rW 58 r.Last.Words)] (.agg [.p (sC r.Classes), .p (i6 (r.First.N)), .own 1, .p (i6 (r.Last.N)), .own 2, .p (sB r.Follow), .p (bo (r.Null))]) := by
  refine W_fnO [1, 2] Tryd.func103 rfl (by kernel_rfl) (by kernel_rfl) (by kernel_rfl) (by kernel_rfl) ?_
  intro X hro hn
  unfold glushkov_Empty at h
  refine WC.rg hn [] [0] [0] ⟨[(0, .ptr 0 0)], [(0, .box 28 [.p (.sl .nil 0 []), .p (i6 (0)), .p (.sl .nil 0 []), .p (i6 (0)), .p (.sl .nil 0 []), .p (.sl .nil 0 []), .p (bo (false))])], L0, []⟩ trivial ?_
  refine WX.seq ?_
  obtain ⟨t2_2, h2_1, h⟩ := bind_some h
  obtain ⟨t2_4, h2_3, h⟩ := bind_some h
  refine WC.r1 hn [(0, .co [] [] [] [(1, rW 58 t2_2.Words)] (.agg [.p (i6 (t2_2.N)), .own 1])), (1, .co [] [] [] [(2, rW 58 t2_4.Words)] (.agg [.p (i6 (t2_4.N)), .own 2]))] [0] [0, 1, 2] ⟨[(0, .ptr 0 0)], [(0, .box 28 [.p (.sl .nil 0 []), .p (i6 (t2_2.N)), .own 1, .p (i6 (t2_4.N)), .own 2, .p (.sl .nil 0 []), .p (bo (true))]), (1, rW 58 t2_2.Words), (2, rW 58 t2_4.Words)], L0, []⟩ (And.intro (And.intro ((glushkov_none_ok h2_1).ren 7 1 (by kernel_rfl)) (trivial)) (And.intro (And.intro ((glushkov_none_ok h2_3).ren 7 2 (by kernel_rfl)) (trivial)) (trivial))) ?_
  refine WX.ret ?_
  exact WC.outO (by rw [← Option.some.inj h]; kernel_rfl)
theorem glushkov_Empty_okP {k : Nat}  {r : api_Nfa} (h : glushkov_Empty k = some r) : Ans Tryd.prog 103 [] (pP1 r) := AnsO.ans (args := []) (glushkov_Empty_ok h) (by kernel_rfl)
def nfa_may (k : Nat) (a0 : api_Nfa) : Option (api_Nfa) :=
  (glushkov_Check k a0).bind fun t2_2 => (if (t2_2 != 0) = true then (glushkov_Empty k).bind fun t4_2 => some ((api_Nfa.mk t4_2.Classes t4_2.First t4_2.Last t4_2.Follow false)) else some a0)
theorem nfa_may_ok {k : Nat} {a0 : api_Nfa} {r : api_Nfa} (h : nfa_may k a0 = some r) : Ans Tryd.prog 76 [pP1 a0] (pP1 r) := by
  refine W_fn Tryd.func76 rfl (by kernel_rfl) (by kernel_rfl) ?_
  intro X hro hn
  unfold nfa_may at h
  refine WC.rg hn [] [1, 2] [1, 2] ⟨[(1, .ptr 1 0), (2, .ptr 2 0)], [(1, .box 28 (vV1 a0)), (2, .box 28 [.p (.sl .nil 0 []), .p (i6 (0)), .p (.sl .nil 0 []), .p (i6 (0)), .p (.sl .nil 0 []), .p (.sl .nil 0 []), .p (bo (false))])], L0, []⟩ trivial ?_
  refine WX.seq ?_
  refine WX.seq ?_
  obtain ⟨t2_2, h2_1, h⟩ := bind_some h
  refine WC.r1 hn [(1, .resP (i6 (t2_2)))] [1, 2, 5] [1, 2] ⟨[(1, .ptr 1 0), (2, .ptr 2 0), (5, .p (bo (((t2_2 != 0)))))], [(1, .box 28 (vV1 a0)), (2, .box 28 [.p (.sl .nil 0 []), .p (i6 (0)), .p (.sl .nil 0 []), .p (i6 (0)), .p (.sl .nil 0 []), .p (.sl .nil 0 []), .p (bo (false))])], L0, []⟩ (And.intro ((glushkov_Check_ok h2_1)) (trivial)) ?_
  rcases if_or h with ⟨c3, h⟩ | ⟨c3, h⟩
  · refine WC.condT c3 (by kernel_rfl) ?_
    refine WX.seq ?_
    obtain ⟨t4_2, h4_1, h⟩ := bind_some h
    refine WC.r1 hn [(0, .co [] [] [] [(6, rW 58 t4_2.First.Words), (8, rW 58 t4_2.Last.Words)] (.agg [.p (sC t4_2.Classes), .p (i6 (t4_2.First.N)), .own 6, .p (i6 (t4_2.Last.N)), .own 8, .p (sB t4_2.Follow), .p (bo (t4_2.Null))]))] [1, 2] [1, 2, 6, 8] ⟨[(1, .ptr 1 0), (2, .ptr 2 0)], [(1, .box 28 [.p (sC t4_2.Classes), .p (i6 (t4_2.First.N)), .own 6, .p (i6 (t4_2.Last.N)), .own 8, .p (sB t4_2.Follow), .p (bo (t4_2.Null))]), (2, .box 28 [.p (.sl .nil 0 []), .p (i6 (0)), .p (.sl .nil 0 []), .p (i6 (0)), .p (.sl .nil 0 []), .p (.sl .nil 0 []), .p (bo (false))]), (6, rW 58 t4_2.First.Words), (8, rW 58 t4_2.Last.Words)], L0, []⟩ (And.intro (And.intro (((glushkov_Empty_ok h4_1).ren 1 6 (by kernel_rfl)).ren 2 8 (by kernel_rfl)) (trivial)) (trivial)) ?_
    refine WC.r1 hn [] [1, 2] [1, 2, 6, 8] ⟨[(1, .ptr 1 0), (2, .ptr 2 0)], [(1, .box 28 [.p (sC t4_2.Classes), .p (i6 (t4_2.First.N)), .own 6, .p (i6 (t4_2.Last.N)), .own 8, .p (sB t4_2.Follow), .p (bo (false))]), (2, .box 28 [.p (.sl .nil 0 []), .p (i6 (0)), .p (.sl .nil 0 []), .p (i6 (0)), .p (.sl .nil 0 []), .p (.sl .nil 0 []), .p (bo (false))]), (6, rW 58 t4_2.First.Words), (8, rW 58 t4_2.Last.Words)], L0, []⟩ trivial ?_
    refine WC.rg hn [] [2] [2, 6, 8] ⟨[(2, .ptr 2 0)], [(2, .box 28 [.p (sC t4_2.Classes), .p (i6 (t4_2.First.N)), .own 6, .p (i6 (t4_2.Last.N)), .own 8, .p (sB t4_2.Follow), .p (bo (false))]), (6, rW 58 t4_2.First.Words), (8, rW 58 t4_2.Last.Words)], L0, []⟩ trivial ?_
    refine WX.ret ?_
    exact WC.outP (by rw [← Option.some.inj h]; kernel_rfl)
  · refine WC.condF c3 (by kernel_rfl) ?_
    refine WX.skip ?_
    refine WC.rg hn [] [2] [2] ⟨[(2, .ptr 2 0)], [(2, .box 28 (vV1 a0))], L0, []⟩ trivial ?_
    refine WX.ret ?_
    exact WC.outP (by rw [← Option.some.inj h]; kernel_rfl)
def nfa_None (k : Nat) (a0 : api_Nfa) : Option (api_Bits) :=
  (nfa_may k a0).bind fun t2_2 => (bits_New k ((t2_2.Classes.length : Int)) ([])).bind fun t2_4 => some t2_4.1
theorem nfa_None_ok {k : Nat} {a0 : api_Nfa} {r : api_Bits} (h : nfa_None k a0 = some r) : AnsO Tryd.prog 39 [] [.p (pP1 a0)] [(10, rW 58 r.Words)] (.agg [.p (i6 (r.N)), .own 10]) := by
  refine W_fnO [10] Tryd.func39 rfl (by kernel_rfl) (by kernel_rfl) (by kernel_rfl) (by kernel_rfl) ?_
  intro X hro hn
  unfold nfa_None at h
  refine WC.rg hn [] [1, 2] [1, 2] ⟨[(1, .ptr 1 0), (2, .ptr 2 0)], [(1, .box 28 (vV1 a0)), (2, .box 25 [.p (i6 (0)), .p (.sl .nil 0 [])])], L0, []⟩ trivial ?_
  refine WX.seq ?_
  obtain ⟨t2_2, h2_1, h⟩ := bind_some h
  obtain ⟨t2_4, h2_3, h⟩ := bind_some h
  refine WC.r1 hn [(1, .resP (pP1 t2_2)), (4, .co [] [] [] [(10, rW 58 t2_4.1.Words)] (.tup [.agg [.p (i6 (t2_4.1.N)), .own 10], .p (i6 (t2_4.2))]))] [2, 3] [2, 3, 10] ⟨[(2, .ptr 2 0), (3, .ptr 3 0)], [(2, .box 25 [.p (i6 (0)), .p (.sl .nil 0 [])]), (3, .box 25 [.p (i6 (t2_4.1.N)), .own 10]), (10, rW 58 t2_4.1.Words)], L0, []⟩ (And.intro ((nfa_may_ok h2_1)) (And.intro (And.intro ((bits_New_ok h2_3).ren 17 10 (by kernel_rfl)) (trivial)) (trivial))) ?_
  refine WC.rg hn [] [2] [2, 10] ⟨[(2, .ptr 2 0)], [(2, .box 25 [.p (i6 (t2_4.1.N)), .own 10]), (10, rW 58 t2_4.1.Words)], L0, []⟩ trivial ?_
  refine WX.ret ?_
  exact WC.outO (by rw [← Option.some.inj h]; kernel_rfl)
theorem nfa_None_okP {k : Nat} {a0 : api_Nfa} {r : api_Bits} (h : nfa_None k a0 = some r) : Ans Tryd.prog 39 [pP1 a0] (pP4 r) := AnsO.ans (args := [pP1 a0]) (nfa_None_ok h) (by kernel_rfl)
def nfa_state (k : Nat) (a0 : api_Nfa) (a1 : api_Bits) : Option (api_Bits) :=
  (bits_Check a1).bind fun t2_2 => (if (((t2_2 != 0)) || ((a1.N != (a0.Classes.length : Int)))) = true then (nfa_None k a0).bind fun t4_2 => some t4_2 else some a1)
theorem nfa_state_ok {k : Nat} {a0 : api_Nfa} {a1 : api_Bits} {r : api_Bits} (h : nfa_state k a0 a1 = some r) : Ans Tryd.prog 78 [pP1 a0, pP4 a1] (pP4 r) := by
  refine W_fn Tryd.func78 rfl (by kernel_rfl) (by kernel_rfl) ?_
  intro X hro hn
  unfold nfa_state at h
  refine WC.rg hn [] [2, 3, 4] [2, 3, 4] ⟨[(2, .ptr 2 0), (3, .ptr 3 0), (4, .ptr 4 0)], [(2, .box 28 (vV1 a0)), (3, .box 25 (vV4 a1)), (4, .box 25 [.p (i6 (0)), .p (.sl .nil 0 [])])], L0, []⟩ trivial ?_
  refine WX.seq ?_
  refine WX.seq ?_
  obtain ⟨t2_2, h2_1, h⟩ := bind_some h
  refine WC.via (α := Bool) (fun v2 => ⟨[(2, .ptr 2 0), (3, .ptr 3 0), (4, .ptr 4 0), (15, .p (bo (v2)))], [(2, .box 28 (vV1 a0)), (3, .box 25 (vV4 a1)), (4, .box 25 [.p (i6 (0)), .p (.sl .nil 0 [])])], L0, []⟩) ((((t2_2 != 0)) || ((a1.N != (a0.Classes.length : Int))))) (fun hk => ?_) ?_
  · rcases Bool.eq_false_or_eq_true ((t2_2 != 0)) with b2_3 | b2_3
    · exact WC.reg hn [(1, .resP (i6 (t2_2))), (3, .val (.p (bo (true))))] [2, 3, 4, 15] [2, 3, 4] ⟨[(2, .ptr 2 0), (3, .ptr 3 0), (4, .ptr 4 0), (15, .p (bo (true)))], [(2, .box 28 (vV1 a0)), (3, .box 25 (vV4 a1)), (4, .box 25 [.p (i6 (0)), .p (.sl .nil 0 [])])], L0, []⟩ (And.intro ((bits_Check_ok h2_1)) (And.intro (Bl b2_3) (trivial))) (by kernel_rfl) (hk true (by first | (rw [b2_3]; rfl) | simp [b2_3]))
    · exact WC.reg hn [(1, .resP (i6 (t2_2))), (3, .val (.p (bo (false))))] [2, 3, 4, 15] [2, 3, 4] ⟨[(2, .ptr 2 0), (3, .ptr 3 0), (4, .ptr 4 0), (15, .p (bo (((a1.N != (a0.Classes.length : Int))))))], [(2, .box 28 (vV1 a0)), (3, .box 25 (vV4 a1)), (4, .box 25 [.p (i6 (0)), .p (.sl .nil 0 [])])], L0, []⟩ (And.intro ((bits_Check_ok h2_1)) (And.intro (Bl b2_3) (trivial))) (by kernel_rfl) (hk ((a1.N != (a0.Classes.length : Int))) (by first | (rw [b2_3]; rfl) | simp [b2_3]))
  rcases if_or h with ⟨c3, h⟩ | ⟨c3, h⟩
  · refine WC.condT c3 (by kernel_rfl) ?_
    refine WX.seq ?_
    obtain ⟨t4_2, h4_1, h⟩ := bind_some h
    refine WC.r1 hn [(1, .co [] [] [] [(17, rW 58 t4_2.Words)] (.agg [.p (i6 (t4_2.N)), .own 17]))] [4] [4, 17] ⟨[(4, .ptr 4 0)], [(4, .box 25 [.p (i6 (t4_2.N)), .own 17]), (17, rW 58 t4_2.Words)], L0, []⟩ (And.intro (And.intro ((nfa_None_ok h4_1).ren 10 17 (by kernel_rfl)) (trivial)) (trivial)) ?_
    refine WX.ret ?_
    exact WC.outP (by rw [← Option.some.inj h]; kernel_rfl)
  · refine WC.condF c3 (by kernel_rfl) ?_
    refine WX.skip ?_
    refine WC.rg hn [] [4] [4] ⟨[(4, .ptr 4 0)], [(4, .box 25 (vV4 a1))], L0, []⟩ trivial ?_
    refine WX.ret ?_
    exact WC.outP (by rw [← Option.some.inj h]; kernel_rfl)
def nfa_Dead (k : Nat) (a0 : api_Nfa) (a1 : api_Bits) : Option (Bool) :=
  (nfa_may k a0).bind fun t2_2 => (nfa_state k t2_2 a1).bind fun t3_2 => (bits_First k t3_2 0).bind fun t3_4 => some ((!t3_4.2))
theorem nfa_Dead_ok {k : Nat} {a0 : api_Nfa} {a1 : api_Bits} {r : Bool} (h : nfa_Dead k a0 a1 = some r) : Ans Tryd.prog 40 [pP1 a0, pP4 a1] (bo (r)) := by
  refine W_fn Tryd.func40 rfl (by kernel_rfl) (by kernel_rfl) ?_
  intro X hro hn
  unfold nfa_Dead at h
  refine WC.rg hn [] [2, 3] [2, 3] ⟨[(2, .ptr 2 0), (3, .ptr 3 0)], [(2, .box 28 (vV1 a0)), (3, .box 25 (vV4 a1))], L0, []⟩ trivial ?_
  refine WX.seq ?_
  obtain ⟨t2_2, h2_1, h⟩ := bind_some h
  refine WC.r1 hn [(1, .resP (pP1 t2_2))] [2, 3] [2, 3] ⟨[(2, .ptr 2 0), (3, .ptr 3 0)], [(2, .box 28 (vV1 t2_2)), (3, .box 25 (vV4 a1))], L0, []⟩ (And.intro ((nfa_may_ok h2_1)) (trivial)) ?_
  refine WX.seq ?_
  obtain ⟨t3_2, h3_1, h⟩ := bind_some h
  obtain ⟨t3_4, h3_3, h⟩ := bind_some h
  refine WC.r1 hn [(2, .resP (pP4 t3_2)), (3, .resP (.tup [i6 (t3_4.1), bo (t3_4.2)]))] [6] [] ⟨[(6, .p (bo (t3_4.2)))], [], L0, []⟩ (And.intro ((nfa_state_ok h3_1)) (And.intro ((bits_First_ok h3_3)) (trivial))) ?_
  refine WC.rg hn [] [4] [] ⟨[(4, .p (bo (((!t3_4.2)))))], [], L0, []⟩ trivial ?_
  refine WX.ret ?_
  exact WC.outP (by rw [← Option.some.inj h]; kernel_rfl)
def bits_fit (a0 : api_Bits) (a1 : Int) : Option (api_Bits) :=
  (bits_empty a1).bind fun t2_2 => (if (decide ((a1.tmod 64) > 0)) = true then (at_ (cpy t2_2.Words a0.Words) ((IntKind.i64.wrap (((cpy t2_2.Words a0.Words).length : Int) - 1)))).bind fun t7_2 => (if ¬ (a1.tmod 64) < 0 then some ((api_Bits.mk t2_2.N ((cpy t2_2.Words a0.Words).set ((IntKind.i64.wrap (((cpy t2_2.Words a0.Words).length : Int) - 1))).toNat ((bits .and .u64 t7_2 ((IntKind.u64.wrap ((IntKind.u64.wrap (1 * 2 ^ (min ((a1.tmod 64)).toNat IntKind.u64.bits))) - 1)))))))) else none) else some ((api_Bits.mk t2_2.N (cpy t2_2.Words a0.Words))))
theorem bits_fit_ok {a0 : api_Bits} {a1 : Int} {r : api_Bits} (h : bits_fit a0 a1 = some r) : AnsO Tryd.prog 126 [] [.p (pP4 a0), .p (i6 (a1))] [(8, rW 58 r.Words)] (.agg [.p (i6 (r.N)), .own 8]) := by
  refine W_fnO [8] Tryd.func126 rfl (by kernel_rfl) (by kernel_rfl) (by kernel_rfl) (by kernel_rfl) ?_
  intro X hro hn
  unfold bits_fit at h
  refine WC.rg hn [] [1, 2, 4] [2, 4] ⟨[(1, .p (i6 (a1))), (2, .ptr 2 0), (4, .ptr 4 0)], [(2, .box 25 (vV4 a0)), (4, .box 25 [.p (i6 (0)), .p (.sl .nil 0 [])])], L0, []⟩ trivial ?_
  refine WX.seq ?_
  obtain ⟨t2_2, h2_1, h⟩ := bind_some h
  refine WC.r1 hn [(1, .co [] [] [] [(8, rW 58 t2_2.Words)] (.agg [.p (i6 (t2_2.N)), .own 8]))] [1, 2, 4, 5] [2, 4, 5, 8] ⟨[(1, .p (i6 (a1))), (2, .ptr 2 0), (4, .ptr 4 0), (5, .ptr 5 0)], [(2, .box 25 (vV4 a0)), (4, .box 25 [.p (i6 (0)), .p (.sl .nil 0 [])]), (5, .box 25 [.p (i6 (t2_2.N)), .own 8]), (8, rW 58 t2_2.Words)], L0, []⟩ (And.intro (And.intro ((bits_empty_ok h2_1).ren 6 8 (by kernel_rfl)) (trivial)) (trivial)) ?_
  refine WC.rg hn [(4, .cpy 8 (rW 58 (cpy t2_2.Words a0.Words)) (min a0.Words.length t2_2.Words.length))] [1, 4, 5] [4, 5, 8] ⟨[(1, .p (i6 (a1))), (4, .ptr 4 0), (5, .ptr 5 0)], [(4, .box 25 [.p (i6 (0)), .p (.sl .nil 0 [])]), (5, .box 25 [.p (i6 (t2_2.N)), .own 8]), (8, rW 58 (cpy t2_2.Words a0.Words))], L0, []⟩ (And.intro (Cp (eI .u64) 8 58 t2_2.Words a0.Words) (trivial)) ?_
  refine WX.seq ?_
  refine WC.rg hn [] [4, 5, 6] [4, 5, 8] ⟨[(4, .ptr 4 0), (5, .ptr 5 0), (6, .p (i6 (((a1.tmod 64)))))], [(4, .box 25 [.p (i6 (0)), .p (.sl .nil 0 [])]), (5, .box 25 [.p (i6 (t2_2.N)), .own 8]), (8, rW 58 (cpy t2_2.Words a0.Words))], L0, []⟩ trivial ?_
  refine WC.rg hn [] [4, 5, 6, 17] [4, 5, 8] ⟨[(4, .ptr 4 0), (5, .ptr 5 0), (6, .p (i6 (((a1.tmod 64))))), (17, .p (bo (((decide ((a1.tmod 64) > 0))))))], [(4, .box 25 [.p (i6 (0)), .p (.sl .nil 0 [])]), (5, .box 25 [.p (i6 (t2_2.N)), .own 8]), (8, rW 58 (cpy t2_2.Words a0.Words))], L0, []⟩ trivial ?_
  rcases if_or h with ⟨c6, h⟩ | ⟨c6, h⟩
  · refine WC.condT c6 (by kernel_rfl) ?_
    obtain ⟨t7_2, h7_1, h⟩ := bind_some h
    obtain ⟨c7_3, h⟩ := if_some h
    refine WC.drw hn [(13, [])] [] [(6, .val (.ptr 8 (((IntKind.i64.wrap (((cpy t2_2.Words a0.Words).length : Int) - 1))).toNat * 1))), (7, .val (.p (u6 (t7_2)))), (9, .val (.p (u6 ((IntKind.u64.wrap (1 * 2 ^ (min ((a1.tmod 64)).toNat IntKind.u64.bits))))))), (12, .val (.ptr 8 (((IntKind.i64.wrap (((cpy t2_2.Words a0.Words).length : Int) - 1))).toNat * 1))), (13, .sto 8 (rW 58 ((cpy t2_2.Words a0.Words).set ((IntKind.i64.wrap (((cpy t2_2.Words a0.Words).length : Int) - 1))).toNat ((bits .and .u64 t7_2 ((IntKind.u64.wrap ((IntKind.u64.wrap (1 * 2 ^ (min ((a1.tmod 64)).toNat IntKind.u64.bits))) - 1))))))))] [4, 5] [4, 5, 8] ⟨[(4, .ptr 4 0), (5, .ptr 5 0)], [(4, .box 25 [.p (i6 (0)), .p (.sl .nil 0 [])]), (5, .box 25 [.p (i6 (t2_2.N)), .own 8]), (8, rW 58 ((cpy t2_2.Words a0.Words).set ((IntKind.i64.wrap (((cpy t2_2.Words a0.Words).length : Int) - 1))).toNat ((bits .and .u64 t7_2 ((IntKind.u64.wrap ((IntKind.u64.wrap (1 * 2 ^ (min ((a1.tmod 64)).toNat IntKind.u64.bits))) - 1)))))))], L0, []⟩ (And.intro (IxO 8 1 h7_1) (And.intro (LdO0 Tryd.prog (eI .u64) 58 h7_1) (And.intro (Shl .u64 1 ((a1.tmod 64)) c7_3) (And.intro (IxO 8 1 h7_1) (And.intro (StO0 (eI .u64) 8 58 1 1 [u6 (((bits .and .u64 t7_2 ((IntKind.u64.wrap ((IntKind.u64.wrap (1 * 2 ^ (min ((a1.tmod 64)).toNat IntKind.u64.bits))) - 1))))))] ((bits .and .u64 t7_2 ((IntKind.u64.wrap ((IntKind.u64.wrap (1 * 2 ^ (min ((a1.tmod 64)).toNat IntKind.u64.bits))) - 1))))) h7_1 rfl rfl (by decide)) (trivial)))))) (by kernel_rfl) (by kernel_rfl) (by kernel_rfl) (by kernel_rfl) ?_
    refine WC.rg hn [] [4] [4, 8] ⟨[(4, .ptr 4 0)], [(4, .box 25 [.p (i6 (t2_2.N)), .own 8]), (8, rW 58 ((cpy t2_2.Words a0.Words).set ((IntKind.i64.wrap (((cpy t2_2.Words a0.Words).length : Int) - 1))).toNat ((bits .and .u64 t7_2 ((IntKind.u64.wrap ((IntKind.u64.wrap (1 * 2 ^ (min ((a1.tmod 64)).toNat IntKind.u64.bits))) - 1)))))))], L0, []⟩ trivial ?_
    refine WX.ret ?_
    exact WC.outO (by rw [← Option.some.inj h]; kernel_rfl)
  · refine WC.condF c6 (by kernel_rfl) ?_
    refine WX.skip ?_
    refine WC.rg hn [] [4] [4, 8] ⟨[(4, .ptr 4 0)], [(4, .box 25 [.p (i6 (t2_2.N)), .own 8]), (8, rW 58 (cpy t2_2.Words a0.Words))], L0, []⟩ trivial ?_
    refine WX.ret ?_
    exact WC.outO (by rw [← Option.some.inj h]; kernel_rfl)
theorem bits_fit_okP {a0 : api_Bits} {a1 : Int} {r : api_Bits} (h : bits_fit a0 a1 = some r) : Ans Tryd.prog 126 [pP4 a0, i6 (a1)] (pP4 r) := AnsO.ans (args := [pP4 a0, i6 (a1)]) (bits_fit_ok h) (by kernel_rfl)
def bits_Or_1 (a0 : Int) (a1 : Int) : Option (Int) :=
  some ((bits .or .u64 a0 a1))
theorem bits_Or_1_ok {a0 : Int} {a1 : Int} {r : Int} (h : bits_Or_1 a0 a1 = some r) : Ans Tryd.prog 122 [u6 (a0), u6 (a1)] (u6 (r)) := by
  refine W_fn Tryd.func122 rfl (by kernel_rfl) (by kernel_rfl) ?_
  intro X hro hn
  unfold bits_Or_1 at h
  refine WC.rg hn [] [0, 1] [] ⟨[(0, .p (u6 (a0))), (1, .p (u6 (a1)))], [], L0, []⟩ trivial ?_
  refine WC.rg hn [] [4] [] ⟨[(4, .p (u6 (((bits .or .u64 a0 a1)))))], [], L0, []⟩ trivial ?_
  refine WX.ret ?_
  exact WC.outP (by rw [← Option.some.inj h]; kernel_rfl)
def bits_join_v1_l0 (t2_2 : api_Bits) (t3_4 : api_Bits) (J5 : List Int → Option (api_Bits)) : Nat → (Int × List Int) → Option (api_Bits)
  | 0, _ => none
  | k + 1, (x18_1_1, x18_1_2) => (if (decide (x18_1_1 < (t2_2.Words.length : Int))) = true then (at_ x18_1_2 x18_1_1).bind fun t32_2 => (at_ t3_4.Words x18_1_1).bind fun t32_4 => (bits_Or_1 t32_2 t32_4).bind fun t32_6 => bits_join_v1_l0 t2_2 t3_4 J5 k ((IntKind.i64.wrap (x18_1_1 + 1)), x18_1_2.set x18_1_1.toNat t32_6) else J5 x18_1_2)
def bits_join_v1 (k : Nat) (a0 : api_Bits) (a1 : api_Bits) (a2 : (Unit)) : Option (api_Bits) :=
  (bits_own a0).bind fun t2_2 => (bits_own a1).bind fun t3_2 => (bits_fit t3_2 t2_2.N).bind fun t3_4 => jn (fun (v5 : List Int) => some ((api_Bits.mk t2_2.N v5))) fun J5 => bits_join_v1_l0 t2_2 t3_4 J5 k (0, t2_2.Words)
theorem bits_join_v1_ok {k : Nat} {a0 : api_Bits} {a1 : api_Bits} {a2 : (Unit)} {r : api_Bits} (h : bits_join_v1 k a0 a1 a2 = some r) : AnsO Tryd.prog 121 [] [.p (pP4 a0), .p (pP4 a1), .p (.fn 122 [])] [(10, rW 58 r.Words)] (.agg [.p (i6 (r.N)), .own 10]) := by
  refine W_fnO [10] Tryd.func121 rfl (by kernel_rfl) (by kernel_rfl) (by kernel_rfl) (by kernel_rfl) ?_
  intro X hro hn
  unfold bits_join_v1 at h
  refine WC.rg hn [] [2, 3, 4, 6] [3, 4, 6] ⟨[(2, .p (.fn 122 [])), (3, .ptr 3 0), (4, .ptr 4 0), (6, .ptr 6 0)], [(3, .box 25 (vV4 a0)), (4, .box 25 (vV4 a1)), (6, .box 25 [.p (i6 (0)), .p (.sl .nil 0 [])])], L0, []⟩ trivial ?_
  refine WX.seq ?_
  obtain ⟨t2_2, h2_1, h⟩ := bind_some h
  refine WC.r1 hn [(1, .co [] [] [] [(10, rW 58 t2_2.Words)] (.agg [.p (i6 (t2_2.N)), .own 10]))] [2, 3, 4, 6] [3, 4, 6, 10] ⟨[(2, .p (.fn 122 [])), (3, .ptr 3 0), (4, .ptr 4 0), (6, .ptr 6 0)], [(3, .box 25 [.p (i6 (t2_2.N)), .own 10]), (4, .box 25 (vV4 a1)), (6, .box 25 [.p (i6 (0)), .p (.sl .nil 0 [])]), (10, rW 58 t2_2.Words)], L0, []⟩ (And.intro (And.intro ((bits_own_ok h2_1).ren 9 10 (by kernel_rfl)) (trivial)) (trivial)) ?_
  refine WX.seq ?_
  obtain ⟨t3_2, h3_1, h⟩ := bind_some h
  obtain ⟨t3_4, h3_3, h⟩ := bind_some h
  refine WC.drw hn [(6, [])] [7] [(1, .resP (pP4 t3_2)), (4, .resP (pP4 t3_4))] [2, 3, 6, 7] [3, 6, 7, 10] ⟨[(2, .p (.fn 122 [])), (3, .ptr 3 0), (6, .ptr 6 0), (7, .ptr 7 0)], [(3, .box 25 [.p (i6 (t2_2.N)), .own 10]), (6, .box 25 [.p (i6 (0)), .p (.sl .nil 0 [])]), (7, .box 25 (vV4 t3_4)), (10, rW 58 t2_2.Words)], L0, []⟩ (And.intro ((bits_own_okP h3_1)) (And.intro ((bits_fit_okP h3_3)) (trivial))) (by kernel_rfl) (by kernel_rfl) (by kernel_rfl) (by kernel_rfl) ?_
  refine WX.seq ?_
  refine WC.rg hn [] [2, 3, 6, 7, 18, 19] [3, 6, 7, 10] ⟨[(2, .p (.fn 122 [])), (3, .ptr 3 0), (6, .ptr 6 0), (7, .ptr 7 0), (18, .p (i6 (((t2_2.Words.length : Int))))), (19, .p (i6 (0)))], [(3, .box 25 [.p (i6 (t2_2.N)), .own 10]), (6, .box 25 [.p (i6 (0)), .p (.sl .nil 0 [])]), (7, .box 25 (vV4 t3_4)), (10, rW 58 t2_2.Words)], L0, []⟩ trivial ?_
  obtain ⟨J5, eJ5, h⟩ := jn_some h
  try dsimp only at h
  refine WC.join (α := List Int) (fun v5 => ⟨[(3, .ptr 3 0), (6, .ptr 6 0)], [(3, .box 25 [.p (i6 (t2_2.N)), .own 10]), (6, .box 25 [.p (i6 (0)), .p (.sl .nil 0 [])]), (10, rW 58 v5)], L0, []⟩) (fun v5 => J5 v5 = some r) ?_ (fun hJ5 => ?_)
  · rintro y5_1 h
    rw [eJ5] at h
    try dsimp only at h
    refine WC.rg hn [] [6] [6, 10] ⟨[(6, .ptr 6 0)], [(6, .box 25 [.p (i6 (t2_2.N)), .own 10]), (10, rW 58 y5_1)], L0, []⟩ trivial ?_
    refine WX.ret ?_
    exact WC.outO (by rw [← Option.some.inj h]; kernel_rfl)
  · replace hJ5 := fun y5_1 => hJ5 y5_1
    refine WX.block ?_
    refine WC.loop (V := Int × List Int) (bits_join_v1_l0 t2_2 t3_4 J5) r (fun v18 => ⟨[(2, .p (.fn 122 [])), (3, .ptr 3 0), (6, .ptr 6 0), (7, .ptr 7 0), (18, .p (i6 (((t2_2.Words.length : Int))))), (19, .p (i6 (v18.1)))], [(3, .box 25 [.p (i6 (t2_2.N)), .own 10]), (6, .box 25 [.p (i6 (0)), .p (.sl .nil 0 [])]), (7, .box 25 (vV4 t3_4)), (10, rW 58 v18.2)], L0, []⟩) _ (0, t2_2.Words) h (fun _ => rfl) [2, 3, 6, 7, 18, 19] [3, 6, 7, 10] (by kernel_rfl) ?_
    clear h; rintro k ⟨x18_1_1, x18_1_2⟩ h K18 hnext18 hexit18
    rw [bits_join_v1_l0] at h
    refine WC.rg hn [] [2, 3, 6, 7, 18, 19, 20] [3, 6, 7, 10] ⟨[(2, .p (.fn 122 [])), (3, .ptr 3 0), (6, .ptr 6 0), (7, .ptr 7 0), (18, .p (i6 (((t2_2.Words.length : Int))))), (19, .p (i6 (x18_1_1))), (20, .p (bo (((decide (x18_1_1 < (t2_2.Words.length : Int)))))))], [(3, .box 25 [.p (i6 (t2_2.N)), .own 10]), (6, .box 25 [.p (i6 (0)), .p (.sl .nil 0 [])]), (7, .box 25 (vV4 t3_4)), (10, rW 58 x18_1_2)], L0, []⟩ trivial ?_
    refine WX.seq ?_
    rcases if_or h with ⟨c30, h⟩ | ⟨c30, h⟩
    · refine WC.condT c30 (by kernel_rfl) ?_
      refine WX.skip ?_
      refine WX.seq ?_
      refine WX.block ?_
      refine WC.rg hn [] [2, 3, 6, 7, 8, 18, 19] [3, 6, 7, 10] ⟨[(2, .p (.fn 122 [])), (3, .ptr 3 0), (6, .ptr 6 0), (7, .ptr 7 0), (8, .p (i6 (x18_1_1))), (18, .p (i6 (((t2_2.Words.length : Int))))), (19, .p (i6 (x18_1_1)))], [(3, .box 25 [.p (i6 (t2_2.N)), .own 10]), (6, .box 25 [.p (i6 (0)), .p (.sl .nil 0 [])]), (7, .box 25 (vV4 t3_4)), (10, rW 58 x18_1_2)], L0, []⟩ trivial ?_
      obtain ⟨t32_2, h32_1, h⟩ := bind_some h
      obtain ⟨t32_4, h32_3, h⟩ := bind_some h
      obtain ⟨t32_6, h32_5, h⟩ := bind_some h
      refine WC.drw hn [(16, [])] [] [(7, .val (.ptr 10 (x18_1_1.toNat * 1))), (8, .val (.p (u6 (t32_2)))), (12, .val (.p (.rop ((eI .u64).cells t32_4 ++ encL (eI .u64) (t3_4.Words.drop (x18_1_1.toNat + 1)))))), (14, .resP (u6 (t32_6))), (15, .val (.ptr 10 (x18_1_1.toNat * 1))), (16, .sto 10 (rW 58 (x18_1_2.set x18_1_1.toNat t32_6)))] [2, 3, 6, 7, 18, 19] [3, 6, 7, 10] ⟨[(2, .p (.fn 122 [])), (3, .ptr 3 0), (6, .ptr 6 0), (7, .ptr 7 0), (18, .p (i6 (((t2_2.Words.length : Int))))), (19, .p (i6 (x18_1_1)))], [(3, .box 25 [.p (i6 (t2_2.N)), .own 10]), (6, .box 25 [.p (i6 (0)), .p (.sl .nil 0 [])]), (7, .box 25 (vV4 t3_4)), (10, rW 58 (x18_1_2.set x18_1_1.toNat t32_6))], L0, []⟩ (And.intro (IxO 10 1 h32_1) (And.intro (LdO0 Tryd.prog (eI .u64) 58 h32_1) (And.intro (Ix (eI .u64) h32_3) (And.intro ((bits_Or_1_ok h32_5)) (And.intro (IxO 10 1 h32_1) (And.intro (StO0 (eI .u64) 10 58 1 1 [u6 (t32_6)] t32_6 h32_1 rfl rfl (by decide)) (trivial))))))) (by kernel_rfl) (by kernel_rfl) (by kernel_rfl) (by kernel_rfl) ?_
      refine WX.popBlk ?_
      refine WC.r1 hn [] [2, 3, 6, 7, 18, 19] [3, 6, 7, 10] ⟨[(2, .p (.fn 122 [])), (3, .ptr 3 0), (6, .ptr 6 0), (7, .ptr 7 0), (18, .p (i6 (((t2_2.Words.length : Int))))), (19, .p (i6 (((IntKind.i64.wrap (x18_1_1 + 1))))))], [(3, .box 25 [.p (i6 (t2_2.N)), .own 10]), (6, .box 25 [.p (i6 (0)), .p (.sl .nil 0 [])]), (7, .box 25 (vV4 t3_4)), (10, rW 58 (x18_1_2.set x18_1_1.toNat t32_6))], L0, []⟩ trivial ?_
      exact WC.next [2, 3, 6, 7, 18, 19] [3, 6, 7, 10] (by kernel_rfl) (hnext18 ((IntKind.i64.wrap (x18_1_1 + 1)), x18_1_2.set x18_1_1.toNat t32_6) h)
    · refine WC.condF c30 (by kernel_rfl) ?_
      refine WX.exit ?_
      refine WX.popCodeExit ?_
      refine WC.exit_nil (hexit18 _ _ (by simp) ?_)
      refine WX.popBlkHit ?_
      exact WC.keep [3, 6] [3, 6, 10] (by kernel_rfl) (hJ5 x18_1_2 h)
theorem bits_join_v1_okP {k : Nat} {a0 : api_Bits} {a1 : api_Bits} {a2 : (Unit)} {r : api_Bits} (h : bits_join_v1 k a0 a1 a2 = some r) : Ans Tryd.prog 121 [pP4 a0, pP4 a1, .fn 122 []] (pP4 r) := AnsO.ans (args := [pP4 a0, pP4 a1, .fn 122 []]) (bits_join_v1_ok h) (by kernel_rfl)
def bits_Or (k : Nat) (a0 : api_Bits) (a1 : api_Bits) : Option (api_Bits) :=
  (bits_join_v1 k a0 a1 (())).bind fun t2_2 => some t2_2
theorem bits_Or_ok {k : Nat} {a0 : api_Bits} {a1 : api_Bits} {r : api_Bits} (h : bits_Or k a0 a1 = some r) : AnsO Tryd.prog 106 [] [.p (pP4 a0), .p (pP4 a1)] [(7, rW 58 r.Words)] (.agg [.p (i6 (r.N)), .own 7]) := by
  refine W_fnO [7] Tryd.func106 rfl (by kernel_rfl) (by kernel_rfl) (by kernel_rfl) (by kernel_rfl) ?_
  intro X hro hn
  unfold bits_Or at h
  refine WC.rg hn [] [2, 3, 4] [2, 3, 4] ⟨[(2, .ptr 2 0), (3, .ptr 3 0), (4, .ptr 4 0)], [(2, .box 25 (vV4 a0)), (3, .box 25 (vV4 a1)), (4, .box 25 [.p (i6 (0)), .p (.sl .nil 0 [])])], L0, []⟩ trivial ?_
  refine WX.seq ?_
  obtain ⟨t2_2, h2_1, h⟩ := bind_some h
  refine WC.r1 hn [(2, .co [] [] [] [(7, rW 58 t2_2.Words)] (.agg [.p (i6 (t2_2.N)), .own 7]))] [4] [4, 7] ⟨[(4, .ptr 4 0)], [(4, .box 25 [.p (i6 (t2_2.N)), .own 7]), (7, rW 58 t2_2.Words)], L0, []⟩ (And.intro (And.intro ((bits_join_v1_ok h2_1).ren 10 7 (by kernel_rfl)) (trivial)) (trivial)) ?_
  refine WX.ret ?_
  exact WC.outO (by rw [← Option.some.inj h]; kernel_rfl)
theorem bits_Or_okP {k : Nat} {a0 : api_Bits} {a1 : api_Bits} {r : api_Bits} (h : bits_Or k a0 a1 = some r) : Ans Tryd.prog 106 [pP4 a0, pP4 a1] (pP4 r) := AnsO.ans (args := [pP4 a0, pP4 a1]) (bits_Or_ok h) (by kernel_rfl)
def class_Has (a0 : (Arr4 Int)) (a1 : Int) : Option (Bool) :=
  (if 0 ≤ (a1.fdiv (2 ^ 6)) ∧ (a1.fdiv (2 ^ 6)) < 4 then (if ¬ (bits .and .u8 a1 63) < 0 then some (((bits .and .u64 ((((get4 a0.a0 a0.a1 a0.a2 a0.a3 ((a1.fdiv (2 ^ 6))))).fdiv (2 ^ (min ((bits .and .u8 a1 63)).toNat IntKind.u64.bits)))) 1) == 1)) else none) else none)
theorem class_Has_ok {a0 : (Arr4 Int)} {a1 : Int} {r : Bool} (h : class_Has a0 a1 = some r) : Ans Tryd.prog 107 [.agg [u6 (a0.a0), u6 (a0.a1), u6 (a0.a2), u6 (a0.a3)], .s (.int .u8 a1)] (bo (r)) := by
  refine W_fn Tryd.func107 rfl (by kernel_rfl) (by kernel_rfl) ?_
  intro X hro hn
  unfold class_Has at h
  refine WC.rg hn [] [1, 2] [2] ⟨[(1, .p (.s (.int .u8 a1))), (2, .ptr 2 0)], [(2, .box 60 [.p (u6 (a0.a0)), .p (u6 (a0.a1)), .p (u6 (a0.a2)), .p (u6 (a0.a3))])], L0, []⟩ trivial ?_
  refine WX.seq ?_
  obtain ⟨c2_1, h⟩ := if_some h
  obtain ⟨c2_2, h⟩ := if_some h
  refine WC.r1 hn [(2, .val (.ptr 2 (0 + ((a1.fdiv (2 ^ 6))).toNat * 1))), (3, .val (.p (u6 (((get4 a0.a0 a0.a1 a0.a2 a0.a3 ((a1.fdiv (2 ^ 6))))))))), (6, .val (.p (u6 ((((get4 a0.a0 a0.a1 a0.a2 a0.a3 ((a1.fdiv (2 ^ 6))))).fdiv (2 ^ (min ((bits .and .u8 a1 63)).toNat IntKind.u64.bits)))))))] [4] [] ⟨[(4, .p (bo ((((bits .and .u64 ((((get4 a0.a0 a0.a1 a0.a2 a0.a3 ((a1.fdiv (2 ^ 6))))).fdiv (2 ^ (min ((bits .and .u8 a1 63)).toNat IntKind.u64.bits)))) 1) == 1)))))], [], L0, []⟩ (And.intro (IxA4 2 0 ((a1.fdiv (2 ^ 6))) c2_1) (And.intro (LdA4 Tryd.prog 58 [] .u64 a0.a0 a0.a1 a0.a2 a0.a3 [] ((a1.fdiv (2 ^ 6))) c2_1 rfl rfl) (And.intro (Shr .u64 ((get4 a0.a0 a0.a1 a0.a2 a0.a3 ((a1.fdiv (2 ^ 6))))) ((bits .and .u8 a1 63)) c2_2) (trivial)))) ?_
  refine WX.ret ?_
  exact WC.outP (by rw [← Option.some.inj h]; kernel_rfl)
def nfa_step_l1 (k : Nat) (a0 : api_Nfa) (a3 : Int) : List Int → (Int × List Int) → Option (api_Bits)
  | [], (x43_1_1, x43_1_2) => some ((api_Bits.mk x43_1_1 x43_1_2))
  | x43 :: xs43, (x43_1_1, x43_1_2) => (at_ a0.Classes x43).bind fun t56_2 => (class_Has t56_2 a3).bind fun t56_4 => (if t56_4 = true then (bits_With ((api_Bits.mk x43_1_1 x43_1_2)) x43).bind fun t58_2 => nfa_step_l1 k a0 a3 xs43 (t58_2.N, t58_2.Words) else nfa_step_l1 k a0 a3 xs43 (x43_1_1, x43_1_2))
def nfa_step_l0 (k : Nat) (a0 : api_Nfa) (a3 : Int) : List Int → (Int × List Int) → Option (api_Bits)
  | [], (x8_1_1, x8_1_2) => (nfa_None k a0).bind fun t41_2 => (bits_All ((api_Bits.mk x8_1_1 x8_1_2))).bind fun t42_2 => (bits_All_1_v1 k t42_2).bind fun l43 => nfa_step_l1 k a0 a3 l43 (t41_2.N, t41_2.Words)
  | x8 :: xs8, (x8_1_1, x8_1_2) => (at_ a0.Follow x8).bind fun t60_2 => (bits_Or k ((api_Bits.mk x8_1_1 x8_1_2)) t60_2).bind fun t60_4 => nfa_step_l0 k a0 a3 xs8 (t60_4.N, t60_4.Words)
def nfa_step (k : Nat) (a0 : api_Nfa) (a1 : api_Bits) (a2 : Bool) (a3 : Int) : Option (api_Bits) :=
  (nfa_None k a0).bind fun t2_2 => jn (fun (v4 : Int × List Int) => (bits_All a1).bind fun t7_2 => (bits_All_1_v1 k t7_2).bind fun l8 => nfa_step_l0 k a0 a3 l8 (v4.1, v4.2)) fun J4 => (if a2 = true then (bits_Or k t2_2 a0.First).bind fun t62_2 => J4 (t62_2.N, t62_2.Words) else J4 (t2_2.N, t2_2.Words))
theorem nfa_step_ok {k : Nat} {a0 : api_Nfa} {a1 : api_Bits} {a2 : Bool} {a3 : Int} {r : api_Bits} (h : nfa_step k a0 a1 a2 a3 = some r) : AnsO Tryd.prog 79 [] [.p (pP1 a0), .p (pP4 a1), .p (bo (a2)), .p (.s (.int .u8 a3))] [(31, rW 58 r.Words)] (.agg [.p (i6 (r.N)), .own 31]) := by
  refine W_fnO [31] Tryd.func79 rfl (by kernel_rfl) (by kernel_rfl) (by kernel_rfl) (by kernel_rfl) ?_
  intro X hro hn
  unfold nfa_step at h
  refine WC.rg hn [] [2, 4, 5, 7, 8] [4, 5, 7, 8] ⟨[(2, .p (bo (a2))), (4, .ptr 4 0), (5, .ptr 5 0), (7, .ptr 7 0), (8, .ptr 8 0)], [(4, .box 28 (vV1 a0)), (5, .box 25 (vV4 a1)), (7, .box 5 [.p (.s (.int .u8 a3))]), (8, .box 25 [.p (i6 (0)), .p (.sl .nil 0 [])])], L0, []⟩ trivial ?_
  refine WX.seq ?_
  obtain ⟨t2_2, h2_1, h⟩ := bind_some h
  refine WC.r1 hn [(1, .co [] [] [] [(14, rW 58 t2_2.Words)] (.agg [.p (i6 (t2_2.N)), .own 14]))] [2, 4, 5, 7, 8, 9] [4, 5, 7, 8, 9, 14] ⟨[(2, .p (bo (a2))), (4, .ptr 4 0), (5, .ptr 5 0), (7, .ptr 7 0), (8, .ptr 8 0), (9, .ptr 9 0)], [(4, .box 28 (vV1 a0)), (5, .box 25 (vV4 a1)), (7, .box 5 [.p (.s (.int .u8 a3))]), (8, .box 25 [.p (i6 (0)), .p (.sl .nil 0 [])]), (9, .box 25 [.p (i6 (t2_2.N)), .own 14]), (14, rW 58 t2_2.Words)], L0, []⟩ (And.intro (And.intro ((nfa_None_ok h2_1).ren 10 14 (by kernel_rfl)) (trivial)) (trivial)) ?_
  refine WX.seq ?_
  refine WC.rg hn [] [4, 5, 7, 8, 9, 15] [4, 5, 7, 8, 9, 14] ⟨[(4, .ptr 4 0), (5, .ptr 5 0), (7, .ptr 7 0), (8, .ptr 8 0), (9, .ptr 9 0), (15, .p (bo (a2)))], [(4, .box 28 (vV1 a0)), (5, .box 25 (vV4 a1)), (7, .box 5 [.p (.s (.int .u8 a3))]), (8, .box 25 [.p (i6 (0)), .p (.sl .nil 0 [])]), (9, .box 25 [.p (i6 (t2_2.N)), .own 14]), (14, rW 58 t2_2.Words)], L0, []⟩ trivial ?_
  obtain ⟨J4, eJ4, h⟩ := jn_some h
  try dsimp only at h
  refine WC.join (α := Int × List Int) (fun v4 => ⟨[(4, .ptr 4 0), (5, .ptr 5 0), (7, .ptr 7 0), (8, .ptr 8 0), (9, .ptr 9 0)], [(4, .box 28 (vV1 a0)), (5, .box 25 (vV4 a1)), (7, .box 5 [.p (.s (.int .u8 a3))]), (8, .box 25 [.p (i6 (0)), .p (.sl .nil 0 [])]), (9, .box 25 [.p (i6 (v4.1)), .own 19]), (19, rW 58 v4.2)], L0, []⟩) (fun v4 => J4 v4 = some r) ?_ (fun hJ4 => ?_)
  · rintro ⟨y4_1, y4_2⟩ h
    rw [eJ4] at h
    try dsimp only at h
    refine WX.seq ?_
    refine WX.seq ?_
    obtain ⟨t7_2, h7_1, h⟩ := bind_some h
    refine WC.r1 hn [(1, .resP (.fn 117 [.rop ([i6 (t7_2.N), sW t7_2.Words])]))] [4, 7, 8, 9, 21] [4, 7, 8, 9, 19] ⟨[(4, .ptr 4 0), (7, .ptr 7 0), (8, .ptr 8 0), (9, .ptr 9 0), (21, .p (.fn 117 [.rop ([i6 (t7_2.N), sW t7_2.Words])]))], [(4, .box 28 (vV1 a0)), (7, .box 5 [.p (.s (.int .u8 a3))]), (8, .box 25 [.p (i6 (0)), .p (.sl .nil 0 [])]), (9, .box 25 [.p (i6 (y4_1)), .own 19]), (19, rW 58 y4_2)], L0, []⟩ (And.intro ((bits_All_ok h7_1)) (trivial)) ?_
    refine WX.block ?_
    obtain ⟨l8, hI8, h⟩ := bind_some h
    refine WC.frz 19 (st' := ⟨[(4, .ptr 4 0), (7, .ptr 7 0), (8, .ptr 8 0), (9, .ptr 9 0), (21, .p (.fn 117 [.rop ([i6 (t7_2.N), sW t7_2.Words])]))], [(4, .box 28 (vV1 a0)), (7, .box 5 [.p (.s (.int .u8 a3))]), (8, .box 25 [.p (i6 (0)), .p (.sl .nil 0 [])]), (9, .box 25 [.p (i6 (y4_1)), .p (sW y4_2)])], L0, []⟩) (by kernel_rfl) ?_
    refine WC.range (V := Int × List Int) hn (nfa_step_l0 k a0 a3) r (fun v8 => ⟨[(4, .ptr 4 0), (7, .ptr 7 0), (8, .ptr 8 0), (9, .ptr 9 0), (21, .p (.fn 117 [.rop ([i6 (t7_2.N), sW t7_2.Words])]))], [(4, .box 28 (vV1 a0)), (7, .box 5 [.p (.s (.int .u8 a3))]), (8, .box 25 [.p (i6 (0)), .p (.sl .nil 0 [])]), (9, .box 25 [.p (i6 (v8.1)), .p (sW v8.2)])], L0, []⟩) (fun x8 v8 => ⟨[(4, .ptr 4 0), (7, .ptr 7 0), (8, .ptr 8 0), (9, .ptr 9 0), (10, .p (i6 (x8))), (21, .p (.fn 117 [.rop ([i6 (t7_2.N), sW t7_2.Words])])), (22, .p (i6 (x8)))], [(4, .box 28 (vV1 a0)), (7, .box 5 [.p (.s (.int .u8 a3))]), (8, .box 25 [.p (i6 (0)), .p (.sl .nil 0 [])]), (9, .box 25 [.p (i6 (v8.1)), .p (sW v8.2)])], ⟨[], false⟩, [[(4, .ptr 4 0), (7, .ptr 7 0), (8, .ptr 8 0), (9, .ptr 9 0), (21, .p (.fn 117 [.rop ([i6 (t7_2.N), sW t7_2.Words])]))]]⟩) (fun x : Int => ([i6 (x)] : List PV)) l8 (y4_1, y4_2) h [4, 7, 8, 9, 21] [4, 7, 8, 9] (by kernel_rfl) (fun v8 => .p (.fn 117 [.rop ([i6 (t7_2.N), sW t7_2.Words])])) (fun v8 => by kernel_rfl) (by kernel_rfl) (bits_All_1_v1_it hI8) (by kernel_rfl) (fun v8 => by kernel_rfl) (fun x => rfl) ?_ ?_ ?_
    · clear h; rintro ⟨x8_1_1, x8_1_2⟩ h
      rw [nfa_step_l0] at h
      refine WX.popBlk ?_
      refine WX.seq ?_
      obtain ⟨t41_2, h41_1, h⟩ := bind_some h
      refine WC.r1 hn [(1, .co [] [] [] [(31, rW 58 t41_2.Words)] (.agg [.p (i6 (t41_2.N)), .own 31]))] [4, 7, 8, 9, 11] [4, 7, 8, 9, 11, 31] ⟨[(4, .ptr 4 0), (7, .ptr 7 0), (8, .ptr 8 0), (9, .ptr 9 0), (11, .ptr 11 0)], [(4, .box 28 (vV1 a0)), (7, .box 5 [.p (.s (.int .u8 a3))]), (8, .box 25 [.p (i6 (0)), .p (.sl .nil 0 [])]), (9, .box 25 [.p (i6 (x8_1_1)), .p (sW x8_1_2)]), (11, .box 25 [.p (i6 (t41_2.N)), .own 31]), (31, rW 58 t41_2.Words)], L0, []⟩ (And.intro (And.intro ((nfa_None_ok h41_1).ren 10 31 (by kernel_rfl)) (trivial)) (trivial)) ?_
      refine WX.seq ?_
      refine WX.seq ?_
      obtain ⟨t42_2, h42_1, h⟩ := bind_some h
      refine WC.r1 hn [(1, .resP (.fn 117 [.rop ([i6 (t42_2.N), sW t42_2.Words])]))] [4, 7, 8, 11, 33] [4, 7, 8, 11, 31] ⟨[(4, .ptr 4 0), (7, .ptr 7 0), (8, .ptr 8 0), (11, .ptr 11 0), (33, .p (.fn 117 [.rop ([i6 (t42_2.N), sW t42_2.Words])]))], [(4, .box 28 (vV1 a0)), (7, .box 5 [.p (.s (.int .u8 a3))]), (8, .box 25 [.p (i6 (0)), .p (.sl .nil 0 [])]), (11, .box 25 [.p (i6 (t41_2.N)), .own 31]), (31, rW 58 t41_2.Words)], L0, []⟩ (And.intro ((bits_All_ok h42_1)) (trivial)) ?_
      refine WX.block ?_
      obtain ⟨l43, hI43, h⟩ := bind_some h
      refine WC.range (V := Int × List Int) hn (nfa_step_l1 k a0 a3) r (fun v43 => ⟨[(4, .ptr 4 0), (7, .ptr 7 0), (8, .ptr 8 0), (11, .ptr 11 0), (33, .p (.fn 117 [.rop ([i6 (t42_2.N), sW t42_2.Words])]))], [(4, .box 28 (vV1 a0)), (7, .box 5 [.p (.s (.int .u8 a3))]), (8, .box 25 [.p (i6 (0)), .p (.sl .nil 0 [])]), (11, .box 25 [.p (i6 (v43.1)), .own 31]), (31, rW 58 v43.2)], L0, []⟩) (fun x43 v43 => ⟨[(4, .ptr 4 0), (7, .ptr 7 0), (8, .ptr 8 0), (11, .ptr 11 0), (12, .p (i6 (x43))), (33, .p (.fn 117 [.rop ([i6 (t42_2.N), sW t42_2.Words])])), (34, .p (i6 (x43)))], [(4, .box 28 (vV1 a0)), (7, .box 5 [.p (.s (.int .u8 a3))]), (8, .box 25 [.p (i6 (0)), .p (.sl .nil 0 [])]), (11, .box 25 [.p (i6 (v43.1)), .own 31]), (31, rW 58 v43.2)], ⟨[], false⟩, [[(4, .ptr 4 0), (7, .ptr 7 0), (8, .ptr 8 0), (11, .ptr 11 0), (33, .p (.fn 117 [.rop ([i6 (t42_2.N), sW t42_2.Words])]))]]⟩) (fun x : Int => ([i6 (x)] : List PV)) l43 (t41_2.N, t41_2.Words) h [4, 7, 8, 11, 33] [4, 7, 8, 11, 31] (by kernel_rfl) (fun v43 => .p (.fn 117 [.rop ([i6 (t42_2.N), sW t42_2.Words])])) (fun v43 => by kernel_rfl) (by kernel_rfl) (bits_All_1_v1_it hI43) (by kernel_rfl) (fun v43 => by kernel_rfl) (fun x => rfl) ?_ ?_ ?_
      · clear h; rintro ⟨x43_1_1, x43_1_2⟩ h
        rw [nfa_step_l1] at h
        refine WX.popBlk ?_
        refine WC.rg hn [] [8] [8, 31] ⟨[(8, .ptr 8 0)], [(8, .box 25 [.p (i6 (x43_1_1)), .own 31]), (31, rW 58 x43_1_2)], L0, []⟩ trivial ?_
        refine WX.ret ?_
        exact WC.outO (by rw [← Option.some.inj h]; kernel_rfl)
      · clear h; intro X hn x43; rintro ⟨x43_1_1, x43_1_2⟩
        refine WC.r1 hn [] [4, 7, 8, 11, 12, 33, 34] [4, 7, 8, 11, 31] ⟨[(4, .ptr 4 0), (7, .ptr 7 0), (8, .ptr 8 0), (11, .ptr 11 0), (12, .p (i6 (x43))), (33, .p (.fn 117 [.rop ([i6 (t42_2.N), sW t42_2.Words])])), (34, .p (i6 (x43)))], [(4, .box 28 (vV1 a0)), (7, .box 5 [.p (.s (.int .u8 a3))]), (8, .box 25 [.p (i6 (0)), .p (.sl .nil 0 [])]), (11, .box 25 [.p (i6 (x43_1_1)), .own 31]), (31, rW 58 x43_1_2)], ⟨[], false⟩, [[(4, .ptr 4 0), (7, .ptr 7 0), (8, .ptr 8 0), (11, .ptr 11 0), (33, .p (.fn 117 [.rop ([i6 (t42_2.N), sW t42_2.Words])]))]]⟩ trivial ?_
        exact WC.exit_nil ⟨rfl, rfl⟩
      · clear h; intro X hn x43 xs43; rintro ⟨x43_1_1, x43_1_2⟩ h K43 hnext43 hexit43
        rw [nfa_step_l1] at h
        refine WX.block ?_
        refine WX.seq ?_
        obtain ⟨t56_2, h56_1, h⟩ := bind_some h
        obtain ⟨t56_4, h56_3, h⟩ := bind_some h
        refine WC.drw hn [] [] [(3, .val (.p (.rop ((e4 (eI .u64)).cells t56_2 ++ encL (e4 (eI .u64)) (a0.Classes.drop (x43.toNat + 1)))))), (6, .resP (bo (t56_4)))] [11, 12, 41] [4, 7, 8, 11, 31] ⟨[(11, .ptr 11 0), (12, .p (i6 (x43))), (41, .p (bo (t56_4)))], [(4, .box 28 (vV1 a0)), (7, .box 5 [.p (.s (.int .u8 a3))]), (8, .box 25 [.p (i6 (0)), .p (.sl .nil 0 [])]), (11, .box 25 [.p (i6 (x43_1_1)), .own 31]), (31, rW 58 x43_1_2)], ⟨[], false⟩, [[(4, .ptr 4 0), (7, .ptr 7 0), (8, .ptr 8 0), (11, .ptr 11 0), (33, .p (.fn 117 [.rop ([i6 (t42_2.N), sW t42_2.Words])]))]]⟩ (And.intro (Ix (e4 (eI .u64)) h56_1) (And.intro ((class_Has_ok h56_3)) (trivial))) (by kernel_rfl) (by kernel_rfl) (by kernel_rfl) (by kernel_rfl) ?_
        rcases if_or h with ⟨c57, h⟩ | ⟨c57, h⟩
        · refine WC.condT c57 (by kernel_rfl) ?_
          obtain ⟨t58_2, h58_1, h⟩ := bind_some h
          refine WC.r1 hn [(2, .co [] [] [31] [(44, rW 58 t58_2.Words)] (.agg [.p (i6 (t58_2.N)), .own 44]))] [] [4, 7, 8, 11, 44] ⟨[], [(4, .box 28 (vV1 a0)), (7, .box 5 [.p (.s (.int .u8 a3))]), (8, .box 25 [.p (i6 (0)), .p (.sl .nil 0 [])]), (11, .box 25 [.p (i6 (t58_2.N)), .own 44]), (44, rW 58 t58_2.Words)], ⟨[], false⟩, [[(4, .ptr 4 0), (7, .ptr 7 0), (8, .ptr 8 0), (11, .ptr 11 0), (33, .p (.fn 117 [.rop ([i6 (t42_2.N), sW t42_2.Words])]))]]⟩ (And.intro (And.intro ((bits_With_ok h58_1).ren 6 44 (by kernel_rfl)) (And.intro (rfl : (.agg [.p (i6 (t58_2.N)), .own 44] : AV).flat = true) (And.intro (flats_encL (eI .u64) (fun _ => rfl) t58_2.Words) (trivial)))) (trivial)) ?_
          refine WX.popBlk ?_
          refine WC.keep [] [4, 7, 8, 11, 44] (st' := ⟨[], [(4, .box 28 (vV1 a0)), (7, .box 5 [.p (.s (.int .u8 a3))]), (8, .box 25 [.p (i6 (0)), .p (.sl .nil 0 [])]), (11, .box 25 [.p (i6 (t58_2.N)), .own 44]), (44, rW 58 t58_2.Words)], ⟨[], false⟩, [[(4, .ptr 4 0), (7, .ptr 7 0), (8, .ptr 8 0), (11, .ptr 11 0), (33, .p (.fn 117 [.rop ([i6 (t42_2.N), sW t42_2.Words])]))]]⟩) (by kernel_rfl) ?_
          refine WC.ren hn 44 31 (by kernel_rfl) [] [4, 7, 8, 11, 31] (st' := ⟨[], [(4, .box 28 (vV1 a0)), (7, .box 5 [.p (.s (.int .u8 a3))]), (8, .box 25 [.p (i6 (0)), .p (.sl .nil 0 [])]), (11, .box 25 [.p (i6 (t58_2.N)), .own 31]), (31, rW 58 t58_2.Words)], ⟨[], false⟩, [[(4, .ptr 4 0), (7, .ptr 7 0), (8, .ptr 8 0), (11, .ptr 11 0), (33, .p (.fn 117 [.rop ([i6 (t42_2.N), sW t42_2.Words])]))]]⟩) (by kernel_rfl) ?_
          exact WC.nextR [] [4, 7, 8, 11, 31] (s := ⟨[], [(4, .box 28 (vV1 a0)), (7, .box 5 [.p (.s (.int .u8 a3))]), (8, .box 25 [.p (i6 (0)), .p (.sl .nil 0 [])]), (11, .box 25 [.p (i6 (t58_2.N)), .own 31]), (31, rW 58 t58_2.Words)], ⟨[], false⟩, [[(4, .ptr 4 0), (7, .ptr 7 0), (8, .ptr 8 0), (11, .ptr 11 0), (33, .p (.fn 117 [.rop ([i6 (t42_2.N), sW t42_2.Words])]))]]⟩) (by kernel_rfl) rfl (fun s hb => hnext43 (t58_2.N, t58_2.Words) s h hb)
        · refine WC.condF c57 (by kernel_rfl) ?_
          refine WX.skip ?_
          refine WX.popBlk ?_
          refine WC.keep [] [4, 7, 8, 11, 31] (st' := ⟨[], [(4, .box 28 (vV1 a0)), (7, .box 5 [.p (.s (.int .u8 a3))]), (8, .box 25 [.p (i6 (0)), .p (.sl .nil 0 [])]), (11, .box 25 [.p (i6 (x43_1_1)), .own 31]), (31, rW 58 x43_1_2)], ⟨[], false⟩, [[(4, .ptr 4 0), (7, .ptr 7 0), (8, .ptr 8 0), (11, .ptr 11 0), (33, .p (.fn 117 [.rop ([i6 (t42_2.N), sW t42_2.Words])]))]]⟩) (by kernel_rfl) ?_
          exact WC.nextR [] [4, 7, 8, 11, 31] (s := ⟨[], [(4, .box 28 (vV1 a0)), (7, .box 5 [.p (.s (.int .u8 a3))]), (8, .box 25 [.p (i6 (0)), .p (.sl .nil 0 [])]), (11, .box 25 [.p (i6 (x43_1_1)), .own 31]), (31, rW 58 x43_1_2)], ⟨[], false⟩, [[(4, .ptr 4 0), (7, .ptr 7 0), (8, .ptr 8 0), (11, .ptr 11 0), (33, .p (.fn 117 [.rop ([i6 (t42_2.N), sW t42_2.Words])]))]]⟩) (by kernel_rfl) rfl (fun s hb => hnext43 (x43_1_1, x43_1_2) s h hb)
    · clear h; intro X hn x8; rintro ⟨x8_1_1, x8_1_2⟩
      refine WC.r1 hn [] [4, 7, 8, 9, 10, 21, 22] [4, 7, 8, 9] ⟨[(4, .ptr 4 0), (7, .ptr 7 0), (8, .ptr 8 0), (9, .ptr 9 0), (10, .p (i6 (x8))), (21, .p (.fn 117 [.rop ([i6 (t7_2.N), sW t7_2.Words])])), (22, .p (i6 (x8)))], [(4, .box 28 (vV1 a0)), (7, .box 5 [.p (.s (.int .u8 a3))]), (8, .box 25 [.p (i6 (0)), .p (.sl .nil 0 [])]), (9, .box 25 [.p (i6 (x8_1_1)), .p (sW x8_1_2)])], ⟨[], false⟩, [[(4, .ptr 4 0), (7, .ptr 7 0), (8, .ptr 8 0), (9, .ptr 9 0), (21, .p (.fn 117 [.rop ([i6 (t7_2.N), sW t7_2.Words])]))]]⟩ trivial ?_
      exact WC.exit_nil ⟨rfl, rfl⟩
    · clear h; intro X hn x8 xs8; rintro ⟨x8_1_1, x8_1_2⟩ h K8 hnext8 hexit8
      rw [nfa_step_l0] at h
      refine WX.block ?_
      obtain ⟨t60_2, h60_1, h⟩ := bind_some h
      obtain ⟨t60_4, h60_3, h⟩ := bind_some h
      refine WC.drw hn [(7, [])] [] [(4, .val (.p (.rop (e_api_Bits.cells t60_2 ++ encL e_api_Bits (a0.Follow.drop (x8.toNat + 1)))))), (6, .resP (pP4 t60_4))] [] [4, 7, 8, 9] ⟨[], [(4, .box 28 (vV1 a0)), (7, .box 5 [.p (.s (.int .u8 a3))]), (8, .box 25 [.p (i6 (0)), .p (.sl .nil 0 [])]), (9, .box 25 (vV4 t60_4))], ⟨[], false⟩, [[(4, .ptr 4 0), (7, .ptr 7 0), (8, .ptr 8 0), (9, .ptr 9 0), (21, .p (.fn 117 [.rop ([i6 (t7_2.N), sW t7_2.Words])]))]]⟩ (And.intro (Ix e_api_Bits h60_1) (And.intro ((bits_Or_okP h60_3)) (trivial))) (by kernel_rfl) (by kernel_rfl) (by kernel_rfl) (by kernel_rfl) ?_
      refine WX.popBlk ?_
      refine WC.keep [] [4, 7, 8, 9] (st' := ⟨[], [(4, .box 28 (vV1 a0)), (7, .box 5 [.p (.s (.int .u8 a3))]), (8, .box 25 [.p (i6 (0)), .p (.sl .nil 0 [])]), (9, .box 25 (vV4 t60_4))], ⟨[], false⟩, [[(4, .ptr 4 0), (7, .ptr 7 0), (8, .ptr 8 0), (9, .ptr 9 0), (21, .p (.fn 117 [.rop ([i6 (t7_2.N), sW t7_2.Words])]))]]⟩) (by kernel_rfl) ?_
      exact WC.nextR [] [4, 7, 8, 9] (s := ⟨[], [(4, .box 28 (vV1 a0)), (7, .box 5 [.p (.s (.int .u8 a3))]), (8, .box 25 [.p (i6 (0)), .p (.sl .nil 0 [])]), (9, .box 25 (vV4 t60_4))], ⟨[], false⟩, [[(4, .ptr 4 0), (7, .ptr 7 0), (8, .ptr 8 0), (9, .ptr 9 0), (21, .p (.fn 117 [.rop ([i6 (t7_2.N), sW t7_2.Words])]))]]⟩) (by kernel_rfl) rfl (fun s hb => hnext8 (t60_4.N, t60_4.Words) s h hb)
  · replace hJ4 := fun y4_1 y4_2 => hJ4 (y4_1, y4_2)
    rcases if_or h with ⟨c61, h⟩ | ⟨c61, h⟩
    · refine WC.condT c61 (by kernel_rfl) ?_
      obtain ⟨t62_2, h62_1, h⟩ := bind_some h
      refine WC.r1 hn [(3, .co [] [] [14] [(19, rW 58 t62_2.Words)] (.agg [.p (i6 (t62_2.N)), .own 19]))] [4, 5, 7, 8, 9] [4, 5, 7, 8, 9, 19] ⟨[(4, .ptr 4 0), (5, .ptr 5 0), (7, .ptr 7 0), (8, .ptr 8 0), (9, .ptr 9 0)], [(4, .box 28 (vV1 a0)), (5, .box 25 (vV4 a1)), (7, .box 5 [.p (.s (.int .u8 a3))]), (8, .box 25 [.p (i6 (0)), .p (.sl .nil 0 [])]), (9, .box 25 [.p (i6 (t62_2.N)), .own 19]), (19, rW 58 t62_2.Words)], L0, []⟩ (And.intro (And.intro ((bits_Or_ok h62_1).ren 7 19 (by kernel_rfl)) (And.intro (rfl : (.agg [.p (i6 (t62_2.N)), .own 19] : AV).flat = true) (And.intro (flats_encL (eI .u64) (fun _ => rfl) t62_2.Words) (trivial)))) (trivial)) ?_
      exact WC.keep [4, 5, 7, 8, 9] [4, 5, 7, 8, 9, 19] (by kernel_rfl) (hJ4 t62_2.N t62_2.Words h)
    · refine WC.condF c61 (by kernel_rfl) ?_
      refine WX.skip ?_
      refine WC.keep [4, 5, 7, 8, 9] [4, 5, 7, 8, 9, 14] (st' := ⟨[(4, .ptr 4 0), (5, .ptr 5 0), (7, .ptr 7 0), (8, .ptr 8 0), (9, .ptr 9 0)], [(4, .box 28 (vV1 a0)), (5, .box 25 (vV4 a1)), (7, .box 5 [.p (.s (.int .u8 a3))]), (8, .box 25 [.p (i6 (0)), .p (.sl .nil 0 [])]), (9, .box 25 [.p (i6 (t2_2.N)), .own 14]), (14, rW 58 t2_2.Words)], L0, []⟩) (by kernel_rfl) ?_
      refine WC.ren hn 14 19 (by kernel_rfl) [4, 5, 7, 8, 9] [4, 5, 7, 8, 9, 19] (st' := ⟨[(4, .ptr 4 0), (5, .ptr 5 0), (7, .ptr 7 0), (8, .ptr 8 0), (9, .ptr 9 0)], [(4, .box 28 (vV1 a0)), (5, .box 25 (vV4 a1)), (7, .box 5 [.p (.s (.int .u8 a3))]), (8, .box 25 [.p (i6 (0)), .p (.sl .nil 0 [])]), (9, .box 25 [.p (i6 (t2_2.N)), .own 19]), (19, rW 58 t2_2.Words)], L0, []⟩) (by kernel_rfl) ?_
      exact WC.keep [4, 5, 7, 8, 9] [4, 5, 7, 8, 9, 19] (by kernel_rfl) (hJ4 t2_2.N t2_2.Words h)
theorem nfa_step_okP {k : Nat} {a0 : api_Nfa} {a1 : api_Bits} {a2 : Bool} {a3 : Int} {r : api_Bits} (h : nfa_step k a0 a1 a2 a3 = some r) : Ans Tryd.prog 79 [pP1 a0, pP4 a1, bo (a2), .s (.int .u8 a3)] (pP4 r) := AnsO.ans (args := [pP1 a0, pP4 a1, bo (a2), .s (.int .u8 a3)]) (nfa_step_ok h) (by kernel_rfl)
def nfa_Next (k : Nat) (a0 : api_Nfa) (a1 : api_Bits) (a2 : Bool) (a3 : Int) : Option (api_Bits) :=
  (nfa_may k a0).bind fun t2_2 => (nfa_state k t2_2 a1).bind fun t3_2 => (nfa_step k t2_2 t3_2 a2 a3).bind fun t3_4 => some t3_4
theorem nfa_Next_ok {k : Nat} {a0 : api_Nfa} {a1 : api_Bits} {a2 : Bool} {a3 : Int} {r : api_Bits} (h : nfa_Next k a0 a1 a2 a3 = some r) : Ans Tryd.prog 41 [pP1 a0, pP4 a1, bo (a2), .s (.int .u8 a3)] (pP4 r) := by
  refine W_fn Tryd.func41 rfl (by kernel_rfl) (by kernel_rfl) ?_
  intro X hro hn
  unfold nfa_Next at h
  refine WC.rg hn [] [2, 3, 4, 5, 8] [4, 5, 8] ⟨[(2, .p (bo (a2))), (3, .p (.s (.int .u8 a3))), (4, .ptr 4 0), (5, .ptr 5 0), (8, .ptr 8 0)], [(4, .box 28 (vV1 a0)), (5, .box 25 (vV4 a1)), (8, .box 25 [.p (i6 (0)), .p (.sl .nil 0 [])])], L0, []⟩ trivial ?_
  refine WX.seq ?_
  obtain ⟨t2_2, h2_1, h⟩ := bind_some h
  refine WC.r1 hn [(1, .resP (pP1 t2_2))] [2, 3, 4, 5, 8] [4, 5, 8] ⟨[(2, .p (bo (a2))), (3, .p (.s (.int .u8 a3))), (4, .ptr 4 0), (5, .ptr 5 0), (8, .ptr 8 0)], [(4, .box 28 (vV1 t2_2)), (5, .box 25 (vV4 a1)), (8, .box 25 [.p (i6 (0)), .p (.sl .nil 0 [])])], L0, []⟩ (And.intro ((nfa_may_ok h2_1)) (trivial)) ?_
  refine WX.seq ?_
  obtain ⟨t3_2, h3_1, h⟩ := bind_some h
  obtain ⟨t3_4, h3_3, h⟩ := bind_some h
  refine WC.drw hn [(7, [])] [] [(3, .resP (pP4 t3_2)), (6, .resP (pP4 t3_4))] [8] [8] ⟨[(8, .ptr 8 0)], [(8, .box 25 (vV4 t3_4))], L0, []⟩ (And.intro ((nfa_state_ok h3_1)) (And.intro ((nfa_step_okP h3_3)) (trivial))) (by kernel_rfl) (by kernel_rfl) (by kernel_rfl) (by kernel_rfl) ?_
  refine WX.ret ?_
  exact WC.outP (by rw [← Option.some.inj h]; kernel_rfl)
def bits_And_1 (a0 : Int) (a1 : Int) : Option (Int) :=
  some ((bits .and .u64 a0 a1))
theorem bits_And_1_ok {a0 : Int} {a1 : Int} {r : Int} (h : bits_And_1 a0 a1 = some r) : Ans Tryd.prog 123 [u6 (a0), u6 (a1)] (u6 (r)) := by
  refine W_fn Tryd.func123 rfl (by kernel_rfl) (by kernel_rfl) ?_
  intro X hro hn
  unfold bits_And_1 at h
  refine WC.rg hn [] [0, 1] [] ⟨[(0, .p (u6 (a0))), (1, .p (u6 (a1)))], [], L0, []⟩ trivial ?_
  refine WC.rg hn [] [4] [] ⟨[(4, .p (u6 (((bits .and .u64 a0 a1)))))], [], L0, []⟩ trivial ?_
  refine WX.ret ?_
  exact WC.outP (by rw [← Option.some.inj h]; kernel_rfl)
def bits_join_v2_l0 (t2_2 : api_Bits) (t3_4 : api_Bits) (J5 : List Int → Option (api_Bits)) : Nat → (Int × List Int) → Option (api_Bits)
  | 0, _ => none
  | k + 1, (x18_1_1, x18_1_2) => (if (decide (x18_1_1 < (t2_2.Words.length : Int))) = true then (at_ x18_1_2 x18_1_1).bind fun t32_2 => (at_ t3_4.Words x18_1_1).bind fun t32_4 => (bits_And_1 t32_2 t32_4).bind fun t32_6 => bits_join_v2_l0 t2_2 t3_4 J5 k ((IntKind.i64.wrap (x18_1_1 + 1)), x18_1_2.set x18_1_1.toNat t32_6) else J5 x18_1_2)
def bits_join_v2 (k : Nat) (a0 : api_Bits) (a1 : api_Bits) (a2 : (Unit)) : Option (api_Bits) :=
  (bits_own a0).bind fun t2_2 => (bits_own a1).bind fun t3_2 => (bits_fit t3_2 t2_2.N).bind fun t3_4 => jn (fun (v5 : List Int) => some ((api_Bits.mk t2_2.N v5))) fun J5 => bits_join_v2_l0 t2_2 t3_4 J5 k (0, t2_2.Words)
theorem bits_join_v2_ok {k : Nat} {a0 : api_Bits} {a1 : api_Bits} {a2 : (Unit)} {r : api_Bits} (h : bits_join_v2 k a0 a1 a2 = some r) : AnsO Tryd.prog 121 [] [.p (pP4 a0), .p (pP4 a1), .p (.fn 123 [])] [(10, rW 58 r.Words)] (.agg [.p (i6 (r.N)), .own 10]) := by
  refine W_fnO [10] Tryd.func121 rfl (by kernel_rfl) (by kernel_rfl) (by kernel_rfl) (by kernel_rfl) ?_
  intro X hro hn
  unfold bits_join_v2 at h
  refine WC.rg hn [] [2, 3, 4, 6] [3, 4, 6] ⟨[(2, .p (.fn 123 [])), (3, .ptr 3 0), (4, .ptr 4 0), (6, .ptr 6 0)], [(3, .box 25 (vV4 a0)), (4, .box 25 (vV4 a1)), (6, .box 25 [.p (i6 (0)), .p (.sl .nil 0 [])])], L0, []⟩ trivial ?_
  refine WX.seq ?_
  obtain ⟨t2_2, h2_1, h⟩ := bind_some h
  refine WC.r1 hn [(1, .co [] [] [] [(10, rW 58 t2_2.Words)] (.agg [.p (i6 (t2_2.N)), .own 10]))] [2, 3, 4, 6] [3, 4, 6, 10] ⟨[(2, .p (.fn 123 [])), (3, .ptr 3 0), (4, .ptr 4 0), (6, .ptr 6 0)], [(3, .box 25 [.p (i6 (t2_2.N)), .own 10]), (4, .box 25 (vV4 a1)), (6, .box 25 [.p (i6 (0)), .p (.sl .nil 0 [])]), (10, rW 58 t2_2.Words)], L0, []⟩ (And.intro (And.intro ((bits_own_ok h2_1).ren 9 10 (by kernel_rfl)) (trivial)) (trivial)) ?_
  refine WX.seq ?_
  obtain ⟨t3_2, h3_1, h⟩ := bind_some h
  obtain ⟨t3_4, h3_3, h⟩ := bind_some h
  refine WC.drw hn [(6, [])] [7] [(1, .resP (pP4 t3_2)), (4, .resP (pP4 t3_4))] [2, 3, 6, 7] [3, 6, 7, 10] ⟨[(2, .p (.fn 123 [])), (3, .ptr 3 0), (6, .ptr 6 0), (7, .ptr 7 0)], [(3, .box 25 [.p (i6 (t2_2.N)), .own 10]), (6, .box 25 [.p (i6 (0)), .p (.sl .nil 0 [])]), (7, .box 25 (vV4 t3_4)), (10, rW 58 t2_2.Words)], L0, []⟩ (And.intro ((bits_own_okP h3_1)) (And.intro ((bits_fit_okP h3_3)) (trivial))) (by kernel_rfl) (by kernel_rfl) (by kernel_rfl) (by kernel_rfl) ?_
  refine WX.seq ?_
  refine WC.rg hn [] [2, 3, 6, 7, 18, 19] [3, 6, 7, 10] ⟨[(2, .p (.fn 123 [])), (3, .ptr 3 0), (6, .ptr 6 0), (7, .ptr 7 0), (18, .p (i6 (((t2_2.Words.length : Int))))), (19, .p (i6 (0)))], [(3, .box 25 [.p (i6 (t2_2.N)), .own 10]), (6, .box 25 [.p (i6 (0)), .p (.sl .nil 0 [])]), (7, .box 25 (vV4 t3_4)), (10, rW 58 t2_2.Words)], L0, []⟩ trivial ?_
  obtain ⟨J5, eJ5, h⟩ := jn_some h
  try dsimp only at h
  refine WC.join (α := List Int) (fun v5 => ⟨[(3, .ptr 3 0), (6, .ptr 6 0)], [(3, .box 25 [.p (i6 (t2_2.N)), .own 10]), (6, .box 25 [.p (i6 (0)), .p (.sl .nil 0 [])]), (10, rW 58 v5)], L0, []⟩) (fun v5 => J5 v5 = some r) ?_ (fun hJ5 => ?_)
  · rintro y5_1 h
    rw [eJ5] at h
    try dsimp only at h
    refine WC.rg hn [] [6] [6, 10] ⟨[(6, .ptr 6 0)], [(6, .box 25 [.p (i6 (t2_2.N)), .own 10]), (10, rW 58 y5_1)], L0, []⟩ trivial ?_
    refine WX.ret ?_
    exact WC.outO (by rw [← Option.some.inj h]; kernel_rfl)
  · replace hJ5 := fun y5_1 => hJ5 y5_1
    refine WX.block ?_
    refine WC.loop (V := Int × List Int) (bits_join_v2_l0 t2_2 t3_4 J5) r (fun v18 => ⟨[(2, .p (.fn 123 [])), (3, .ptr 3 0), (6, .ptr 6 0), (7, .ptr 7 0), (18, .p (i6 (((t2_2.Words.length : Int))))), (19, .p (i6 (v18.1)))], [(3, .box 25 [.p (i6 (t2_2.N)), .own 10]), (6, .box 25 [.p (i6 (0)), .p (.sl .nil 0 [])]), (7, .box 25 (vV4 t3_4)), (10, rW 58 v18.2)], L0, []⟩) _ (0, t2_2.Words) h (fun _ => rfl) [2, 3, 6, 7, 18, 19] [3, 6, 7, 10] (by kernel_rfl) ?_
    clear h; rintro k ⟨x18_1_1, x18_1_2⟩ h K18 hnext18 hexit18
    rw [bits_join_v2_l0] at h
    refine WC.rg hn [] [2, 3, 6, 7, 18, 19, 20] [3, 6, 7, 10] ⟨[(2, .p (.fn 123 [])), (3, .ptr 3 0), (6, .ptr 6 0), (7, .ptr 7 0), (18, .p (i6 (((t2_2.Words.length : Int))))), (19, .p (i6 (x18_1_1))), (20, .p (bo (((decide (x18_1_1 < (t2_2.Words.length : Int)))))))], [(3, .box 25 [.p (i6 (t2_2.N)), .own 10]), (6, .box 25 [.p (i6 (0)), .p (.sl .nil 0 [])]), (7, .box 25 (vV4 t3_4)), (10, rW 58 x18_1_2)], L0, []⟩ trivial ?_
    refine WX.seq ?_
    rcases if_or h with ⟨c30, h⟩ | ⟨c30, h⟩
    · refine WC.condT c30 (by kernel_rfl) ?_
      refine WX.skip ?_
      refine WX.seq ?_
      refine WX.block ?_
      refine WC.rg hn [] [2, 3, 6, 7, 8, 18, 19] [3, 6, 7, 10] ⟨[(2, .p (.fn 123 [])), (3, .ptr 3 0), (6, .ptr 6 0), (7, .ptr 7 0), (8, .p (i6 (x18_1_1))), (18, .p (i6 (((t2_2.Words.length : Int))))), (19, .p (i6 (x18_1_1)))], [(3, .box 25 [.p (i6 (t2_2.N)), .own 10]), (6, .box 25 [.p (i6 (0)), .p (.sl .nil 0 [])]), (7, .box 25 (vV4 t3_4)), (10, rW 58 x18_1_2)], L0, []⟩ trivial ?_
      obtain ⟨t32_2, h32_1, h⟩ := bind_some h
      obtain ⟨t32_4, h32_3, h⟩ := bind_some h
      obtain ⟨t32_6, h32_5, h⟩ := bind_some h
      refine WC.drw hn [(16, [])] [] [(7, .val (.ptr 10 (x18_1_1.toNat * 1))), (8, .val (.p (u6 (t32_2)))), (12, .val (.p (.rop ((eI .u64).cells t32_4 ++ encL (eI .u64) (t3_4.Words.drop (x18_1_1.toNat + 1)))))), (14, .resP (u6 (t32_6))), (15, .val (.ptr 10 (x18_1_1.toNat * 1))), (16, .sto 10 (rW 58 (x18_1_2.set x18_1_1.toNat t32_6)))] [2, 3, 6, 7, 18, 19] [3, 6, 7, 10] ⟨[(2, .p (.fn 123 [])), (3, .ptr 3 0), (6, .ptr 6 0), (7, .ptr 7 0), (18, .p (i6 (((t2_2.Words.length : Int))))), (19, .p (i6 (x18_1_1)))], [(3, .box 25 [.p (i6 (t2_2.N)), .own 10]), (6, .box 25 [.p (i6 (0)), .p (.sl .nil 0 [])]), (7, .box 25 (vV4 t3_4)), (10, rW 58 (x18_1_2.set x18_1_1.toNat t32_6))], L0, []⟩ (And.intro (IxO 10 1 h32_1) (And.intro (LdO0 Tryd.prog (eI .u64) 58 h32_1) (And.intro (Ix (eI .u64) h32_3) (And.intro ((bits_And_1_ok h32_5)) (And.intro (IxO 10 1 h32_1) (And.intro (StO0 (eI .u64) 10 58 1 1 [u6 (t32_6)] t32_6 h32_1 rfl rfl (by decide)) (trivial))))))) (by kernel_rfl) (by kernel_rfl) (by kernel_rfl) (by kernel_rfl) ?_
      refine WX.popBlk ?_
      refine WC.r1 hn [] [2, 3, 6, 7, 18, 19] [3, 6, 7, 10] ⟨[(2, .p (.fn 123 [])), (3, .ptr 3 0), (6, .ptr 6 0), (7, .ptr 7 0), (18, .p (i6 (((t2_2.Words.length : Int))))), (19, .p (i6 (((IntKind.i64.wrap (x18_1_1 + 1))))))], [(3, .box 25 [.p (i6 (t2_2.N)), .own 10]), (6, .box 25 [.p (i6 (0)), .p (.sl .nil 0 [])]), (7, .box 25 (vV4 t3_4)), (10, rW 58 (x18_1_2.set x18_1_1.toNat t32_6))], L0, []⟩ trivial ?_
      exact WC.next [2, 3, 6, 7, 18, 19] [3, 6, 7, 10] (by kernel_rfl) (hnext18 ((IntKind.i64.wrap (x18_1_1 + 1)), x18_1_2.set x18_1_1.toNat t32_6) h)
    · refine WC.condF c30 (by kernel_rfl) ?_
      refine WX.exit ?_
      refine WX.popCodeExit ?_
      refine WC.exit_nil (hexit18 _ _ (by simp) ?_)
      refine WX.popBlkHit ?_
      exact WC.keep [3, 6] [3, 6, 10] (by kernel_rfl) (hJ5 x18_1_2 h)
theorem bits_join_v2_okP {k : Nat} {a0 : api_Bits} {a1 : api_Bits} {a2 : (Unit)} {r : api_Bits} (h : bits_join_v2 k a0 a1 a2 = some r) : Ans Tryd.prog 121 [pP4 a0, pP4 a1, .fn 123 []] (pP4 r) := AnsO.ans (args := [pP4 a0, pP4 a1, .fn 123 []]) (bits_join_v2_ok h) (by kernel_rfl)
def bits_And (k : Nat) (a0 : api_Bits) (a1 : api_Bits) : Option (api_Bits) :=
  (bits_join_v2 k a0 a1 (())).bind fun t2_2 => some t2_2
theorem bits_And_ok {k : Nat} {a0 : api_Bits} {a1 : api_Bits} {r : api_Bits} (h : bits_And k a0 a1 = some r) : AnsO Tryd.prog 108 [] [.p (pP4 a0), .p (pP4 a1)] [(7, rW 58 r.Words)] (.agg [.p (i6 (r.N)), .own 7]) := by
  refine W_fnO [7] Tryd.func108 rfl (by kernel_rfl) (by kernel_rfl) (by kernel_rfl) (by kernel_rfl) ?_
  intro X hro hn
  unfold bits_And at h
  refine WC.rg hn [] [2, 3, 4] [2, 3, 4] ⟨[(2, .ptr 2 0), (3, .ptr 3 0), (4, .ptr 4 0)], [(2, .box 25 (vV4 a0)), (3, .box 25 (vV4 a1)), (4, .box 25 [.p (i6 (0)), .p (.sl .nil 0 [])])], L0, []⟩ trivial ?_
  refine WX.seq ?_
  obtain ⟨t2_2, h2_1, h⟩ := bind_some h
  refine WC.r1 hn [(2, .co [] [] [] [(7, rW 58 t2_2.Words)] (.agg [.p (i6 (t2_2.N)), .own 7]))] [4] [4, 7] ⟨[(4, .ptr 4 0)], [(4, .box 25 [.p (i6 (t2_2.N)), .own 7]), (7, rW 58 t2_2.Words)], L0, []⟩ (And.intro (And.intro ((bits_join_v2_ok h2_1).ren 10 7 (by kernel_rfl)) (trivial)) (trivial)) ?_
  refine WX.ret ?_
  exact WC.outO (by rw [← Option.some.inj h]; kernel_rfl)
theorem bits_And_okP {k : Nat} {a0 : api_Bits} {a1 : api_Bits} {r : api_Bits} (h : bits_And k a0 a1 = some r) : Ans Tryd.prog 108 [pP4 a0, pP4 a1] (pP4 r) := AnsO.ans (args := [pP4 a0, pP4 a1]) (bits_And_ok h) (by kernel_rfl)
def bits_Meet (k : Nat) (a0 : api_Bits) (a1 : api_Bits) : Option (Bool) :=
  (bits_And k a0 a1).bind fun t2_2 => (bits_First k t2_2 0).bind fun t2_4 => some t2_4.2
theorem bits_Meet_ok {k : Nat} {a0 : api_Bits} {a1 : api_Bits} {r : Bool} (h : bits_Meet k a0 a1 = some r) : Ans Tryd.prog 80 [pP4 a0, pP4 a1] (bo (r)) := by
  refine W_fn Tryd.func80 rfl (by kernel_rfl) (by kernel_rfl) ?_
  intro X hro hn
  unfold bits_Meet at h
  refine WC.rg hn [] [2, 3] [2, 3] ⟨[(2, .ptr 2 0), (3, .ptr 3 0)], [(2, .box 25 (vV4 a0)), (3, .box 25 (vV4 a1))], L0, []⟩ trivial ?_
  refine WX.seq ?_
  obtain ⟨t2_2, h2_1, h⟩ := bind_some h
  obtain ⟨t2_4, h2_3, h⟩ := bind_some h
  refine WC.r1 hn [(2, .co [] [] [] [(10, rW 58 t2_2.Words)] (.agg [.p (i6 (t2_2.N)), .own 10])), (3, .res (.tup [i6 (t2_4.1), bo (t2_4.2)]))] [6] [] ⟨[(6, .p (bo (t2_4.2)))], [], L0, []⟩ (And.intro (And.intro ((bits_And_ok h2_1).ren 7 10 (by kernel_rfl)) (trivial)) (And.intro (And.intro (bits_First_ok h2_3) (rfl : (.tup [i6 (t2_4.1), bo (t2_4.2)] : PV).flat = true)) (trivial))) ?_
  refine WC.rg hn [] [4] [] ⟨[(4, .p (bo (t2_4.2)))], [], L0, []⟩ trivial ?_
  refine WX.ret ?_
  exact WC.outP (by rw [← Option.some.inj h]; kernel_rfl)
def nfa_Accepts (k : Nat) (a0 : api_Nfa) (a1 : api_Bits) : Option (Bool) :=
  (nfa_may k a0).bind fun t2_2 => (nfa_state k t2_2 a1).bind fun t3_2 => (bits_Meet k t3_2 t2_2.Last).bind fun t3_4 => some t3_4
theorem nfa_Accepts_ok {k : Nat} {a0 : api_Nfa} {a1 : api_Bits} {r : Bool} (h : nfa_Accepts k a0 a1 = some r) : Ans Tryd.prog 42 [pP1 a0, pP4 a1] (bo (r)) := by
  refine W_fn Tryd.func42 rfl (by kernel_rfl) (by kernel_rfl) ?_
  intro X hro hn
  unfold nfa_Accepts at h
  refine WC.rg hn [] [2, 3] [2, 3] ⟨[(2, .ptr 2 0), (3, .ptr 3 0)], [(2, .box 28 (vV1 a0)), (3, .box 25 (vV4 a1))], L0, []⟩ trivial ?_
  refine WX.seq ?_
  obtain ⟨t2_2, h2_1, h⟩ := bind_some h
  refine WC.r1 hn [(1, .resP (pP1 t2_2))] [2, 3] [2, 3] ⟨[(2, .ptr 2 0), (3, .ptr 3 0)], [(2, .box 28 (vV1 t2_2)), (3, .box 25 (vV4 a1))], L0, []⟩ (And.intro ((nfa_may_ok h2_1)) (trivial)) ?_
  refine WX.seq ?_
  obtain ⟨t3_2, h3_1, h⟩ := bind_some h
  obtain ⟨t3_4, h3_3, h⟩ := bind_some h
  refine WC.drw hn [] [] [(2, .resP (pP4 t3_2)), (5, .resP (bo (t3_4)))] [4] [] ⟨[(4, .p (bo (t3_4)))], [], L0, []⟩ (And.intro ((nfa_state_ok h3_1)) (And.intro ((bits_Meet_ok h3_3)) (trivial))) (by kernel_rfl) (by kernel_rfl) (by kernel_rfl) (by kernel_rfl) ?_
  refine WX.ret ?_
  exact WC.outP (by rw [← Option.some.inj h]; kernel_rfl)
def reverse_Starts (k : Nat) (a0 : api_Nfa) (a1 : (List Int)) (a2 : Int) : Option ((Int × (List Int) × api_Nfa)) :=
  (reverse_Reverse k a0).bind fun t2_2 => (slices_Clone_byte_byte a1).bind fun t3_2 => some ((a2, t3_2, t2_2))
theorem reverse_Starts_ok {k : Nat} {a0 : api_Nfa} {a1 : (List Int)} {a2 : Int} {r : (Int × (List Int) × api_Nfa)} (h : reverse_Starts k a0 a1 a2 = some r) : Ans Tryd.prog 16 [pP1 a0, slV (eI .u8) a1, i6 (a2)] (.fn 38 [.rop ([i6 (r.1)]), .rop ([slV (eI .u8) r.2.1]), .rop ([sC r.2.2.Classes, i6 (r.2.2.First.N), sW r.2.2.First.Words, i6 (r.2.2.Last.N), sW r.2.2.Last.Words, sB r.2.2.Follow, bo (r.2.2.Null)])]) := by
  refine W_fn Tryd.func16 rfl (by kernel_rfl) (by kernel_rfl) ?_
  intro X hro hn
  unfold reverse_Starts at h
  refine WC.rg hn [] [3, 4, 5] [3, 4, 5] ⟨[(3, .ptr 3 0), (4, .ptr 4 0), (5, .ptr 5 0)], [(3, .box 28 (vV1 a0)), (4, .box 29 [.p (slV (eI .u8) a1)]), (5, .box 3 [.p (i6 (a2))])], L0, []⟩ trivial ?_
  refine WX.seq ?_
  obtain ⟨t2_2, h2_1, h⟩ := bind_some h
  refine WC.r1 hn [(1, .co [] [] [] [(9, rowV 25 e_api_Bits t2_2.Follow)] (.agg [.p (sC t2_2.Classes), .p (i6 (t2_2.First.N)), .p (sW t2_2.First.Words), .p (i6 (t2_2.Last.N)), .p (sW t2_2.Last.Words), .own 9, .p (bo (t2_2.Null))]))] [4, 5, 7] [4, 5, 7, 9] ⟨[(4, .ptr 4 0), (5, .ptr 5 0), (7, .ptr 7 0)], [(4, .box 29 [.p (slV (eI .u8) a1)]), (5, .box 3 [.p (i6 (a2))]), (7, .box 28 [.p (sC t2_2.Classes), .p (i6 (t2_2.First.N)), .p (sW t2_2.First.Words), .p (i6 (t2_2.Last.N)), .p (sW t2_2.Last.Words), .own 9, .p (bo (t2_2.Null))]), (9, rowV 25 e_api_Bits t2_2.Follow)], L0, []⟩ (And.intro (And.intro ((reverse_Reverse_ok h2_1).ren 29 9 (by kernel_rfl)) (trivial)) (trivial)) ?_
  refine WX.seq ?_
  obtain ⟨t3_2, h3_1, h⟩ := bind_some h
  refine WC.r1 hn [(1, .co [] [] [] [(11, rowV 5 (eI .u8) t3_2)] (.own 11))] [4, 5, 7] [4, 5, 7, 9, 11] ⟨[(4, .ptr 4 0), (5, .ptr 5 0), (7, .ptr 7 0)], [(4, .box 29 [.own 11]), (5, .box 3 [.p (i6 (a2))]), (7, .box 28 [.p (sC t2_2.Classes), .p (i6 (t2_2.First.N)), .p (sW t2_2.First.Words), .p (i6 (t2_2.Last.N)), .p (sW t2_2.Last.Words), .own 9, .p (bo (t2_2.Null))]), (9, rowV 25 e_api_Bits t2_2.Follow), (11, rowV 5 (eI .u8) t3_2)], L0, []⟩ (And.intro (And.intro ((slices_Clone_byte_byte_ok h3_1).ren 7 11 (by kernel_rfl)) (trivial)) (trivial)) ?_
  refine WC.rg hn [] [6] [4, 5, 7, 9, 11] ⟨[(6, .fn 38 [.ptr 5 0, .ptr 4 0, .ptr 7 0])], [(4, .box 29 [.own 11]), (5, .box 3 [.p (i6 (a2))]), (7, .box 28 [.p (sC t2_2.Classes), .p (i6 (t2_2.First.N)), .p (sW t2_2.First.Words), .p (i6 (t2_2.Last.N)), .p (sW t2_2.Last.Words), .own 9, .p (bo (t2_2.Null))]), (9, rowV 25 e_api_Bits t2_2.Follow), (11, rowV 5 (eI .u8) t3_2)], L0, []⟩ trivial ?_
  refine WX.ret ?_
  exact WC.outP (by rw [← Option.some.inj h]; kernel_rfl)
def reverse_Starts_1_v1_l0 (a1 : Int) (a2 : (List Int)) (a3 : api_Nfa) : Nat → (Int × Int × List Int) → Option (List Int)
  | 0, _ => none
  | k + 1, (x1_1_1, x1_1_2, x1_1_3) => ((if (x1_1_1 == 0) = true then some true else (if (decide (x1_1_1 < a1)) = true then (nfa_Dead k a3 ((api_Bits.mk x1_1_2 x1_1_3))).bind fun t29_2 => some t29_2 else some false)) : Option (Bool)).bind fun v29 => (if v29 = true then some [] else (at_ a2 ((IntKind.i64.wrap (x1_1_1 - 1)))).bind fun t32_2 => (nfa_Next k a3 ((api_Bits.mk x1_1_2 x1_1_3)) (((IntKind.i64.wrap (x1_1_1 - 1)) == (IntKind.i64.wrap (a1 - 1)))) t32_2).bind fun t32_4 => (nfa_Accepts k a3 t32_4).bind fun t33_2 => (if t33_2 = true then (reverse_Starts_1_v1_l0 a1 a2 a3 k ((IntKind.i64.wrap (x1_1_1 - 1)), t32_4.N, t32_4.Words)).map ((IntKind.i64.wrap (x1_1_1 - 1)) :: ·) else reverse_Starts_1_v1_l0 a1 a2 a3 k ((IntKind.i64.wrap (x1_1_1 - 1)), t32_4.N, t32_4.Words)))
def reverse_Starts_1_v1 (k : Nat) (a1 : Int) (a2 : (List Int)) (a3 : api_Nfa) : Option (List Int) :=
  (if (decide (a1 < 0)) = true then some [] else (if (decide (a1 > (a2.length : Int))) = true then some [] else (if a3.Null = true then ((nfa_None k a3).bind fun t35_2 => reverse_Starts_1_v1_l0 a1 a2 a3 k (a1, t35_2.N, t35_2.Words)).map (a1 :: ·) else (nfa_None k a3).bind fun t37_2 => reverse_Starts_1_v1_l0 a1 a2 a3 k (a1, t37_2.N, t37_2.Words))))
theorem reverse_Starts_1_v1_it {k : Nat} {a1 : Int} {a2 : (List Int)} {a3 : api_Nfa} {r : List Int} (h : reverse_Starts_1_v1 k a1 a2 a3 = some r) : Iter Tryd.prog 38 [.rop ([i6 (a1)]), .rop ([slV (eI .u8) a2]), .rop ([sC a3.Classes, i6 (a3.First.N), sW a3.First.Words, i6 (a3.Last.N), sW a3.Last.Words, sB a3.Follow, bo (a3.Null)])] (r.map (fun x : Int => ([i6 (x)] : List PV))) := by
  refine W_it Tryd.func38 rfl (by kernel_rfl) (Nat.le_of_ble_eq_true (by kernel_rfl)) ?_
  intro X hro hn hY
  obtain ⟨L, hLe⟩ : ∃ L, L = r.map (fun x : Int => ([i6 (x)] : List PV)) := ⟨_, rfl⟩
  rw [← hLe] at hY ⊢
  have hL : ([] : List (List PV)) ++ r.map (fun x : Int => ([i6 (x)] : List PV)) = L := by rw [hLe]; rfl
  clear hLe
  unfold reverse_Starts_1_v1 at h
  refine WC.jumps (V := Int × Int × List Int × List (List PV)) (l := 0) rfl (fun k v1 => (reverse_Starts_1_v1_l0 a1 a2 a3 k (v1.1, v1.2.1, v1.2.2.1)).map fun r => v1.2.2.2 ++ r.map (fun x : Int => ([i6 (x)] : List PV))) L (fun v1 => ⟨[(0, .yield), (1, .p (.rop ([i6 (a1)]))), (2, .p (.rop ([slV (eI .u8) a2]))), (3, .p (.rop ([sC a3.Classes, i6 (a3.First.N), sW a3.First.Words, i6 (a3.Last.N), sW a3.Last.Words, sB a3.Follow, bo (a3.Null)]))), (5, .ptr 5 0), (6, .p (i6 (v1.1)))], [(5, .box 25 [.p (i6 (v1.2.1)), .p (sW v1.2.2.1)])], ⟨v1.2.2.2, false⟩, []⟩) (fun _ => rfl) (fun K1 hfirst1 hsc1 => ?_) ?_
  · refine WX.seq ?_
    refine WX.seq ?_
    rcases if_or h with ⟨b34_2, h⟩ | ⟨b34_2, h⟩
    · refine WC.r1 hn [(2, .val (.p (bo (true))))] [0, 1, 2, 3, 24] [] ⟨[(0, .yield), (1, .p (.rop ([i6 (a1)]))), (2, .p (.rop ([slV (eI .u8) a2]))), (3, .p (.rop ([sC a3.Classes, i6 (a3.First.N), sW a3.First.Words, i6 (a3.Last.N), sW a3.Last.Words, sB a3.Follow, bo (a3.Null)]))), (24, .p (bo (true)))], [], ⟨([] : List (List PV)), false⟩, []⟩ (And.intro (Bl b34_2) (trivial)) ?_
      refine WC.condT rfl (by kernel_rfl) ?_
      refine WX.ret ?_
      refine WC.ret_all (hsc1 _ _ (fun _ h => by cases h) ?_)
      obtain rfl := Option.some.inj h
      exact WC.ret_all ⟨by kernel_rfl, fun _ => by simpa using hL⟩
    · rcases if_or h with ⟨b34_8, h⟩ | ⟨b34_8, h⟩
      · refine WC.r1 hn [(2, .val (.p (bo (false)))), (8, .val (.p (bo (true))))] [0, 1, 2, 3, 24] [] ⟨[(0, .yield), (1, .p (.rop ([i6 (a1)]))), (2, .p (.rop ([slV (eI .u8) a2]))), (3, .p (.rop ([sC a3.Classes, i6 (a3.First.N), sW a3.First.Words, i6 (a3.Last.N), sW a3.Last.Words, sB a3.Follow, bo (a3.Null)]))), (24, .p (bo (true)))], [], ⟨([] : List (List PV)), false⟩, []⟩ (And.intro (Bl b34_2) (And.intro (Bl b34_8) (trivial))) ?_
        refine WC.condT rfl (by kernel_rfl) ?_
        refine WX.ret ?_
        refine WC.ret_all (hsc1 _ _ (fun _ h => by cases h) ?_)
        obtain rfl := Option.some.inj h
        exact WC.ret_all ⟨by kernel_rfl, fun _ => by simpa using hL⟩
      · rcases if_or h with ⟨b34_11, h⟩ | ⟨b34_11, h⟩
        · obtain ⟨r34, hh34, hr34⟩ := mapO_some h
          subst hr34
          replace h := hh34
          refine WC.yld hn hY 14 [(2, .val (.p (bo (false)))), (8, .val (.p (bo (false)))), (11, .val (.p (bo (true))))] [0, 1, 2, 3, 24] [] (⟨[(0, .yield), (1, .p (.rop ([i6 (a1)]))), (2, .p (.rop ([slV (eI .u8) a2]))), (3, .p (.rop ([sC a3.Classes, i6 (a3.First.N), sW a3.First.Words, i6 (a3.Last.N), sW a3.Last.Words, sB a3.Follow, bo (a3.Null)]))), (24, .p (bo (false)))], [], ⟨(([] : List (List PV)) ++ [[i6 (a1)]]), false⟩, []⟩) (⟨[(0, .yield), (1, .p (.rop ([i6 (a1)]))), (2, .p (.rop ([slV (eI .u8) a2]))), (3, .p (.rop ([sC a3.Classes, i6 (a3.First.N), sW a3.First.Words, i6 (a3.Last.N), sW a3.Last.Words, sB a3.Follow, bo (a3.Null)]))), (24, .p (bo (true)))], [], ⟨(([] : List (List PV)) ++ [[i6 (a1)]]), true⟩, []⟩) ([] : List (List PV)) [i6 (a1)] (And.intro (And.intro (Bl b34_2) (And.intro (Bl b34_8) (And.intro (Bl b34_11) (True.intro)))) (And.intro True.intro True.intro)) (by kernel_rfl) (pre_ok (val := (fun x : Int => ([i6 (x)] : List PV))) (x := a1) (l := r34) hL) ?_ ?_
          · replace hL : (([] : List (List PV)) ++ [[i6 (a1)]]) ++ r34.map (fun x : Int => ([i6 (x)] : List PV)) = L := by rw [← hL]; simp
            refine WC.condF rfl (by kernel_rfl) ?_
            refine WX.skip ?_
            refine WX.seq ?_
            obtain ⟨t35_2, h35_1, h⟩ := bind_some h
            refine WC.r1 hn [(1, .co [] [] [] [(26, rW 58 t35_2.Words)] (.agg [.p (i6 (t35_2.N)), .own 26]))] [0, 1, 2, 3, 5] [5, 26] ⟨[(0, .yield), (1, .p (.rop ([i6 (a1)]))), (2, .p (.rop ([slV (eI .u8) a2]))), (3, .p (.rop ([sC a3.Classes, i6 (a3.First.N), sW a3.First.Words, i6 (a3.Last.N), sW a3.Last.Words, sB a3.Follow, bo (a3.Null)]))), (5, .ptr 5 0)], [(5, .box 25 [.p (i6 (t35_2.N)), .own 26]), (26, rW 58 t35_2.Words)], ⟨(([] : List (List PV)) ++ [[i6 (a1)]]), false⟩, []⟩ (And.intro (And.intro ((nfa_None_ok h35_1).ren 10 26 (by kernel_rfl)) (trivial)) (trivial)) ?_
            refine WC.rg hn [] [0, 1, 2, 3, 5, 6] [5, 26] ⟨[(0, .yield), (1, .p (.rop ([i6 (a1)]))), (2, .p (.rop ([slV (eI .u8) a2]))), (3, .p (.rop ([sC a3.Classes, i6 (a3.First.N), sW a3.First.Words, i6 (a3.Last.N), sW a3.Last.Words, sB a3.Follow, bo (a3.Null)]))), (5, .ptr 5 0), (6, .p (i6 (a1)))], [(5, .box 25 [.p (i6 (t35_2.N)), .own 26]), (26, rW 58 t35_2.Words)], ⟨(([] : List (List PV)) ++ [[i6 (a1)]]), false⟩, []⟩ trivial ?_
            refine WX.seq ?_
            refine WX.label ?_
            refine WC.frz 26 (st' := ⟨[(0, .yield), (1, .p (.rop ([i6 (a1)]))), (2, .p (.rop ([slV (eI .u8) a2]))), (3, .p (.rop ([sC a3.Classes, i6 (a3.First.N), sW a3.First.Words, i6 (a3.Last.N), sW a3.Last.Words, sB a3.Follow, bo (a3.Null)]))), (5, .ptr 5 0), (6, .p (i6 (a1)))], [(5, .box 25 (vV4 t35_2))], ⟨(([] : List (List PV)) ++ [[i6 (a1)]]), false⟩, []⟩) (by kernel_rfl) ?_
            exact WC.keep [0, 1, 2, 3, 5, 6] [5] (by kernel_rfl) (hfirst1 _ (a1, t35_2.N, t35_2.Words, (([] : List (List PV)) ++ [[i6 (a1)]])) (by rw [h]; exact congrArg some hL))
          · refine WC.condT rfl (by kernel_rfl) ?_
            refine WX.ret ?_
            refine WC.ret_all (hsc1 _ _ (fun _ h => by cases h) ?_)
            exact WC.ret_all ⟨by kernel_rfl, fun h => by cases h⟩
        · refine WC.r1 hn [(2, .val (.p (bo (false)))), (8, .val (.p (bo (false)))), (11, .val (.p (bo (false))))] [0, 1, 2, 3, 24] [] ⟨[(0, .yield), (1, .p (.rop ([i6 (a1)]))), (2, .p (.rop ([slV (eI .u8) a2]))), (3, .p (.rop ([sC a3.Classes, i6 (a3.First.N), sW a3.First.Words, i6 (a3.Last.N), sW a3.Last.Words, sB a3.Follow, bo (a3.Null)]))), (24, .p (bo (false)))], [], ⟨([] : List (List PV)), false⟩, []⟩ (And.intro (Bl b34_2) (And.intro (Bl b34_8) (And.intro (Bl b34_11) (trivial)))) ?_
          refine WC.condF rfl (by kernel_rfl) ?_
          refine WX.skip ?_
          refine WX.seq ?_
          obtain ⟨t37_2, h37_1, h⟩ := bind_some h
          refine WC.r1 hn [(1, .co [] [] [] [(26, rW 58 t37_2.Words)] (.agg [.p (i6 (t37_2.N)), .own 26]))] [0, 1, 2, 3, 5] [5, 26] ⟨[(0, .yield), (1, .p (.rop ([i6 (a1)]))), (2, .p (.rop ([slV (eI .u8) a2]))), (3, .p (.rop ([sC a3.Classes, i6 (a3.First.N), sW a3.First.Words, i6 (a3.Last.N), sW a3.Last.Words, sB a3.Follow, bo (a3.Null)]))), (5, .ptr 5 0)], [(5, .box 25 [.p (i6 (t37_2.N)), .own 26]), (26, rW 58 t37_2.Words)], ⟨([] : List (List PV)), false⟩, []⟩ (And.intro (And.intro ((nfa_None_ok h37_1).ren 10 26 (by kernel_rfl)) (trivial)) (trivial)) ?_
          refine WC.rg hn [] [0, 1, 2, 3, 5, 6] [5, 26] ⟨[(0, .yield), (1, .p (.rop ([i6 (a1)]))), (2, .p (.rop ([slV (eI .u8) a2]))), (3, .p (.rop ([sC a3.Classes, i6 (a3.First.N), sW a3.First.Words, i6 (a3.Last.N), sW a3.Last.Words, sB a3.Follow, bo (a3.Null)]))), (5, .ptr 5 0), (6, .p (i6 (a1)))], [(5, .box 25 [.p (i6 (t37_2.N)), .own 26]), (26, rW 58 t37_2.Words)], ⟨([] : List (List PV)), false⟩, []⟩ trivial ?_
          refine WX.seq ?_
          refine WX.label ?_
          refine WC.frz 26 (st' := ⟨[(0, .yield), (1, .p (.rop ([i6 (a1)]))), (2, .p (.rop ([slV (eI .u8) a2]))), (3, .p (.rop ([sC a3.Classes, i6 (a3.First.N), sW a3.First.Words, i6 (a3.Last.N), sW a3.Last.Words, sB a3.Follow, bo (a3.Null)]))), (5, .ptr 5 0), (6, .p (i6 (a1)))], [(5, .box 25 (vV4 t37_2))], ⟨([] : List (List PV)), false⟩, []⟩) (by kernel_rfl) ?_
          exact WC.keep [0, 1, 2, 3, 5, 6] [5] (by kernel_rfl) (hfirst1 _ (a1, t37_2.N, t37_2.Words, ([] : List (List PV))) (by rw [h]; exact congrArg some hL))
  · clear h hL; rintro k ⟨x1_1_1, x1_1_2, x1_1_3, x1_1_4⟩ h K1 hnext1 hsc1
    obtain ⟨r, h, hL⟩ := mapO_some h
    dsimp only at h hL
    rw [reverse_Starts_1_v1_l0] at h
    dsimp only [List.map]
    refine WX.seq ?_
    refine WX.seq ?_
    obtain ⟨m29_1, g29, h⟩ := bind_some h
    refine WC.via (α := Bool) (fun v29 => ⟨[(0, .yield), (1, .p (.rop ([i6 (a1)]))), (2, .p (.rop ([slV (eI .u8) a2]))), (3, .p (.rop ([sC a3.Classes, i6 (a3.First.N), sW a3.First.Words, i6 (a3.Last.N), sW a3.Last.Words, sB a3.Follow, bo (a3.Null)]))), (5, .ptr 5 0), (6, .p (i6 (x1_1_1))), (39, .p (bo (v29)))], [(5, .box 25 [.p (i6 (x1_1_2)), .p (sW x1_1_3)])], ⟨x1_1_4, false⟩, []⟩) m29_1 (fun hk => ?_) ?_
    · rcases if_or g29 with ⟨b29_2, g29⟩ | ⟨b29_2, g29⟩
      · exact WC.reg hn [(2, .val (.p (bo (true))))] [0, 1, 2, 3, 5, 6, 39] [5] ⟨[(0, .yield), (1, .p (.rop ([i6 (a1)]))), (2, .p (.rop ([slV (eI .u8) a2]))), (3, .p (.rop ([sC a3.Classes, i6 (a3.First.N), sW a3.First.Words, i6 (a3.Last.N), sW a3.Last.Words, sB a3.Follow, bo (a3.Null)]))), (5, .ptr 5 0), (6, .p (i6 (x1_1_1))), (39, .p (bo (true)))], [(5, .box 25 [.p (i6 (x1_1_2)), .p (sW x1_1_3)])], ⟨x1_1_4, false⟩, []⟩ (And.intro (Bl b29_2) (trivial)) (by kernel_rfl) (hk true (Option.some.inj g29))
      · rcases if_or g29 with ⟨b29_6, g29⟩ | ⟨b29_6, g29⟩
        · obtain ⟨t29_2, h29_1, g29⟩ := bind_some g29
          exact WC.reg hn [(2, .val (.p (bo (false)))), (6, .val (.p (bo (true)))), (9, .resP (bo (t29_2)))] [0, 1, 2, 3, 5, 6, 39] [5] ⟨[(0, .yield), (1, .p (.rop ([i6 (a1)]))), (2, .p (.rop ([slV (eI .u8) a2]))), (3, .p (.rop ([sC a3.Classes, i6 (a3.First.N), sW a3.First.Words, i6 (a3.Last.N), sW a3.Last.Words, sB a3.Follow, bo (a3.Null)]))), (5, .ptr 5 0), (6, .p (i6 (x1_1_1))), (39, .p (bo (t29_2)))], [(5, .box 25 [.p (i6 (x1_1_2)), .p (sW x1_1_3)])], ⟨x1_1_4, false⟩, []⟩ (And.intro (Bl b29_2) (And.intro (Bl b29_6) (And.intro ((nfa_Dead_ok h29_1)) (trivial)))) (by kernel_rfl) (hk t29_2 (Option.some.inj g29))
        · exact WC.reg hn [(2, .val (.p (bo (false)))), (6, .val (.p (bo (false))))] [0, 1, 2, 3, 5, 6, 39] [5] ⟨[(0, .yield), (1, .p (.rop ([i6 (a1)]))), (2, .p (.rop ([slV (eI .u8) a2]))), (3, .p (.rop ([sC a3.Classes, i6 (a3.First.N), sW a3.First.Words, i6 (a3.Last.N), sW a3.Last.Words, sB a3.Follow, bo (a3.Null)]))), (5, .ptr 5 0), (6, .p (i6 (x1_1_1))), (39, .p (bo (false)))], [(5, .box 25 [.p (i6 (x1_1_2)), .p (sW x1_1_3)])], ⟨x1_1_4, false⟩, []⟩ (And.intro (Bl b29_2) (And.intro (Bl b29_6) (trivial))) (by kernel_rfl) (hk false (Option.some.inj g29))
    rcases if_or h with ⟨c30, h⟩ | ⟨c30, h⟩
    · refine WC.condT c30 (by kernel_rfl) ?_
      refine WX.ret ?_
      refine WC.ret_all (hsc1 _ _ (fun _ h => by cases h) ?_)
      obtain rfl := Option.some.inj h
      exact WC.ret_all ⟨by kernel_rfl, fun _ => by simpa using hL⟩
    · refine WC.condF c30 (by kernel_rfl) ?_
      refine WX.skip ?_
      refine WC.rg hn [] [0, 1, 2, 3, 5, 6] [5] ⟨[(0, .yield), (1, .p (.rop ([i6 (a1)]))), (2, .p (.rop ([slV (eI .u8) a2]))), (3, .p (.rop ([sC a3.Classes, i6 (a3.First.N), sW a3.First.Words, i6 (a3.Last.N), sW a3.Last.Words, sB a3.Follow, bo (a3.Null)]))), (5, .ptr 5 0), (6, .p (i6 (((IntKind.i64.wrap (x1_1_1 - 1))))))], [(5, .box 25 [.p (i6 (x1_1_2)), .p (sW x1_1_3)])], ⟨x1_1_4, false⟩, []⟩ trivial ?_
      refine WX.seq ?_
      obtain ⟨t32_2, h32_1, h⟩ := bind_some h
      obtain ⟨t32_4, h32_3, h⟩ := bind_some h
      refine WC.drw hn [(11, [])] [] [(8, .val (.p (.rop ((eI .u8).cells t32_2 ++ encL (eI .u8) (a2.drop (((IntKind.i64.wrap (x1_1_1 - 1))).toNat + 1)))))), (10, .resP (pP4 t32_4))] [0, 1, 2, 3, 5, 6] [5] ⟨[(0, .yield), (1, .p (.rop ([i6 (a1)]))), (2, .p (.rop ([slV (eI .u8) a2]))), (3, .p (.rop ([sC a3.Classes, i6 (a3.First.N), sW a3.First.Words, i6 (a3.Last.N), sW a3.Last.Words, sB a3.Follow, bo (a3.Null)]))), (5, .ptr 5 0), (6, .p (i6 (((IntKind.i64.wrap (x1_1_1 - 1))))))], [(5, .box 25 (vV4 t32_4))], ⟨x1_1_4, false⟩, []⟩ (And.intro (Ix (eI .u8) h32_1) (And.intro ((nfa_Next_ok h32_3)) (trivial))) (by kernel_rfl) (by kernel_rfl) (by kernel_rfl) (by kernel_rfl) ?_
      refine WX.seq ?_
      refine WX.seq ?_
      obtain ⟨t33_2, h33_1, h⟩ := bind_some h
      rcases if_or h with ⟨b33_3, h⟩ | ⟨b33_3, h⟩
      · obtain ⟨r33, hh33, hr33⟩ := mapO_some h
        subst hr33
        replace h := hh33
        refine WC.yld hn hY 6 [(2, .resP (bo (t33_2))), (3, .val (.p (bo (true))))] [0, 1, 2, 3, 5, 6, 61] [5] (⟨[(0, .yield), (1, .p (.rop ([i6 (a1)]))), (2, .p (.rop ([slV (eI .u8) a2]))), (3, .p (.rop ([sC a3.Classes, i6 (a3.First.N), sW a3.First.Words, i6 (a3.Last.N), sW a3.Last.Words, sB a3.Follow, bo (a3.Null)]))), (5, .ptr 5 0), (6, .p (i6 (((IntKind.i64.wrap (x1_1_1 - 1)))))), (61, .p (bo (false)))], [(5, .box 25 (vV4 t32_4))], ⟨(x1_1_4 ++ [[i6 (((IntKind.i64.wrap (x1_1_1 - 1))))]]), false⟩, []⟩) (⟨[(0, .yield), (1, .p (.rop ([i6 (a1)]))), (2, .p (.rop ([slV (eI .u8) a2]))), (3, .p (.rop ([sC a3.Classes, i6 (a3.First.N), sW a3.First.Words, i6 (a3.Last.N), sW a3.Last.Words, sB a3.Follow, bo (a3.Null)]))), (5, .ptr 5 0), (6, .p (i6 (((IntKind.i64.wrap (x1_1_1 - 1)))))), (61, .p (bo (true)))], [(5, .box 25 (vV4 t32_4))], ⟨(x1_1_4 ++ [[i6 (((IntKind.i64.wrap (x1_1_1 - 1))))]]), true⟩, []⟩) x1_1_4 [i6 (((IntKind.i64.wrap (x1_1_1 - 1))))] (And.intro (And.intro ((nfa_Accepts_ok h33_1)) (And.intro (Bl b33_3) (True.intro))) (And.intro True.intro True.intro)) (by kernel_rfl) (pre_ok (val := (fun x : Int => ([i6 (x)] : List PV))) (x := (IntKind.i64.wrap (x1_1_1 - 1))) (l := r33) hL) ?_ ?_
        · replace hL : (x1_1_4 ++ [[i6 (((IntKind.i64.wrap (x1_1_1 - 1))))]]) ++ r33.map (fun x : Int => ([i6 (x)] : List PV)) = L := by rw [← hL]; simp
          refine WC.condF rfl (by kernel_rfl) ?_
          refine WX.skip ?_
          refine WX.goto ?_
          exact WC.keep [0, 1, 2, 3, 5, 6] [5] (by kernel_rfl) (WC.exit_nil (hnext1 ((IntKind.i64.wrap (x1_1_1 - 1)), t32_4.N, t32_4.Words, (x1_1_4 ++ [[i6 (((IntKind.i64.wrap (x1_1_1 - 1))))]])) (by rw [h]; exact congrArg some hL)))
        · refine WC.condT rfl (by kernel_rfl) ?_
          refine WX.ret ?_
          refine WC.ret_all (hsc1 _ _ (fun _ h => by cases h) ?_)
          exact WC.ret_all ⟨by kernel_rfl, fun h => by cases h⟩
      · refine WC.r1 hn [(2, .resP (bo (t33_2))), (3, .val (.p (bo (false))))] [0, 1, 2, 3, 5, 6, 61] [5] ⟨[(0, .yield), (1, .p (.rop ([i6 (a1)]))), (2, .p (.rop ([slV (eI .u8) a2]))), (3, .p (.rop ([sC a3.Classes, i6 (a3.First.N), sW a3.First.Words, i6 (a3.Last.N), sW a3.Last.Words, sB a3.Follow, bo (a3.Null)]))), (5, .ptr 5 0), (6, .p (i6 (((IntKind.i64.wrap (x1_1_1 - 1)))))), (61, .p (bo (false)))], [(5, .box 25 (vV4 t32_4))], ⟨x1_1_4, false⟩, []⟩ (And.intro ((nfa_Accepts_ok h33_1)) (And.intro (Bl b33_3) (trivial))) ?_
        refine WC.condF rfl (by kernel_rfl) ?_
        refine WX.skip ?_
        refine WX.goto ?_
        exact WC.keep [0, 1, 2, 3, 5, 6] [5] (by kernel_rfl) (WC.exit_nil (hnext1 ((IntKind.i64.wrap (x1_1_1 - 1)), t32_4.N, t32_4.Words, x1_1_4) (by rw [h]; exact congrArg some hL)))
def reverse_Least_l0 (k : Nat) (a1 : (List Int)) (a2 : Int) (a3 : Bool) (a4 : Bool) : List Int → (Int × Bool) → Option (Int × Bool)
  | [], (x4_1_1, x4_1_2) => some (x4_1_1, x4_1_2)
  | x4 :: xs4, (x4_1_1, x4_1_2) => ((if (decide (x4 < a2)) = true then (if (!a3) = true then some true else (if (x4 == 0) = true then some true else (if a4 = true then (at_ a1 ((IntKind.i64.wrap (x4 - 1)))).bind fun t17_2 => some ((t17_2 == 10)) else some false))) else some false) : Option (Bool)).bind fun v17 => (if v17 = true then reverse_Least_l0 k a1 a2 a3 a4 xs4 (x4, true) else reverse_Least_l0 k a1 a2 a3 a4 xs4 (x4_1_1, x4_1_2))
def reverse_Least (k : Nat) (a0 : api_Nfa) (a1 : (List Int)) (a2 : Int) (a3 : Bool) (a4 : Bool) : Option (Int × Bool) :=
  (reverse_Starts k a0 a1 a2).bind fun t3_2 => (reverse_Starts_1_v1 k t3_2.1 t3_2.2.1 t3_2.2.2).bind fun l4 => reverse_Least_l0 k a1 a2 a3 a4 l4 (0, false)
theorem reverse_Least_ok {k : Nat} {a0 : api_Nfa} {a1 : (List Int)} {a2 : Int} {a3 : Bool} {a4 : Bool} {r : Int × Bool} (h : reverse_Least k a0 a1 a2 a3 a4 = some r) : Ans Tryd.prog 11 [pP1 a0, slV (eI .u8) a1, i6 (a2), bo (a3), bo (a4)] (.tup [i6 (r.1), bo (r.2)]) := by
  refine W_fn Tryd.func11 rfl (by kernel_rfl) (by kernel_rfl) ?_
  intro X hro hn
  unfold reverse_Least at h
  refine WC.rg hn [] [5, 6, 7, 8, 9] [5, 6, 7, 8, 9] ⟨[(5, .ptr 5 0), (6, .ptr 6 0), (7, .ptr 7 0), (8, .ptr 8 0), (9, .ptr 9 0)], [(5, .box 28 (vV1 a0)), (6, .box 29 [.p (slV (eI .u8) a1)]), (7, .box 3 [.p (i6 (a2))]), (8, .box 4 [.p (bo (a3))]), (9, .box 4 [.p (bo (a4))])], L0, []⟩ trivial ?_
  refine WC.rg hn [] [5, 6, 7, 8, 9, 12, 13] [5, 6, 7, 8, 9, 12, 13] ⟨[(5, .ptr 5 0), (6, .ptr 6 0), (7, .ptr 7 0), (8, .ptr 8 0), (9, .ptr 9 0), (12, .ptr 12 0), (13, .ptr 13 0)], [(5, .box 28 (vV1 a0)), (6, .box 29 [.p (slV (eI .u8) a1)]), (7, .box 3 [.p (i6 (a2))]), (8, .box 4 [.p (bo (a3))]), (9, .box 4 [.p (bo (a4))]), (12, .box 3 [.p (i6 (0))]), (13, .box 4 [.p (bo (false))])], L0, []⟩ trivial ?_
  refine WX.seq ?_
  refine WX.seq ?_
  obtain ⟨t3_2, h3_1, h⟩ := bind_some h
  refine WC.r1 hn [(3, .resP (.fn 38 [.rop ([i6 (t3_2.1)]), .rop ([slV (eI .u8) t3_2.2.1]), .rop ([sC t3_2.2.2.Classes, i6 (t3_2.2.2.First.N), sW t3_2.2.2.First.Words, i6 (t3_2.2.2.Last.N), sW t3_2.2.2.Last.Words, sB t3_2.2.2.Follow, bo (t3_2.2.2.Null)])]))] [6, 7, 8, 9, 12, 13, 18] [6, 7, 8, 9, 12, 13] ⟨[(6, .ptr 6 0), (7, .ptr 7 0), (8, .ptr 8 0), (9, .ptr 9 0), (12, .ptr 12 0), (13, .ptr 13 0), (18, .p (.fn 38 [.rop ([i6 (t3_2.1)]), .rop ([slV (eI .u8) t3_2.2.1]), .rop ([sC t3_2.2.2.Classes, i6 (t3_2.2.2.First.N), sW t3_2.2.2.First.Words, i6 (t3_2.2.2.Last.N), sW t3_2.2.2.Last.Words, sB t3_2.2.2.Follow, bo (t3_2.2.2.Null)])]))], [(6, .box 29 [.p (slV (eI .u8) a1)]), (7, .box 3 [.p (i6 (a2))]), (8, .box 4 [.p (bo (a3))]), (9, .box 4 [.p (bo (a4))]), (12, .box 3 [.p (i6 (0))]), (13, .box 4 [.p (bo (false))])], L0, []⟩ (And.intro ((reverse_Starts_ok h3_1)) (trivial)) ?_
  refine WX.block ?_
  obtain ⟨l4, hI4, h⟩ := bind_some h
  refine WC.range (V := Int × Bool) hn (reverse_Least_l0 k a1 a2 a3 a4) r (fun v4 => ⟨[(6, .ptr 6 0), (7, .ptr 7 0), (8, .ptr 8 0), (9, .ptr 9 0), (12, .ptr 12 0), (13, .ptr 13 0), (18, .p (.fn 38 [.rop ([i6 (t3_2.1)]), .rop ([slV (eI .u8) t3_2.2.1]), .rop ([sC t3_2.2.2.Classes, i6 (t3_2.2.2.First.N), sW t3_2.2.2.First.Words, i6 (t3_2.2.2.Last.N), sW t3_2.2.2.Last.Words, sB t3_2.2.2.Follow, bo (t3_2.2.2.Null)])]))], [(6, .box 29 [.p (slV (eI .u8) a1)]), (7, .box 3 [.p (i6 (a2))]), (8, .box 4 [.p (bo (a3))]), (9, .box 4 [.p (bo (a4))]), (12, .box 3 [.p (i6 (v4.1))]), (13, .box 4 [.p (bo (v4.2))])], L0, []⟩) (fun x4 v4 => ⟨[(6, .ptr 6 0), (7, .ptr 7 0), (8, .ptr 8 0), (9, .ptr 9 0), (12, .ptr 12 0), (13, .ptr 13 0), (14, .p (i6 (x4))), (18, .p (.fn 38 [.rop ([i6 (t3_2.1)]), .rop ([slV (eI .u8) t3_2.2.1]), .rop ([sC t3_2.2.2.Classes, i6 (t3_2.2.2.First.N), sW t3_2.2.2.First.Words, i6 (t3_2.2.2.Last.N), sW t3_2.2.2.Last.Words, sB t3_2.2.2.Follow, bo (t3_2.2.2.Null)])])), (19, .p (i6 (x4)))], [(6, .box 29 [.p (slV (eI .u8) a1)]), (7, .box 3 [.p (i6 (a2))]), (8, .box 4 [.p (bo (a3))]), (9, .box 4 [.p (bo (a4))]), (12, .box 3 [.p (i6 (v4.1))]), (13, .box 4 [.p (bo (v4.2))])], ⟨[], false⟩, [[(6, .ptr 6 0), (7, .ptr 7 0), (8, .ptr 8 0), (9, .ptr 9 0), (12, .ptr 12 0), (13, .ptr 13 0), (18, .p (.fn 38 [.rop ([i6 (t3_2.1)]), .rop ([slV (eI .u8) t3_2.2.1]), .rop ([sC t3_2.2.2.Classes, i6 (t3_2.2.2.First.N), sW t3_2.2.2.First.Words, i6 (t3_2.2.2.Last.N), sW t3_2.2.2.Last.Words, sB t3_2.2.2.Follow, bo (t3_2.2.2.Null)])]))]]⟩) (fun x : Int => ([i6 (x)] : List PV)) l4 (0, false) h [6, 7, 8, 9, 12, 13, 18] [6, 7, 8, 9, 12, 13] (by kernel_rfl) (fun v4 => .p (.fn 38 [.rop ([i6 (t3_2.1)]), .rop ([slV (eI .u8) t3_2.2.1]), .rop ([sC t3_2.2.2.Classes, i6 (t3_2.2.2.First.N), sW t3_2.2.2.First.Words, i6 (t3_2.2.2.Last.N), sW t3_2.2.2.Last.Words, sB t3_2.2.2.Follow, bo (t3_2.2.2.Null)])])) (fun v4 => by kernel_rfl) (by kernel_rfl) (reverse_Starts_1_v1_it hI4) (by kernel_rfl) (fun v4 => by kernel_rfl) (fun x => rfl) ?_ ?_ ?_
  · clear h; rintro ⟨x4_1_1, x4_1_2⟩ h
    rw [reverse_Least_l0] at h
    refine WX.popBlk ?_
    refine WX.seq ?_
    refine WC.drw hn [] [] [] [10, 11] [] ⟨[(10, .p (i6 (x4_1_1))), (11, .p (bo (x4_1_2)))], [], L0, []⟩ trivial (by kernel_rfl) (by kernel_rfl) (by kernel_rfl) (by kernel_rfl) ?_
    refine WX.ret ?_
    exact WC.outP (by rw [← Option.some.inj h]; kernel_rfl)
  · clear h; intro X hn x4; rintro ⟨x4_1_1, x4_1_2⟩
    refine WC.r1 hn [] [6, 7, 8, 9, 12, 13, 14, 18, 19] [6, 7, 8, 9, 12, 13] ⟨[(6, .ptr 6 0), (7, .ptr 7 0), (8, .ptr 8 0), (9, .ptr 9 0), (12, .ptr 12 0), (13, .ptr 13 0), (14, .p (i6 (x4))), (18, .p (.fn 38 [.rop ([i6 (t3_2.1)]), .rop ([slV (eI .u8) t3_2.2.1]), .rop ([sC t3_2.2.2.Classes, i6 (t3_2.2.2.First.N), sW t3_2.2.2.First.Words, i6 (t3_2.2.2.Last.N), sW t3_2.2.2.Last.Words, sB t3_2.2.2.Follow, bo (t3_2.2.2.Null)])])), (19, .p (i6 (x4)))], [(6, .box 29 [.p (slV (eI .u8) a1)]), (7, .box 3 [.p (i6 (a2))]), (8, .box 4 [.p (bo (a3))]), (9, .box 4 [.p (bo (a4))]), (12, .box 3 [.p (i6 (x4_1_1))]), (13, .box 4 [.p (bo (x4_1_2))])], ⟨[], false⟩, [[(6, .ptr 6 0), (7, .ptr 7 0), (8, .ptr 8 0), (9, .ptr 9 0), (12, .ptr 12 0), (13, .ptr 13 0), (18, .p (.fn 38 [.rop ([i6 (t3_2.1)]), .rop ([slV (eI .u8) t3_2.2.1]), .rop ([sC t3_2.2.2.Classes, i6 (t3_2.2.2.First.N), sW t3_2.2.2.First.Words, i6 (t3_2.2.2.Last.N), sW t3_2.2.2.Last.Words, sB t3_2.2.2.Follow, bo (t3_2.2.2.Null)])]))]]⟩ trivial ?_
    exact WC.exit_nil ⟨rfl, rfl⟩
  · clear h; intro X hn x4 xs4; rintro ⟨x4_1_1, x4_1_2⟩ h K4 hnext4 hexit4
    rw [reverse_Least_l0] at h
    refine WX.block ?_
    refine WX.seq ?_
    obtain ⟨m17_1, g17, h⟩ := bind_some h
    refine WC.via (α := Bool) (fun v17 => ⟨[(12, .ptr 12 0), (13, .ptr 13 0), (14, .p (i6 (x4))), (41, .p (bo (v17)))], [(6, .box 29 [.p (slV (eI .u8) a1)]), (7, .box 3 [.p (i6 (a2))]), (8, .box 4 [.p (bo (a3))]), (9, .box 4 [.p (bo (a4))]), (12, .box 3 [.p (i6 (x4_1_1))]), (13, .box 4 [.p (bo (x4_1_2))])], ⟨[], false⟩, [[(6, .ptr 6 0), (7, .ptr 7 0), (8, .ptr 8 0), (9, .ptr 9 0), (12, .ptr 12 0), (13, .ptr 13 0), (18, .p (.fn 38 [.rop ([i6 (t3_2.1)]), .rop ([slV (eI .u8) t3_2.2.1]), .rop ([sC t3_2.2.2.Classes, i6 (t3_2.2.2.First.N), sW t3_2.2.2.First.Words, i6 (t3_2.2.2.Last.N), sW t3_2.2.2.Last.Words, sB t3_2.2.2.Follow, bo (t3_2.2.2.Null)])]))]]⟩) m17_1 (fun hk => ?_) ?_
    · rcases if_or g17 with ⟨b17_3, g17⟩ | ⟨b17_3, g17⟩
      · rcases if_or g17 with ⟨b17_6, g17⟩ | ⟨b17_6, g17⟩
        · exact WC.reg hn [(3, .val (.p (bo (true)))), (6, .val (.p (bo (true))))] [12, 13, 14, 41] [6, 7, 8, 9, 12, 13] ⟨[(12, .ptr 12 0), (13, .ptr 13 0), (14, .p (i6 (x4))), (41, .p (bo (true)))], [(6, .box 29 [.p (slV (eI .u8) a1)]), (7, .box 3 [.p (i6 (a2))]), (8, .box 4 [.p (bo (a3))]), (9, .box 4 [.p (bo (a4))]), (12, .box 3 [.p (i6 (x4_1_1))]), (13, .box 4 [.p (bo (x4_1_2))])], ⟨[], false⟩, [[(6, .ptr 6 0), (7, .ptr 7 0), (8, .ptr 8 0), (9, .ptr 9 0), (12, .ptr 12 0), (13, .ptr 13 0), (18, .p (.fn 38 [.rop ([i6 (t3_2.1)]), .rop ([slV (eI .u8) t3_2.2.1]), .rop ([sC t3_2.2.2.Classes, i6 (t3_2.2.2.First.N), sW t3_2.2.2.First.Words, i6 (t3_2.2.2.Last.N), sW t3_2.2.2.Last.Words, sB t3_2.2.2.Follow, bo (t3_2.2.2.Null)])]))]]⟩ (And.intro (Bl b17_3) (And.intro (Bl b17_6) (trivial))) (by kernel_rfl) (hk true (Option.some.inj g17))
        · rcases if_or g17 with ⟨b17_10, g17⟩ | ⟨b17_10, g17⟩
          · exact WC.reg hn [(3, .val (.p (bo (true)))), (6, .val (.p (bo (false)))), (10, .val (.p (bo (true))))] [12, 13, 14, 41] [6, 7, 8, 9, 12, 13] ⟨[(12, .ptr 12 0), (13, .ptr 13 0), (14, .p (i6 (x4))), (41, .p (bo (true)))], [(6, .box 29 [.p (slV (eI .u8) a1)]), (7, .box 3 [.p (i6 (a2))]), (8, .box 4 [.p (bo (a3))]), (9, .box 4 [.p (bo (a4))]), (12, .box 3 [.p (i6 (x4_1_1))]), (13, .box 4 [.p (bo (x4_1_2))])], ⟨[], false⟩, [[(6, .ptr 6 0), (7, .ptr 7 0), (8, .ptr 8 0), (9, .ptr 9 0), (12, .ptr 12 0), (13, .ptr 13 0), (18, .p (.fn 38 [.rop ([i6 (t3_2.1)]), .rop ([slV (eI .u8) t3_2.2.1]), .rop ([sC t3_2.2.2.Classes, i6 (t3_2.2.2.First.N), sW t3_2.2.2.First.Words, i6 (t3_2.2.2.Last.N), sW t3_2.2.2.Last.Words, sB t3_2.2.2.Follow, bo (t3_2.2.2.Null)])]))]]⟩ (And.intro (Bl b17_3) (And.intro (Bl b17_6) (And.intro (Bl b17_10) (trivial)))) (by kernel_rfl) (hk true (Option.some.inj g17))
          · rcases if_or g17 with ⟨b17_12, g17⟩ | ⟨b17_12, g17⟩
            · obtain ⟨t17_2, h17_1, g17⟩ := bind_some g17
              exact WC.reg hn [(3, .val (.p (bo (true)))), (6, .val (.p (bo (false)))), (10, .val (.p (bo (false)))), (12, .val (.p (bo (true)))), (16, .val (.p (.rop ((eI .u8).cells t17_2 ++ encL (eI .u8) (a1.drop (((IntKind.i64.wrap (x4 - 1))).toNat + 1))))))] [12, 13, 14, 41] [6, 7, 8, 9, 12, 13] ⟨[(12, .ptr 12 0), (13, .ptr 13 0), (14, .p (i6 (x4))), (41, .p (bo (((t17_2 == 10)))))], [(6, .box 29 [.p (slV (eI .u8) a1)]), (7, .box 3 [.p (i6 (a2))]), (8, .box 4 [.p (bo (a3))]), (9, .box 4 [.p (bo (a4))]), (12, .box 3 [.p (i6 (x4_1_1))]), (13, .box 4 [.p (bo (x4_1_2))])], ⟨[], false⟩, [[(6, .ptr 6 0), (7, .ptr 7 0), (8, .ptr 8 0), (9, .ptr 9 0), (12, .ptr 12 0), (13, .ptr 13 0), (18, .p (.fn 38 [.rop ([i6 (t3_2.1)]), .rop ([slV (eI .u8) t3_2.2.1]), .rop ([sC t3_2.2.2.Classes, i6 (t3_2.2.2.First.N), sW t3_2.2.2.First.Words, i6 (t3_2.2.2.Last.N), sW t3_2.2.2.Last.Words, sB t3_2.2.2.Follow, bo (t3_2.2.2.Null)])]))]]⟩ (And.intro (Bl b17_3) (And.intro (Bl b17_6) (And.intro (Bl b17_10) (And.intro (Bl b17_12) (And.intro (Ix (eI .u8) h17_1) (trivial)))))) (by kernel_rfl) (hk ((t17_2 == 10)) (Option.some.inj g17))
            · exact WC.reg hn [(3, .val (.p (bo (true)))), (6, .val (.p (bo (false)))), (10, .val (.p (bo (false)))), (12, .val (.p (bo (false))))] [12, 13, 14, 41] [6, 7, 8, 9, 12, 13] ⟨[(12, .ptr 12 0), (13, .ptr 13 0), (14, .p (i6 (x4))), (41, .p (bo (false)))], [(6, .box 29 [.p (slV (eI .u8) a1)]), (7, .box 3 [.p (i6 (a2))]), (8, .box 4 [.p (bo (a3))]), (9, .box 4 [.p (bo (a4))]), (12, .box 3 [.p (i6 (x4_1_1))]), (13, .box 4 [.p (bo (x4_1_2))])], ⟨[], false⟩, [[(6, .ptr 6 0), (7, .ptr 7 0), (8, .ptr 8 0), (9, .ptr 9 0), (12, .ptr 12 0), (13, .ptr 13 0), (18, .p (.fn 38 [.rop ([i6 (t3_2.1)]), .rop ([slV (eI .u8) t3_2.2.1]), .rop ([sC t3_2.2.2.Classes, i6 (t3_2.2.2.First.N), sW t3_2.2.2.First.Words, i6 (t3_2.2.2.Last.N), sW t3_2.2.2.Last.Words, sB t3_2.2.2.Follow, bo (t3_2.2.2.Null)])]))]]⟩ (And.intro (Bl b17_3) (And.intro (Bl b17_6) (And.intro (Bl b17_10) (And.intro (Bl b17_12) (trivial))))) (by kernel_rfl) (hk false (Option.some.inj g17))
      · exact WC.reg hn [(3, .val (.p (bo (false))))] [12, 13, 14, 41] [6, 7, 8, 9, 12, 13] ⟨[(12, .ptr 12 0), (13, .ptr 13 0), (14, .p (i6 (x4))), (41, .p (bo (false)))], [(6, .box 29 [.p (slV (eI .u8) a1)]), (7, .box 3 [.p (i6 (a2))]), (8, .box 4 [.p (bo (a3))]), (9, .box 4 [.p (bo (a4))]), (12, .box 3 [.p (i6 (x4_1_1))]), (13, .box 4 [.p (bo (x4_1_2))])], ⟨[], false⟩, [[(6, .ptr 6 0), (7, .ptr 7 0), (8, .ptr 8 0), (9, .ptr 9 0), (12, .ptr 12 0), (13, .ptr 13 0), (18, .p (.fn 38 [.rop ([i6 (t3_2.1)]), .rop ([slV (eI .u8) t3_2.2.1]), .rop ([sC t3_2.2.2.Classes, i6 (t3_2.2.2.First.N), sW t3_2.2.2.First.Words, i6 (t3_2.2.2.Last.N), sW t3_2.2.2.Last.Words, sB t3_2.2.2.Follow, bo (t3_2.2.2.Null)])]))]]⟩ (And.intro (Bl b17_3) (trivial)) (by kernel_rfl) (hk false (Option.some.inj g17))
    rcases if_or h with ⟨c18, h⟩ | ⟨c18, h⟩
    · refine WC.condT c18 (by kernel_rfl) ?_
      refine WC.r1 hn [] [] [6, 7, 8, 9, 12, 13] ⟨[], [(6, .box 29 [.p (slV (eI .u8) a1)]), (7, .box 3 [.p (i6 (a2))]), (8, .box 4 [.p (bo (a3))]), (9, .box 4 [.p (bo (a4))]), (12, .box 3 [.p (i6 (x4))]), (13, .box 4 [.p (bo (true))])], ⟨[], false⟩, [[(6, .ptr 6 0), (7, .ptr 7 0), (8, .ptr 8 0), (9, .ptr 9 0), (12, .ptr 12 0), (13, .ptr 13 0), (18, .p (.fn 38 [.rop ([i6 (t3_2.1)]), .rop ([slV (eI .u8) t3_2.2.1]), .rop ([sC t3_2.2.2.Classes, i6 (t3_2.2.2.First.N), sW t3_2.2.2.First.Words, i6 (t3_2.2.2.Last.N), sW t3_2.2.2.Last.Words, sB t3_2.2.2.Follow, bo (t3_2.2.2.Null)])]))]]⟩ trivial ?_
      refine WX.popBlk ?_
      refine WC.keep [] [6, 7, 8, 9, 12, 13] (st' := ⟨[], [(6, .box 29 [.p (slV (eI .u8) a1)]), (7, .box 3 [.p (i6 (a2))]), (8, .box 4 [.p (bo (a3))]), (9, .box 4 [.p (bo (a4))]), (12, .box 3 [.p (i6 (x4))]), (13, .box 4 [.p (bo (true))])], ⟨[], false⟩, [[(6, .ptr 6 0), (7, .ptr 7 0), (8, .ptr 8 0), (9, .ptr 9 0), (12, .ptr 12 0), (13, .ptr 13 0), (18, .p (.fn 38 [.rop ([i6 (t3_2.1)]), .rop ([slV (eI .u8) t3_2.2.1]), .rop ([sC t3_2.2.2.Classes, i6 (t3_2.2.2.First.N), sW t3_2.2.2.First.Words, i6 (t3_2.2.2.Last.N), sW t3_2.2.2.Last.Words, sB t3_2.2.2.Follow, bo (t3_2.2.2.Null)])]))]]⟩) (by kernel_rfl) ?_
      exact WC.nextR [] [6, 7, 8, 9, 12, 13] (s := ⟨[], [(6, .box 29 [.p (slV (eI .u8) a1)]), (7, .box 3 [.p (i6 (a2))]), (8, .box 4 [.p (bo (a3))]), (9, .box 4 [.p (bo (a4))]), (12, .box 3 [.p (i6 (x4))]), (13, .box 4 [.p (bo (true))])], ⟨[], false⟩, [[(6, .ptr 6 0), (7, .ptr 7 0), (8, .ptr 8 0), (9, .ptr 9 0), (12, .ptr 12 0), (13, .ptr 13 0), (18, .p (.fn 38 [.rop ([i6 (t3_2.1)]), .rop ([slV (eI .u8) t3_2.2.1]), .rop ([sC t3_2.2.2.Classes, i6 (t3_2.2.2.First.N), sW t3_2.2.2.First.Words, i6 (t3_2.2.2.Last.N), sW t3_2.2.2.Last.Words, sB t3_2.2.2.Follow, bo (t3_2.2.2.Null)])]))]]⟩) (by kernel_rfl) rfl (fun s hb => hnext4 (x4, true) s h hb)
    · refine WC.condF c18 (by kernel_rfl) ?_
      refine WX.skip ?_
      refine WX.popBlk ?_
      refine WC.keep [] [6, 7, 8, 9, 12, 13] (st' := ⟨[], [(6, .box 29 [.p (slV (eI .u8) a1)]), (7, .box 3 [.p (i6 (a2))]), (8, .box 4 [.p (bo (a3))]), (9, .box 4 [.p (bo (a4))]), (12, .box 3 [.p (i6 (x4_1_1))]), (13, .box 4 [.p (bo (x4_1_2))])], ⟨[], false⟩, [[(6, .ptr 6 0), (7, .ptr 7 0), (8, .ptr 8 0), (9, .ptr 9 0), (12, .ptr 12 0), (13, .ptr 13 0), (18, .p (.fn 38 [.rop ([i6 (t3_2.1)]), .rop ([slV (eI .u8) t3_2.2.1]), .rop ([sC t3_2.2.2.Classes, i6 (t3_2.2.2.First.N), sW t3_2.2.2.First.Words, i6 (t3_2.2.2.Last.N), sW t3_2.2.2.Last.Words, sB t3_2.2.2.Follow, bo (t3_2.2.2.Null)])]))]]⟩) (by kernel_rfl) ?_
      exact WC.nextR [] [6, 7, 8, 9, 12, 13] (s := ⟨[], [(6, .box 29 [.p (slV (eI .u8) a1)]), (7, .box 3 [.p (i6 (a2))]), (8, .box 4 [.p (bo (a3))]), (9, .box 4 [.p (bo (a4))]), (12, .box 3 [.p (i6 (x4_1_1))]), (13, .box 4 [.p (bo (x4_1_2))])], ⟨[], false⟩, [[(6, .ptr 6 0), (7, .ptr 7 0), (8, .ptr 8 0), (9, .ptr 9 0), (12, .ptr 12 0), (13, .ptr 13 0), (18, .p (.fn 38 [.rop ([i6 (t3_2.1)]), .rop ([slV (eI .u8) t3_2.2.1]), .rop ([sC t3_2.2.2.Classes, i6 (t3_2.2.2.First.N), sW t3_2.2.2.First.Words, i6 (t3_2.2.2.Last.N), sW t3_2.2.2.Last.Words, sB t3_2.2.2.Follow, bo (t3_2.2.2.Null)])]))]]⟩) (by kernel_rfl) rfl (fun s hb => hnext4 (x4_1_1, x4_1_2) s h hb)
def riddleref12_Least_l0 (a1 : (List Int)) (a2 : Int) (a3 : Bool) (a4 : Bool) (t2_2 : (List Int)) (J4 : Unit → Option (Int × Bool)) : Nat → Int → Option (Int × Bool)
  | 0, _ => none
  | k + 1, x21_1_1 => (if (decide (x21_1_1 ≥ 0)) = true then (at_ t2_2 x21_1_1).bind fun t38_2 => ((if (decide (t38_2 < a2)) = true then (if (!a3) = true then some true else (if (t38_2 == 0) = true then some true else (if a4 = true then (at_ a1 ((IntKind.i64.wrap (t38_2 - 1)))).bind fun t39_2 => some ((t39_2 == 10)) else some false))) else some false) : Option (Bool)).bind fun v39 => (if v39 = true then some (t38_2, true) else riddleref12_Least_l0 a1 a2 a3 a4 t2_2 J4 k ((IntKind.i64.wrap (x21_1_1 - 1)))) else J4 ())
def riddleref12_Least (k : Nat) (a0 : api_Nfa) (a1 : (List Int)) (a2 : Int) (a3 : Bool) (a4 : Bool) : Option (Int × Bool) :=
  (riddleref12_Starts k a0 a1 a2).bind fun t2_2 => jn (fun (v4 : Unit) => some (0, false)) fun J4 => riddleref12_Least_l0 a1 a2 a3 a4 t2_2 J4 k ((IntKind.i64.wrap ((t2_2.length : Int) - 1)))
theorem riddleref12_Least_ok {k : Nat} {a0 : api_Nfa} {a1 : (List Int)} {a2 : Int} {a3 : Bool} {a4 : Bool} {r : Int × Bool} (h : riddleref12_Least k a0 a1 a2 a3 a4 = some r) : Ans Tryd.prog 12 [pP1 a0, slV (eI .u8) a1, i6 (a2), bo (a3), bo (a4)] (.tup [i6 (r.1), bo (r.2)]) := by
  refine W_fn Tryd.func12 rfl (by kernel_rfl) (by kernel_rfl) ?_
  intro X hro hn
  unfold riddleref12_Least at h
  refine WC.rg hn [] [1, 2, 3, 4, 5] [5] ⟨[(1, .p (slV (eI .u8) a1)), (2, .p (i6 (a2))), (3, .p (bo (a3))), (4, .p (bo (a4))), (5, .ptr 5 0)], [(5, .box 28 (vV1 a0))], L0, []⟩ trivial ?_
  refine WX.seq ?_
  obtain ⟨t2_2, h2_1, h⟩ := bind_some h
  refine WC.r1 hn [(3, .co [] [] [] [(18, rI 3 t2_2)] (.own 18))] [1, 2, 3, 4, 12] [18] ⟨[(1, .p (slV (eI .u8) a1)), (2, .p (i6 (a2))), (3, .p (bo (a3))), (4, .p (bo (a4))), (12, .own 18)], [(18, rI 3 t2_2)], L0, []⟩ (And.intro (And.intro ((riddleref12_Starts_ok h2_1).ren 33 18 (by kernel_rfl)) (trivial)) (trivial)) ?_
  refine WX.seq ?_
  refine WC.rg hn [] [1, 2, 3, 4, 12, 13] [18] ⟨[(1, .p (slV (eI .u8) a1)), (2, .p (i6 (a2))), (3, .p (bo (a3))), (4, .p (bo (a4))), (12, .own 18), (13, .p (i6 (((IntKind.i64.wrap ((t2_2.length : Int) - 1))))))], [(18, rI 3 t2_2)], L0, []⟩ trivial ?_
  obtain ⟨J4, eJ4, h⟩ := jn_some h
  try dsimp only at h
  refine WC.join (α := Unit) (fun v4 => ⟨[], [], L0, []⟩) (fun v4 => J4 v4 = some r) ?_ (fun hJ4 => ?_)
  · rintro _ h
    rw [eJ4] at h
    try dsimp only at h
    refine WC.rg hn [] [10, 11] [] ⟨[(10, .p (i6 (0))), (11, .p (bo (false)))], [], L0, []⟩ trivial ?_
    refine WX.ret ?_
    exact WC.outP (by rw [← Option.some.inj h]; kernel_rfl)
  · skip
    refine WX.block ?_
    refine WC.loop (V := Int) (riddleref12_Least_l0 a1 a2 a3 a4 t2_2 J4) r (fun v21 => ⟨[(1, .p (slV (eI .u8) a1)), (2, .p (i6 (a2))), (3, .p (bo (a3))), (4, .p (bo (a4))), (12, .own 18), (13, .p (i6 (v21)))], [(18, rI 3 t2_2)], L0, []⟩) _ ((IntKind.i64.wrap ((t2_2.length : Int) - 1))) h (fun _ => rfl) [1, 2, 3, 4, 12, 13] [18] (by kernel_rfl) ?_
    clear h; rintro k x21_1_1 h K21 hnext21 hexit21
    rw [riddleref12_Least_l0] at h
    refine WX.seq ?_
    refine WC.rg hn [] [1, 2, 3, 4, 12, 13, 23] [18] ⟨[(1, .p (slV (eI .u8) a1)), (2, .p (i6 (a2))), (3, .p (bo (a3))), (4, .p (bo (a4))), (12, .own 18), (13, .p (i6 (x21_1_1))), (23, .p (bo (((decide (x21_1_1 ≥ 0))))))], [(18, rI 3 t2_2)], L0, []⟩ trivial ?_
    rcases if_or h with ⟨c37, h⟩ | ⟨c37, h⟩
    · refine WC.condT c37 (by kernel_rfl) ?_
      refine WX.skip ?_
      refine WX.seq ?_
      refine WX.block ?_
      refine WX.seq ?_
      obtain ⟨t38_2, h38_1, h⟩ := bind_some h
      refine WC.r1 hn [(2, .val (.ptr 18 (x21_1_1.toNat * 1))), (3, .val (.p (i6 (t38_2))))] [1, 2, 3, 4, 12, 13, 14] [18] ⟨[(1, .p (slV (eI .u8) a1)), (2, .p (i6 (a2))), (3, .p (bo (a3))), (4, .p (bo (a4))), (12, .own 18), (13, .p (i6 (x21_1_1))), (14, .p (i6 (t38_2)))], [(18, rI 3 t2_2)], L0, []⟩ (And.intro (IxO 18 1 h38_1) (And.intro (LdO0 Tryd.prog (eI .i64) 3 h38_1) (trivial))) ?_
      refine WX.seq ?_
      obtain ⟨m39_1, g39, h⟩ := bind_some h
      refine WC.via (α := Bool) (fun v39 => ⟨[(1, .p (slV (eI .u8) a1)), (2, .p (i6 (a2))), (3, .p (bo (a3))), (4, .p (bo (a4))), (12, .own 18), (13, .p (i6 (x21_1_1))), (14, .p (i6 (t38_2))), (51, .p (bo (v39)))], [(18, rI 3 t2_2)], L0, []⟩) m39_1 (fun hk => ?_) ?_
      · rcases if_or g39 with ⟨b39_3, g39⟩ | ⟨b39_3, g39⟩
        · rcases if_or g39 with ⟨b39_6, g39⟩ | ⟨b39_6, g39⟩
          · exact WC.reg hn [(3, .val (.p (bo (true)))), (6, .val (.p (bo (true))))] [1, 2, 3, 4, 12, 13, 14, 51] [18] ⟨[(1, .p (slV (eI .u8) a1)), (2, .p (i6 (a2))), (3, .p (bo (a3))), (4, .p (bo (a4))), (12, .own 18), (13, .p (i6 (x21_1_1))), (14, .p (i6 (t38_2))), (51, .p (bo (true)))], [(18, rI 3 t2_2)], L0, []⟩ (And.intro (Bl b39_3) (And.intro (Bl b39_6) (trivial))) (by kernel_rfl) (hk true (Option.some.inj g39))
          · rcases if_or g39 with ⟨b39_10, g39⟩ | ⟨b39_10, g39⟩
            · exact WC.reg hn [(3, .val (.p (bo (true)))), (6, .val (.p (bo (false)))), (10, .val (.p (bo (true))))] [1, 2, 3, 4, 12, 13, 14, 51] [18] ⟨[(1, .p (slV (eI .u8) a1)), (2, .p (i6 (a2))), (3, .p (bo (a3))), (4, .p (bo (a4))), (12, .own 18), (13, .p (i6 (x21_1_1))), (14, .p (i6 (t38_2))), (51, .p (bo (true)))], [(18, rI 3 t2_2)], L0, []⟩ (And.intro (Bl b39_3) (And.intro (Bl b39_6) (And.intro (Bl b39_10) (trivial)))) (by kernel_rfl) (hk true (Option.some.inj g39))
            · rcases if_or g39 with ⟨b39_12, g39⟩ | ⟨b39_12, g39⟩
              · obtain ⟨t39_2, h39_1, g39⟩ := bind_some g39
                exact WC.reg hn [(3, .val (.p (bo (true)))), (6, .val (.p (bo (false)))), (10, .val (.p (bo (false)))), (12, .val (.p (bo (true)))), (16, .val (.p (.rop ((eI .u8).cells t39_2 ++ encL (eI .u8) (a1.drop (((IntKind.i64.wrap (t38_2 - 1))).toNat + 1))))))] [1, 2, 3, 4, 12, 13, 14, 51] [18] ⟨[(1, .p (slV (eI .u8) a1)), (2, .p (i6 (a2))), (3, .p (bo (a3))), (4, .p (bo (a4))), (12, .own 18), (13, .p (i6 (x21_1_1))), (14, .p (i6 (t38_2))), (51, .p (bo (((t39_2 == 10)))))], [(18, rI 3 t2_2)], L0, []⟩ (And.intro (Bl b39_3) (And.intro (Bl b39_6) (And.intro (Bl b39_10) (And.intro (Bl b39_12) (And.intro (Ix (eI .u8) h39_1) (trivial)))))) (by kernel_rfl) (hk ((t39_2 == 10)) (Option.some.inj g39))
              · exact WC.reg hn [(3, .val (.p (bo (true)))), (6, .val (.p (bo (false)))), (10, .val (.p (bo (false)))), (12, .val (.p (bo (false))))] [1, 2, 3, 4, 12, 13, 14, 51] [18] ⟨[(1, .p (slV (eI .u8) a1)), (2, .p (i6 (a2))), (3, .p (bo (a3))), (4, .p (bo (a4))), (12, .own 18), (13, .p (i6 (x21_1_1))), (14, .p (i6 (t38_2))), (51, .p (bo (false)))], [(18, rI 3 t2_2)], L0, []⟩ (And.intro (Bl b39_3) (And.intro (Bl b39_6) (And.intro (Bl b39_10) (And.intro (Bl b39_12) (trivial))))) (by kernel_rfl) (hk false (Option.some.inj g39))
        · exact WC.reg hn [(3, .val (.p (bo (false))))] [1, 2, 3, 4, 12, 13, 14, 51] [18] ⟨[(1, .p (slV (eI .u8) a1)), (2, .p (i6 (a2))), (3, .p (bo (a3))), (4, .p (bo (a4))), (12, .own 18), (13, .p (i6 (x21_1_1))), (14, .p (i6 (t38_2))), (51, .p (bo (false)))], [(18, rI 3 t2_2)], L0, []⟩ (And.intro (Bl b39_3) (trivial)) (by kernel_rfl) (hk false (Option.some.inj g39))
      rcases if_or h with ⟨c40, h⟩ | ⟨c40, h⟩
      · refine WC.condT c40 (by kernel_rfl) ?_
        refine WC.rg hn [] [10, 11] [] ⟨[(10, .p (i6 (t38_2))), (11, .p (bo (true)))], [], L0, []⟩ trivial ?_
        refine WX.ret ?_
        refine WC.ret_all (hexit21 _ _ (by simp) ?_)
        exact WC.outP (by rw [← Option.some.inj h]; kernel_rfl)
      · refine WC.condF c40 (by kernel_rfl) ?_
        refine WX.skip ?_
        refine WX.popBlk ?_
        refine WC.r1 hn [] [1, 2, 3, 4, 12, 13] [18] ⟨[(1, .p (slV (eI .u8) a1)), (2, .p (i6 (a2))), (3, .p (bo (a3))), (4, .p (bo (a4))), (12, .own 18), (13, .p (i6 (((IntKind.i64.wrap (x21_1_1 - 1))))))], [(18, rI 3 t2_2)], L0, []⟩ trivial ?_
        exact WC.next [1, 2, 3, 4, 12, 13] [18] (by kernel_rfl) (hnext21 ((IntKind.i64.wrap (x21_1_1 - 1))) h)
    · refine WC.condF c37 (by kernel_rfl) ?_
      refine WX.exit ?_
      refine WX.popCodeExit ?_
      refine WC.exit_nil (hexit21 _ _ (by simp) ?_)
      refine WX.popBlkHit ?_
      exact WC.keep [] [] (by kernel_rfl) (hJ4 () h)
def slices_Equal_int_int_l0 (a0 : (List Int)) (a1 : (List Int)) (J6 : Unit → Option (Bool)) : Nat → Int → Option (Bool)
  | 0, _ => none
  | k + 1, x23_1_1 => (if (decide (x23_1_1 < (a0.length : Int))) = true then (at_ a0 x23_1_1).bind fun t41_2 => (at_ a1 x23_1_1).bind fun t41_4 => (if (t41_2 != t41_4) = true then some false else slices_Equal_int_int_l0 a0 a1 J6 k ((IntKind.i64.wrap (x23_1_1 + 1)))) else J6 ())
def slices_Equal_int_int (k : Nat) (a0 : (List Int)) (a1 : (List Int)) : Option (Bool) :=
  (if ((a0.length : Int) != (a1.length : Int)) = true then some false else jn (fun (v6 : Unit) => some true) fun J6 => slices_Equal_int_int_l0 a0 a1 J6 k 0)
theorem slices_Equal_int_int_ok {k : Nat} {a0 : (List Int)} {a1 : (List Int)} {r : Bool} (h : slices_Equal_int_int k a0 a1 = some r) : Ans Tryd.prog 14 [sI a0, sI a1] (bo (r)) := by
  refine W_fn Tryd.func14 rfl (by kernel_rfl) (by kernel_rfl) ?_
  intro X hro hn
  unfold slices_Equal_int_int at h
  refine WC.rg hn [] [0, 1] [] ⟨[(0, .p (sI a0)), (1, .p (sI a1))], [], L0, []⟩ trivial ?_
  refine WX.seq ?_
  refine WC.rg hn [] [0, 1, 10] [] ⟨[(0, .p (sI a0)), (1, .p (sI a1)), (10, .p (bo ((((a0.length : Int) != (a1.length : Int))))))], [], L0, []⟩ trivial ?_
  rcases if_or h with ⟨c3, h⟩ | ⟨c3, h⟩
  · refine WC.condT c3 (by kernel_rfl) ?_
    refine WC.rg hn [] [4] [] ⟨[(4, .p (bo (false)))], [], L0, []⟩ trivial ?_
    refine WX.ret ?_
    exact WC.outP (by rw [← Option.some.inj h]; kernel_rfl)
  · refine WC.condF c3 (by kernel_rfl) ?_
    refine WX.skip ?_
    refine WX.seq ?_
    refine WC.rg hn [] [0, 1, 12, 13] [] ⟨[(0, .p (sI a0)), (1, .p (sI a1)), (12, .p (i6 (((a0.length : Int))))), (13, .p (i6 (0)))], [], L0, []⟩ trivial ?_
    obtain ⟨J6, eJ6, h⟩ := jn_some h
    try dsimp only at h
    refine WC.join (α := Unit) (fun v6 => ⟨[], [], L0, []⟩) (fun v6 => J6 v6 = some r) ?_ (fun hJ6 => ?_)
    · rintro _ h
      rw [eJ6] at h
      try dsimp only at h
      refine WC.rg hn [] [4] [] ⟨[(4, .p (bo (true)))], [], L0, []⟩ trivial ?_
      refine WX.ret ?_
      exact WC.outP (by rw [← Option.some.inj h]; kernel_rfl)
    · skip
      refine WX.block ?_
      refine WC.loop (V := Int) (slices_Equal_int_int_l0 a0 a1 J6) r (fun v23 => ⟨[(0, .p (sI a0)), (1, .p (sI a1)), (12, .p (i6 (((a0.length : Int))))), (13, .p (i6 (v23)))], [], L0, []⟩) _ 0 h (fun _ => rfl) [0, 1, 12, 13] [] (by kernel_rfl) ?_
      clear h; rintro k x23_1_1 h K23 hnext23 hexit23
      rw [slices_Equal_int_int_l0] at h
      refine WC.rg hn [] [0, 1, 12, 13, 14] [] ⟨[(0, .p (sI a0)), (1, .p (sI a1)), (12, .p (i6 (((a0.length : Int))))), (13, .p (i6 (x23_1_1))), (14, .p (bo (((decide (x23_1_1 < (a0.length : Int)))))))], [], L0, []⟩ trivial ?_
      refine WX.seq ?_
      rcases if_or h with ⟨c39, h⟩ | ⟨c39, h⟩
      · refine WC.condT c39 (by kernel_rfl) ?_
        refine WX.skip ?_
        refine WX.seq ?_
        refine WX.block ?_
        refine WC.rg hn [] [0, 1, 5, 12, 13] [] ⟨[(0, .p (sI a0)), (1, .p (sI a1)), (5, .p (i6 (x23_1_1))), (12, .p (i6 (((a0.length : Int))))), (13, .p (i6 (x23_1_1)))], [], L0, []⟩ trivial ?_
        refine WX.seq ?_
        obtain ⟨t41_2, h41_1, h⟩ := bind_some h
        obtain ⟨t41_4, h41_3, h⟩ := bind_some h
        refine WC.drw hn [] [] [(2, .val (.p (.rop ((eI .i64).cells t41_2 ++ encL (eI .i64) (a0.drop (x23_1_1.toNat + 1)))))), (6, .val (.p (.rop ((eI .i64).cells t41_4 ++ encL (eI .i64) (a1.drop (x23_1_1.toNat + 1))))))] [0, 1, 12, 13, 24] [] ⟨[(0, .p (sI a0)), (1, .p (sI a1)), (12, .p (i6 (((a0.length : Int))))), (13, .p (i6 (x23_1_1))), (24, .p (bo (((t41_2 != t41_4)))))], [], L0, []⟩ (And.intro (Ix (eI .i64) h41_1) (And.intro (Ix (eI .i64) h41_3) (trivial))) (by kernel_rfl) (by kernel_rfl) (by kernel_rfl) (by kernel_rfl) ?_
        rcases if_or h with ⟨c42, h⟩ | ⟨c42, h⟩
        · refine WC.condT c42 (by kernel_rfl) ?_
          refine WC.rg hn [] [4] [] ⟨[(4, .p (bo (false)))], [], L0, []⟩ trivial ?_
          refine WX.ret ?_
          refine WC.ret_all (hexit23 _ _ (by simp) ?_)
          exact WC.outP (by rw [← Option.some.inj h]; kernel_rfl)
        · refine WC.condF c42 (by kernel_rfl) ?_
          refine WX.skip ?_
          refine WX.popBlk ?_
          refine WC.r1 hn [] [0, 1, 12, 13] [] ⟨[(0, .p (sI a0)), (1, .p (sI a1)), (12, .p (i6 (((a0.length : Int))))), (13, .p (i6 (((IntKind.i64.wrap (x23_1_1 + 1))))))], [], L0, []⟩ trivial ?_
          exact WC.next [0, 1, 12, 13] [] (by kernel_rfl) (hnext23 ((IntKind.i64.wrap (x23_1_1 + 1))) h)
      · refine WC.condF c39 (by kernel_rfl) ?_
        refine WX.exit ?_
        refine WX.popCodeExit ?_
        refine WC.exit_nil (hexit23 _ _ (by simp) ?_)
        refine WX.popBlkHit ?_
        exact WC.keep [] [] (by kernel_rfl) (hJ6 () h)
def riddleref10_moved_l0 (a0 : api_Bits) (a1 : Int) (J4 : (Int × List Int) → Option (api_Bits)) : Nat → (Int × Int × List Int) → Option (api_Bits)
  | 0, _ => none
  | k + 1, (x21_1_1, x21_1_2, x21_1_3) => (if (decide (x21_1_1 < a0.N)) = true then (riddleref01_Has k a0 x21_1_1).bind fun t38_2 => (if t38_2 = true then (riddleref01_With k ((api_Bits.mk x21_1_2 x21_1_3)) ((IntKind.i64.wrap (x21_1_1 + a1)))).bind fun t40_2 => riddleref10_moved_l0 a0 a1 J4 k ((IntKind.i64.wrap (x21_1_1 + 1)), t40_2.N, t40_2.Words) else riddleref10_moved_l0 a0 a1 J4 k ((IntKind.i64.wrap (x21_1_1 + 1)), x21_1_2, x21_1_3)) else J4 (x21_1_2, x21_1_3))
def riddleref10_moved (k : Nat) (a0 : api_Bits) (a1 : Int) (a2 : Int) : Option (api_Bits) :=
  (riddleref10_none k a2).bind fun t2_2 => jn (fun (v4 : Int × List Int) => some ((api_Bits.mk v4.1 v4.2))) fun J4 => riddleref10_moved_l0 a0 a1 J4 k (0, t2_2.N, t2_2.Words)
theorem riddleref10_moved_ok {k : Nat} {a0 : api_Bits} {a1 : Int} {a2 : Int} {r : api_Bits} (h : riddleref10_moved k a0 a1 a2 = some r) : AnsO Tryd.prog 74 [] [.p (pP4 a0), .p (i6 (a1)), .p (i6 (a2))] [(10, rW 58 r.Words)] (.agg [.p (i6 (r.N)), .own 10]) := by
  refine W_fnO [10] Tryd.func74 rfl (by kernel_rfl) (by kernel_rfl) (by kernel_rfl) (by kernel_rfl) ?_
  intro X hro hn
  unfold riddleref10_moved at h
  refine WC.rg hn [] [1, 2, 3, 6] [3, 6] ⟨[(1, .p (i6 (a1))), (2, .p (i6 (a2))), (3, .ptr 3 0), (6, .ptr 6 0)], [(3, .box 25 (vV4 a0)), (6, .box 25 [.p (i6 (0)), .p (.sl .nil 0 [])])], L0, []⟩ trivial ?_
  refine WX.seq ?_
  obtain ⟨t2_2, h2_1, h⟩ := bind_some h
  refine WC.r1 hn [(1, .co [] [] [] [(10, rW 58 t2_2.Words)] (.agg [.p (i6 (t2_2.N)), .own 10]))] [1, 3, 6, 7] [3, 6, 7, 10] ⟨[(1, .p (i6 (a1))), (3, .ptr 3 0), (6, .ptr 6 0), (7, .ptr 7 0)], [(3, .box 25 (vV4 a0)), (6, .box 25 [.p (i6 (0)), .p (.sl .nil 0 [])]), (7, .box 25 [.p (i6 (t2_2.N)), .own 10]), (10, rW 58 t2_2.Words)], L0, []⟩ (And.intro (And.intro ((riddleref10_none_ok h2_1).ren 7 10 (by kernel_rfl)) (trivial)) (trivial)) ?_
  refine WX.seq ?_
  refine WC.rg hn [] [1, 3, 6, 7, 8] [3, 6, 7, 10] ⟨[(1, .p (i6 (a1))), (3, .ptr 3 0), (6, .ptr 6 0), (7, .ptr 7 0), (8, .p (i6 (0)))], [(3, .box 25 (vV4 a0)), (6, .box 25 [.p (i6 (0)), .p (.sl .nil 0 [])]), (7, .box 25 [.p (i6 (t2_2.N)), .own 10]), (10, rW 58 t2_2.Words)], L0, []⟩ trivial ?_
  obtain ⟨J4, eJ4, h⟩ := jn_some h
  try dsimp only at h
  refine WC.join (α := Int × List Int) (fun v4 => ⟨[(6, .ptr 6 0), (7, .ptr 7 0)], [(6, .box 25 [.p (i6 (0)), .p (.sl .nil 0 [])]), (7, .box 25 [.p (i6 (v4.1)), .own 10]), (10, rW 58 v4.2)], L0, []⟩) (fun v4 => J4 v4 = some r) ?_ (fun hJ4 => ?_)
  · rintro ⟨y4_1, y4_2⟩ h
    rw [eJ4] at h
    try dsimp only at h
    refine WC.rg hn [] [6] [6, 10] ⟨[(6, .ptr 6 0)], [(6, .box 25 [.p (i6 (y4_1)), .own 10]), (10, rW 58 y4_2)], L0, []⟩ trivial ?_
    refine WX.ret ?_
    exact WC.outO (by rw [← Option.some.inj h]; kernel_rfl)
  · replace hJ4 := fun y4_1 y4_2 => hJ4 (y4_1, y4_2)
    refine WX.block ?_
    refine WC.loop (V := Int × Int × List Int) (riddleref10_moved_l0 a0 a1 J4) r (fun v21 => ⟨[(1, .p (i6 (a1))), (3, .ptr 3 0), (6, .ptr 6 0), (7, .ptr 7 0), (8, .p (i6 (v21.1)))], [(3, .box 25 (vV4 a0)), (6, .box 25 [.p (i6 (0)), .p (.sl .nil 0 [])]), (7, .box 25 [.p (i6 (v21.2.1)), .own 10]), (10, rW 58 v21.2.2)], L0, []⟩) _ (0, t2_2.N, t2_2.Words) h (fun _ => rfl) [1, 3, 6, 7, 8] [3, 6, 7, 10] (by kernel_rfl) ?_
    clear h; rintro k ⟨x21_1_1, x21_1_2, x21_1_3⟩ h K21 hnext21 hexit21
    rw [riddleref10_moved_l0] at h
    refine WX.seq ?_
    refine WC.rg hn [] [1, 3, 6, 7, 8, 14] [3, 6, 7, 10] ⟨[(1, .p (i6 (a1))), (3, .ptr 3 0), (6, .ptr 6 0), (7, .ptr 7 0), (8, .p (i6 (x21_1_1))), (14, .p (bo (((decide (x21_1_1 < a0.N))))))], [(3, .box 25 (vV4 a0)), (6, .box 25 [.p (i6 (0)), .p (.sl .nil 0 [])]), (7, .box 25 [.p (i6 (x21_1_2)), .own 10]), (10, rW 58 x21_1_3)], L0, []⟩ trivial ?_
    rcases if_or h with ⟨c37, h⟩ | ⟨c37, h⟩
    · refine WC.condT c37 (by kernel_rfl) ?_
      refine WX.skip ?_
      refine WX.seq ?_
      refine WX.block ?_
      refine WX.seq ?_
      obtain ⟨t38_2, h38_1, h⟩ := bind_some h
      refine WC.r1 hn [(2, .resP (bo (t38_2)))] [1, 3, 6, 7, 8, 19] [3, 6, 7, 10] ⟨[(1, .p (i6 (a1))), (3, .ptr 3 0), (6, .ptr 6 0), (7, .ptr 7 0), (8, .p (i6 (x21_1_1))), (19, .p (bo (t38_2)))], [(3, .box 25 (vV4 a0)), (6, .box 25 [.p (i6 (0)), .p (.sl .nil 0 [])]), (7, .box 25 [.p (i6 (x21_1_2)), .own 10]), (10, rW 58 x21_1_3)], L0, []⟩ (And.intro ((riddleref01_Has_ok h38_1)) (trivial)) ?_
      rcases if_or h with ⟨c39, h⟩ | ⟨c39, h⟩
      · refine WC.condT c39 (by kernel_rfl) ?_
        obtain ⟨t40_2, h40_1, h⟩ := bind_some h
        refine WC.r1 hn [(4, .co [] [] [10] [(24, rW 58 t40_2.Words)] (.agg [.p (i6 (t40_2.N)), .own 24]))] [1, 3, 6, 7, 8] [3, 6, 7, 24] ⟨[(1, .p (i6 (a1))), (3, .ptr 3 0), (6, .ptr 6 0), (7, .ptr 7 0), (8, .p (i6 (x21_1_1)))], [(3, .box 25 (vV4 a0)), (6, .box 25 [.p (i6 (0)), .p (.sl .nil 0 [])]), (7, .box 25 [.p (i6 (t40_2.N)), .own 24]), (24, rW 58 t40_2.Words)], L0, []⟩ (And.intro (And.intro ((riddleref01_With_ok h40_1).ren 7 24 (by kernel_rfl)) (And.intro (rfl : (.agg [.p (i6 (t40_2.N)), .own 24] : AV).flat = true) (And.intro (flats_encL (eI .u64) (fun _ => rfl) t40_2.Words) (trivial)))) (trivial)) ?_
        refine WX.popBlk ?_
        refine WC.r1 hn [] [1, 3, 6, 7, 8] [3, 6, 7, 24] ⟨[(1, .p (i6 (a1))), (3, .ptr 3 0), (6, .ptr 6 0), (7, .ptr 7 0), (8, .p (i6 (((IntKind.i64.wrap (x21_1_1 + 1))))))], [(3, .box 25 (vV4 a0)), (6, .box 25 [.p (i6 (0)), .p (.sl .nil 0 [])]), (7, .box 25 [.p (i6 (t40_2.N)), .own 24]), (24, rW 58 t40_2.Words)], L0, []⟩ trivial ?_
        refine WC.ren hn 24 10 (by kernel_rfl) [1, 3, 6, 7, 8] [3, 6, 7, 10] (st' := ⟨[(1, .p (i6 (a1))), (3, .ptr 3 0), (6, .ptr 6 0), (7, .ptr 7 0), (8, .p (i6 (((IntKind.i64.wrap (x21_1_1 + 1))))))], [(3, .box 25 (vV4 a0)), (6, .box 25 [.p (i6 (0)), .p (.sl .nil 0 [])]), (7, .box 25 [.p (i6 (t40_2.N)), .own 10]), (10, rW 58 t40_2.Words)], L0, []⟩) (by kernel_rfl) ?_
        exact WC.next [1, 3, 6, 7, 8] [3, 6, 7, 10] (by kernel_rfl) (hnext21 ((IntKind.i64.wrap (x21_1_1 + 1)), t40_2.N, t40_2.Words) h)
      · refine WC.condF c39 (by kernel_rfl) ?_
        refine WX.skip ?_
        refine WX.popBlk ?_
        refine WC.r1 hn [] [1, 3, 6, 7, 8] [3, 6, 7, 10] ⟨[(1, .p (i6 (a1))), (3, .ptr 3 0), (6, .ptr 6 0), (7, .ptr 7 0), (8, .p (i6 (((IntKind.i64.wrap (x21_1_1 + 1))))))], [(3, .box 25 (vV4 a0)), (6, .box 25 [.p (i6 (0)), .p (.sl .nil 0 [])]), (7, .box 25 [.p (i6 (x21_1_2)), .own 10]), (10, rW 58 x21_1_3)], L0, []⟩ trivial ?_
        exact WC.next [1, 3, 6, 7, 8] [3, 6, 7, 10] (by kernel_rfl) (hnext21 ((IntKind.i64.wrap (x21_1_1 + 1)), x21_1_2, x21_1_3) h)
    · refine WC.condF c37 (by kernel_rfl) ?_
      refine WX.exit ?_
      refine WX.popCodeExit ?_
      refine WC.exit_nil (hexit21 _ _ (by simp) ?_)
      refine WX.popBlkHit ?_
      exact WC.keep [6, 7] [6, 7, 10] (by kernel_rfl) (hJ4 x21_1_2 x21_1_3 h)
theorem riddleref10_moved_okP {k : Nat} {a0 : api_Bits} {a1 : Int} {a2 : Int} {r : api_Bits} (h : riddleref10_moved k a0 a1 a2 = some r) : Ans Tryd.prog 74 [pP4 a0, i6 (a1), i6 (a2)] (pP4 r) := AnsO.ans (args := [pP4 a0, i6 (a1), i6 (a2)]) (riddleref10_moved_ok h) (by kernel_rfl)
def riddleref10_side_l0 (a0 : api_Nfa) (a1 : api_Nfa) (J23 : List api_Bits → Option (api_Nfa × Int)) : Nat → (Int × List api_Bits) → Option (api_Nfa × Int)
  | 0, _ => none
  | k + 1, (x34_1_1, x34_1_2) => (if (decide (x34_1_1 < (a1.Follow.length : Int))) = true then (at_ a1.Follow x34_1_1).bind fun t45_2 => (riddleref10_moved k t45_2 ((a0.Classes.length : Int)) ((IntKind.i64.wrap ((a0.Classes.length : Int) + (a1.Classes.length : Int))))).bind fun t45_4 => (if okApp 32 (x34_1_2.length + ([t45_4]).length) then riddleref10_side_l0 a0 a1 J23 k ((IntKind.i64.wrap (x34_1_1 + 1)), x34_1_2 ++ ([t45_4])) else none) else J23 x34_1_2)
def riddleref10_side_l1 (a0 : api_Nfa) (a1 : api_Nfa) (J12 : List api_Bits → Option (api_Nfa × Int)) : Nat → (Int × List api_Bits) → Option (api_Nfa × Int)
  | 0, _ => none
  | k + 1, (x47_1_1, x47_1_2) => (if (decide (x47_1_1 < (a0.Follow.length : Int))) = true then (at_ a0.Follow x47_1_1).bind fun t58_2 => (riddleref10_moved k t58_2 0 ((IntKind.i64.wrap ((a0.Classes.length : Int) + (a1.Classes.length : Int))))).bind fun t58_4 => (if okApp 32 (x47_1_2.length + ([t58_4]).length) then riddleref10_side_l1 a0 a1 J12 k ((IntKind.i64.wrap (x47_1_1 + 1)), x47_1_2 ++ ([t58_4])) else none) else J12 x47_1_2)
def riddleref10_side (k : Nat) (a0 : api_Nfa) (a1 : api_Nfa) : Option (api_Nfa × Int) :=
  (riddleref10_Check k a0).bind fun t2_2 => ((if (t2_2 != 0) = true then some true else (riddleref10_Check k a1).bind fun t2_4 => some ((t2_4 != 0))) : Option (Bool)).bind fun v2 => (if v2 = true then some ((api_Nfa.mk (([] : List (Arr4 Int))) ((api_Bits.mk 0 ([]))) ((api_Bits.mk 0 ([]))) (([] : List api_Bits)) false), 100) else (if (decide ((IntKind.i64.wrap ((a0.Classes.length : Int) + (a1.Classes.length : Int))) > 512)) = true then some ((api_Nfa.mk (([] : List (Arr4 Int))) ((api_Bits.mk 0 ([]))) ((api_Bits.mk 0 ([]))) (([] : List api_Bits)) false), 90) else (if okApp 32 (([] : List (Arr4 Int)).length + a0.Classes.length) then (if okApp 32 ((([] : List (Arr4 Int)) ++ a0.Classes).length + a1.Classes.length) then jn (fun (v12 : List api_Bits) => jn (fun (v23 : List api_Bits) => some ((api_Nfa.mk ((([] : List (Arr4 Int)) ++ a0.Classes) ++ a1.Classes) ((api_Bits.mk 0 ([]))) ((api_Bits.mk 0 ([]))) v23 false), 0)) fun J23 => riddleref10_side_l0 a0 a1 J23 k (0, v12)) fun J12 => riddleref10_side_l1 a0 a1 J12 k (0, ([] : List api_Bits)) else none) else none)))
theorem riddleref10_side_ok {k : Nat} {a0 : api_Nfa} {a1 : api_Nfa} {r : api_Nfa × Int} (h : riddleref10_side k a0 a1 = some r) : AnsO Tryd.prog 72 [] [.p (pP1 a0), .p (pP1 a1)] [(36, rowV 60 (e4 (eI .u64)) r.1.Classes), (55, rowV 25 e_api_Bits r.1.Follow)] (.tup [.agg [.own 36, .p (i6 (r.1.First.N)), .p (sW r.1.First.Words), .p (i6 (r.1.Last.N)), .p (sW r.1.Last.Words), .own 55, .p (bo (r.1.Null))], .p (i6 (r.2))]) := by
  refine W_fnO [36, 55] Tryd.func72 rfl (by kernel_rfl) (by kernel_rfl) (by kernel_rfl) (by kernel_rfl) ?_
  intro X hro hn
  unfold riddleref10_side at h
  refine WC.rg hn [] [2, 3, 4] [2, 3, 4] ⟨[(2, .ptr 2 0), (3, .ptr 3 0), (4, .ptr 4 0)], [(2, .box 28 (vV1 a0)), (3, .box 28 (vV1 a1)), (4, .box 28 [.p (.sl .nil 0 []), .p (i6 (0)), .p (.sl .nil 0 []), .p (i6 (0)), .p (.sl .nil 0 []), .p (.sl .nil 0 []), .p (bo (false))])], L0, []⟩ trivial ?_
  refine WX.seq ?_
  refine WX.seq ?_
  obtain ⟨t2_2, h2_1, h⟩ := bind_some h
  obtain ⟨m2_1, g2, h⟩ := bind_some h
  refine WC.via (α := Bool) (fun v2 => ⟨[(2, .ptr 2 0), (3, .ptr 3 0), (4, .ptr 4 0), (18, .p (bo (v2)))], [(2, .box 28 (vV1 a0)), (3, .box 28 (vV1 a1)), (4, .box 28 [.p (.sl .nil 0 []), .p (i6 (0)), .p (.sl .nil 0 []), .p (i6 (0)), .p (.sl .nil 0 []), .p (.sl .nil 0 []), .p (bo (false))])], L0, []⟩) m2_1 (fun hk => ?_) ?_
  · rcases if_or g2 with ⟨b2_3, g2⟩ | ⟨b2_3, g2⟩
    · exact WC.reg hn [(1, .resP (i6 (t2_2))), (3, .val (.p (bo (true))))] [2, 3, 4, 18] [2, 3, 4] ⟨[(2, .ptr 2 0), (3, .ptr 3 0), (4, .ptr 4 0), (18, .p (bo (true)))], [(2, .box 28 (vV1 a0)), (3, .box 28 (vV1 a1)), (4, .box 28 [.p (.sl .nil 0 []), .p (i6 (0)), .p (.sl .nil 0 []), .p (i6 (0)), .p (.sl .nil 0 []), .p (.sl .nil 0 []), .p (bo (false))])], L0, []⟩ (And.intro ((riddleref10_Check_ok h2_1)) (And.intro (Bl b2_3) (trivial))) (by kernel_rfl) (hk true (Option.some.inj g2))
    · obtain ⟨t2_4, h2_3, g2⟩ := bind_some g2
      exact WC.reg hn [(1, .resP (i6 (t2_2))), (3, .val (.p (bo (false)))), (5, .resP (i6 (t2_4)))] [2, 3, 4, 18] [2, 3, 4] ⟨[(2, .ptr 2 0), (3, .ptr 3 0), (4, .ptr 4 0), (18, .p (bo (((t2_4 != 0)))))], [(2, .box 28 (vV1 a0)), (3, .box 28 (vV1 a1)), (4, .box 28 [.p (.sl .nil 0 []), .p (i6 (0)), .p (.sl .nil 0 []), .p (i6 (0)), .p (.sl .nil 0 []), .p (.sl .nil 0 []), .p (bo (false))])], L0, []⟩ (And.intro ((riddleref10_Check_ok h2_1)) (And.intro (Bl b2_3) (And.intro ((riddleref10_Check_ok h2_3)) (trivial)))) (by kernel_rfl) (hk ((t2_4 != 0)) (Option.some.inj g2))
  rcases if_or h with ⟨c3, h⟩ | ⟨c3, h⟩
  · refine WC.condT c3 (by kernel_rfl) ?_
    refine WC.rg hn [] [4, 5] [4] ⟨[(4, .ptr 4 0), (5, .p (i6 (100)))], [(4, .box 28 [.p (.sl .nil 0 []), .p (i6 (0)), .p (.sl .nil 0 []), .p (i6 (0)), .p (.sl .nil 0 []), .p (.sl .nil 0 []), .p (bo (false))])], L0, []⟩ trivial ?_
    refine WX.ret ?_
    refine WC.nil hn [] (some (4, 0)) 36 60 4 (by kernel_rfl) [4, 5] [4, 36] (st' := ⟨[(4, .ptr 4 0), (5, .p (i6 (100)))], [(4, .box 28 [.own 36, .p (i6 (0)), .p (.sl .nil 0 []), .p (i6 (0)), .p (.sl .nil 0 []), .p (.sl .nil 0 []), .p (bo (false))]), (36, rowV 60 (e4 (eI .u64)) (([] : List (Arr4 Int))))], L0, []⟩) (by kernel_rfl) ?_
    refine WC.nil hn [] (some (4, 5)) 55 25 2 (by kernel_rfl) [4, 5] [4, 36, 55] (st' := ⟨[(4, .ptr 4 0), (5, .p (i6 (100)))], [(4, .box 28 [.own 36, .p (i6 (0)), .p (.sl .nil 0 []), .p (i6 (0)), .p (.sl .nil 0 []), .own 55, .p (bo (false))]), (36, rowV 60 (e4 (eI .u64)) (([] : List (Arr4 Int)))), (55, rowV 25 e_api_Bits (([] : List api_Bits)))], L0, []⟩) (by kernel_rfl) ?_
    exact WC.outO (by rw [← Option.some.inj h]; kernel_rfl)
  · refine WC.condF c3 (by kernel_rfl) ?_
    refine WX.skip ?_
    refine WC.rg hn [] [2, 3, 4, 6] [2, 3, 4] ⟨[(2, .ptr 2 0), (3, .ptr 3 0), (4, .ptr 4 0), (6, .p (i6 (((a0.Classes.length : Int)))))], [(2, .box 28 (vV1 a0)), (3, .box 28 (vV1 a1)), (4, .box 28 [.p (.sl .nil 0 []), .p (i6 (0)), .p (.sl .nil 0 []), .p (i6 (0)), .p (.sl .nil 0 []), .p (.sl .nil 0 []), .p (bo (false))])], L0, []⟩ trivial ?_
    refine WC.rg hn [] [2, 3, 4, 6, 7] [2, 3, 4] ⟨[(2, .ptr 2 0), (3, .ptr 3 0), (4, .ptr 4 0), (6, .p (i6 (((a0.Classes.length : Int))))), (7, .p (i6 (((IntKind.i64.wrap ((a0.Classes.length : Int) + (a1.Classes.length : Int)))))))], [(2, .box 28 (vV1 a0)), (3, .box 28 (vV1 a1)), (4, .box 28 [.p (.sl .nil 0 []), .p (i6 (0)), .p (.sl .nil 0 []), .p (i6 (0)), .p (.sl .nil 0 []), .p (.sl .nil 0 []), .p (bo (false))])], L0, []⟩ trivial ?_
    refine WX.seq ?_
    refine WC.rg hn [] [2, 3, 4, 6, 7, 29] [2, 3, 4] ⟨[(2, .ptr 2 0), (3, .ptr 3 0), (4, .ptr 4 0), (6, .p (i6 (((a0.Classes.length : Int))))), (7, .p (i6 (((IntKind.i64.wrap ((a0.Classes.length : Int) + (a1.Classes.length : Int))))))), (29, .p (bo (((decide ((IntKind.i64.wrap ((a0.Classes.length : Int) + (a1.Classes.length : Int))) > 512))))))], [(2, .box 28 (vV1 a0)), (3, .box 28 (vV1 a1)), (4, .box 28 [.p (.sl .nil 0 []), .p (i6 (0)), .p (.sl .nil 0 []), .p (i6 (0)), .p (.sl .nil 0 []), .p (.sl .nil 0 []), .p (bo (false))])], L0, []⟩ trivial ?_
    rcases if_or h with ⟨c8, h⟩ | ⟨c8, h⟩
    · refine WC.condT c8 (by kernel_rfl) ?_
      refine WC.rg hn [] [4, 5] [4] ⟨[(4, .ptr 4 0), (5, .p (i6 (90)))], [(4, .box 28 [.p (.sl .nil 0 []), .p (i6 (0)), .p (.sl .nil 0 []), .p (i6 (0)), .p (.sl .nil 0 []), .p (.sl .nil 0 []), .p (bo (false))])], L0, []⟩ trivial ?_
      refine WX.ret ?_
      refine WC.nil hn [] (some (4, 0)) 36 60 4 (by kernel_rfl) [4, 5] [4, 36] (st' := ⟨[(4, .ptr 4 0), (5, .p (i6 (90)))], [(4, .box 28 [.own 36, .p (i6 (0)), .p (.sl .nil 0 []), .p (i6 (0)), .p (.sl .nil 0 []), .p (.sl .nil 0 []), .p (bo (false))]), (36, rowV 60 (e4 (eI .u64)) (([] : List (Arr4 Int))))], L0, []⟩) (by kernel_rfl) ?_
      refine WC.nil hn [] (some (4, 5)) 55 25 2 (by kernel_rfl) [4, 5] [4, 36, 55] (st' := ⟨[(4, .ptr 4 0), (5, .p (i6 (90)))], [(4, .box 28 [.own 36, .p (i6 (0)), .p (.sl .nil 0 []), .p (i6 (0)), .p (.sl .nil 0 []), .own 55, .p (bo (false))]), (36, rowV 60 (e4 (eI .u64)) (([] : List (Arr4 Int)))), (55, rowV 25 e_api_Bits (([] : List api_Bits)))], L0, []⟩) (by kernel_rfl) ?_
      exact WC.outO (by rw [← Option.some.inj h]; kernel_rfl)
    · refine WC.condF c8 (by kernel_rfl) ?_
      refine WX.skip ?_
      refine WX.seq ?_
      obtain ⟨c10_1, h⟩ := if_some h
      obtain ⟨c10_2, h⟩ := if_some h
      have q10_2 := ApS (e4 (eI .u64)) none 60 32 ([] : List (Arr4 Int)) a0.Classes c10_1
      have q10_5 := ApS (e4 (eI .u64)) (some 33) 60 32 (([] : List (Arr4 Int)) ++ a0.Classes) a1.Classes c10_2
      refine WC.exp hn (by kernel_rfl) [(2, .app none (rowV 60 (e4 (eI .u64)) (([] : List (Arr4 Int)) ++ a0.Classes))), (5, .app (some 33) (rowV 60 (e4 (eI .u64)) ((([] : List (Arr4 Int)) ++ a0.Classes) ++ a1.Classes)))] [2, 3, 4, 6, 7, 8] [2, 3, 4, 8, 36] ⟨[(2, .ptr 2 0), (3, .ptr 3 0), (4, .ptr 4 0), (6, .p (i6 (((a0.Classes.length : Int))))), (7, .p (i6 (((IntKind.i64.wrap ((a0.Classes.length : Int) + (a1.Classes.length : Int))))))), (8, .ptr 8 0)], [(2, .box 28 (vV1 a0)), (3, .box 28 (vV1 a1)), (4, .box 28 [.p (.sl .nil 0 []), .p (i6 (0)), .p (.sl .nil 0 []), .p (i6 (0)), .p (.sl .nil 0 []), .p (.sl .nil 0 []), .p (bo (false))]), (8, .box 28 [.own 36, .p (i6 (0)), .p (.sl .nil 0 []), .p (i6 (0)), .p (.sl .nil 0 []), .p (.sl .nil 0 []), .p (bo (false))]), (36, rowV 60 (e4 (eI .u64)) ((([] : List (Arr4 Int)) ++ a0.Classes) ++ a1.Classes))], L0, []⟩ [0, 1, 3, 7, 8, 9, 11, 15, 24, 25, 27, 31, 63, 127, 128, 129, 131, 135, 136, 137, 139, 143, 152, 153, 155, 159, 191, 255, 511] 511 (by kernel_rfl) (by kernel_rfl) (by kernel_rfl) (And.intro q10_2 (And.intro q10_2 (And.intro q10_2 (And.intro q10_5 (And.intro q10_2 (And.intro q10_2 (And.intro q10_2 (And.intro q10_5 (trivial))))))))) (by kernel_rfl) (by kernel_rfl) ?_
      refine WX.seq ?_
      refine WC.rg hn [] [2, 3, 4, 6, 7, 8, 9] [2, 3, 4, 8, 36] ⟨[(2, .ptr 2 0), (3, .ptr 3 0), (4, .ptr 4 0), (6, .p (i6 (((a0.Classes.length : Int))))), (7, .p (i6 (((IntKind.i64.wrap ((a0.Classes.length : Int) + (a1.Classes.length : Int))))))), (8, .ptr 8 0), (9, .p (i6 (0)))], [(2, .box 28 (vV1 a0)), (3, .box 28 (vV1 a1)), (4, .box 28 [.p (.sl .nil 0 []), .p (i6 (0)), .p (.sl .nil 0 []), .p (i6 (0)), .p (.sl .nil 0 []), .p (.sl .nil 0 []), .p (bo (false))]), (8, .box 28 [.own 36, .p (i6 (0)), .p (.sl .nil 0 []), .p (i6 (0)), .p (.sl .nil 0 []), .p (.sl .nil 0 []), .p (bo (false))]), (36, rowV 60 (e4 (eI .u64)) ((([] : List (Arr4 Int)) ++ a0.Classes) ++ a1.Classes))], L0, []⟩ trivial ?_
      obtain ⟨J12, eJ12, h⟩ := jn_some h
      try dsimp only at h
      refine WC.join (α := List api_Bits) (fun v12 => ⟨[(3, .ptr 3 0), (4, .ptr 4 0), (6, .p (i6 (((a0.Classes.length : Int))))), (7, .p (i6 (((IntKind.i64.wrap ((a0.Classes.length : Int) + (a1.Classes.length : Int))))))), (8, .ptr 8 0)], [(3, .box 28 (vV1 a1)), (4, .box 28 [.p (.sl .nil 0 []), .p (i6 (0)), .p (.sl .nil 0 []), .p (i6 (0)), .p (.sl .nil 0 []), .p (.sl .nil 0 []), .p (bo (false))]), (8, .box 28 [.own 36, .p (i6 (0)), .p (.sl .nil 0 []), .p (i6 (0)), .p (.sl .nil 0 []), .own 55, .p (bo (false))]), (36, rowV 60 (e4 (eI .u64)) ((([] : List (Arr4 Int)) ++ a0.Classes) ++ a1.Classes)), (55, rowV 25 e_api_Bits v12)], L0, []⟩) (fun v12 => J12 v12 = some r) ?_ (fun hJ12 => ?_)
      · rintro y12_1 h
        rw [eJ12] at h
        try dsimp only at h
        refine WX.seq ?_
        refine WC.rg hn [] [3, 4, 6, 7, 8, 10] [3, 4, 8, 36, 55] ⟨[(3, .ptr 3 0), (4, .ptr 4 0), (6, .p (i6 (((a0.Classes.length : Int))))), (7, .p (i6 (((IntKind.i64.wrap ((a0.Classes.length : Int) + (a1.Classes.length : Int))))))), (8, .ptr 8 0), (10, .p (i6 (0)))], [(3, .box 28 (vV1 a1)), (4, .box 28 [.p (.sl .nil 0 []), .p (i6 (0)), .p (.sl .nil 0 []), .p (i6 (0)), .p (.sl .nil 0 []), .p (.sl .nil 0 []), .p (bo (false))]), (8, .box 28 [.own 36, .p (i6 (0)), .p (.sl .nil 0 []), .p (i6 (0)), .p (.sl .nil 0 []), .own 55, .p (bo (false))]), (36, rowV 60 (e4 (eI .u64)) ((([] : List (Arr4 Int)) ++ a0.Classes) ++ a1.Classes)), (55, rowV 25 e_api_Bits y12_1)], L0, []⟩ trivial ?_
        obtain ⟨J23, eJ23, h⟩ := jn_some h
        try dsimp only at h
        refine WC.join (α := List api_Bits) (fun v23 => ⟨[(4, .ptr 4 0), (8, .ptr 8 0)], [(4, .box 28 [.p (.sl .nil 0 []), .p (i6 (0)), .p (.sl .nil 0 []), .p (i6 (0)), .p (.sl .nil 0 []), .p (.sl .nil 0 []), .p (bo (false))]), (8, .box 28 [.own 36, .p (i6 (0)), .p (.sl .nil 0 []), .p (i6 (0)), .p (.sl .nil 0 []), .own 55, .p (bo (false))]), (36, rowV 60 (e4 (eI .u64)) ((([] : List (Arr4 Int)) ++ a0.Classes) ++ a1.Classes)), (55, rowV 25 e_api_Bits v23)], L0, []⟩) (fun v23 => J23 v23 = some r) ?_ (fun hJ23 => ?_)
        · rintro y23_1 h
          rw [eJ23] at h
          try dsimp only at h
          refine WC.rg hn [] [4, 5] [4, 36, 55] ⟨[(4, .ptr 4 0), (5, .p (i6 (0)))], [(4, .box 28 [.own 36, .p (i6 (0)), .p (.sl .nil 0 []), .p (i6 (0)), .p (.sl .nil 0 []), .own 55, .p (bo (false))]), (36, rowV 60 (e4 (eI .u64)) ((([] : List (Arr4 Int)) ++ a0.Classes) ++ a1.Classes)), (55, rowV 25 e_api_Bits y23_1)], L0, []⟩ trivial ?_
          refine WX.ret ?_
          exact WC.outO (by rw [← Option.some.inj h]; kernel_rfl)
        · replace hJ23 := fun y23_1 => hJ23 y23_1
          refine WX.block ?_
          refine WC.loop (V := Int × List api_Bits) (riddleref10_side_l0 a0 a1 J23) r (fun v34 => ⟨[(3, .ptr 3 0), (4, .ptr 4 0), (6, .p (i6 (((a0.Classes.length : Int))))), (7, .p (i6 (((IntKind.i64.wrap ((a0.Classes.length : Int) + (a1.Classes.length : Int))))))), (8, .ptr 8 0), (10, .p (i6 (v34.1)))], [(3, .box 28 (vV1 a1)), (4, .box 28 [.p (.sl .nil 0 []), .p (i6 (0)), .p (.sl .nil 0 []), .p (i6 (0)), .p (.sl .nil 0 []), .p (.sl .nil 0 []), .p (bo (false))]), (8, .box 28 [.own 36, .p (i6 (0)), .p (.sl .nil 0 []), .p (i6 (0)), .p (.sl .nil 0 []), .own 55, .p (bo (false))]), (36, rowV 60 (e4 (eI .u64)) ((([] : List (Arr4 Int)) ++ a0.Classes) ++ a1.Classes)), (55, rowV 25 e_api_Bits v34.2)], L0, []⟩) _ (0, y12_1) h (fun _ => rfl) [3, 4, 6, 7, 8, 10] [3, 4, 8, 36, 55] (by kernel_rfl) ?_
          clear h; rintro k ⟨x34_1_1, x34_1_2⟩ h K34 hnext34 hexit34
          rw [riddleref10_side_l0] at h
          refine WX.seq ?_
          refine WC.rg hn [] [3, 4, 6, 7, 8, 10, 61] [3, 4, 8, 36, 55] ⟨[(3, .ptr 3 0), (4, .ptr 4 0), (6, .p (i6 (((a0.Classes.length : Int))))), (7, .p (i6 (((IntKind.i64.wrap ((a0.Classes.length : Int) + (a1.Classes.length : Int))))))), (8, .ptr 8 0), (10, .p (i6 (x34_1_1))), (61, .p (bo (((decide (x34_1_1 < (a1.Follow.length : Int)))))))], [(3, .box 28 (vV1 a1)), (4, .box 28 [.p (.sl .nil 0 []), .p (i6 (0)), .p (.sl .nil 0 []), .p (i6 (0)), .p (.sl .nil 0 []), .p (.sl .nil 0 []), .p (bo (false))]), (8, .box 28 [.own 36, .p (i6 (0)), .p (.sl .nil 0 []), .p (i6 (0)), .p (.sl .nil 0 []), .own 55, .p (bo (false))]), (36, rowV 60 (e4 (eI .u64)) ((([] : List (Arr4 Int)) ++ a0.Classes) ++ a1.Classes)), (55, rowV 25 e_api_Bits x34_1_2)], L0, []⟩ trivial ?_
          rcases if_or h with ⟨c44, h⟩ | ⟨c44, h⟩
          · refine WC.condT c44 (by kernel_rfl) ?_
            refine WX.skip ?_
            refine WX.seq ?_
            refine WX.block ?_
            obtain ⟨t45_2, h45_1, h⟩ := bind_some h
            obtain ⟨t45_4, h45_3, h⟩ := bind_some h
            obtain ⟨c45_5, h⟩ := if_some h
            have q45_5 := Ix e_api_Bits h45_1
            have q45_9 := (riddleref10_moved_okP h45_3)
            have q45_11 := Ap e_api_Bits (some 55) 25 32 2 x34_1_2 ([t45_4]) c45_5
            refine WC.exp hn (by kernel_rfl) [(5, .val (.p (.rop (e_api_Bits.cells t45_2 ++ encL e_api_Bits (a1.Follow.drop (x34_1_1.toNat + 1)))))), (9, .resP (pP4 t45_4)), (11, .app (some 55) (rowV 25 e_api_Bits (x34_1_2 ++ ([t45_4]))))] [3, 4, 6, 7, 8, 10] [3, 4, 8, 36, 75] ⟨[(3, .ptr 3 0), (4, .ptr 4 0), (6, .p (i6 (((a0.Classes.length : Int))))), (7, .p (i6 (((IntKind.i64.wrap ((a0.Classes.length : Int) + (a1.Classes.length : Int))))))), (8, .ptr 8 0), (10, .p (i6 (x34_1_1)))], [(3, .box 28 (vV1 a1)), (4, .box 28 [.p (.sl .nil 0 []), .p (i6 (0)), .p (.sl .nil 0 []), .p (i6 (0)), .p (.sl .nil 0 []), .p (.sl .nil 0 []), .p (bo (false))]), (8, .box 28 [.own 36, .p (i6 (0)), .p (.sl .nil 0 []), .p (i6 (0)), .p (.sl .nil 0 []), .own 75, .p (bo (false))]), (36, rowV 60 (e4 (eI .u64)) ((([] : List (Arr4 Int)) ++ a0.Classes) ++ a1.Classes)), (75, rowV 25 e_api_Bits (x34_1_2 ++ ([t45_4])))], L0, []⟩ [0, 1, 3, 4, 5, 7, 12, 13, 15, 16, 17, 19, 20, 21, 23, 28, 29, 31, 60, 61, 63, 124, 125, 127, 128, 129, 131, 132, 133, 135, 140, 141, 143, 144, 145, 147, 148, 149, 151, 156, 157, 159, 188, 189, 191, 252, 253, 255, 256, 257, 259, 260, 261, 263, 268, 269, 271, 272, 273, 275, 276, 277, 279, 284, 285, 287, 316, 317, 319, 380, 381, 383, 384, 385, 387, 388, 389, 391, 396, 397, 399, 400, 401, 403, 404, 405, 407, 412, 413, 415, 444, 445, 447, 508, 509, 511, 1020, 1021, 1023, 2044, 2045, 2047, 4095, 8191, 16383] 16383 (by kernel_rfl) (by kernel_rfl) (by kernel_rfl) (And.intro q45_5 (And.intro q45_5 (And.intro q45_5 (And.intro q45_5 (And.intro q45_5 (And.intro q45_5 (And.intro q45_5 (And.intro q45_5 (And.intro q45_5 (And.intro q45_5 (And.intro q45_5 (And.intro q45_5 (And.intro q45_9 (And.intro q45_9 (And.intro q45_9 (And.intro q45_11 (trivial))))))))))))))))) (by kernel_rfl) (by kernel_rfl) ?_
            refine WX.popBlk ?_
            refine WC.r1 hn [] [3, 4, 6, 7, 8, 10] [3, 4, 8, 36, 75] ⟨[(3, .ptr 3 0), (4, .ptr 4 0), (6, .p (i6 (((a0.Classes.length : Int))))), (7, .p (i6 (((IntKind.i64.wrap ((a0.Classes.length : Int) + (a1.Classes.length : Int))))))), (8, .ptr 8 0), (10, .p (i6 (((IntKind.i64.wrap (x34_1_1 + 1))))))], [(3, .box 28 (vV1 a1)), (4, .box 28 [.p (.sl .nil 0 []), .p (i6 (0)), .p (.sl .nil 0 []), .p (i6 (0)), .p (.sl .nil 0 []), .p (.sl .nil 0 []), .p (bo (false))]), (8, .box 28 [.own 36, .p (i6 (0)), .p (.sl .nil 0 []), .p (i6 (0)), .p (.sl .nil 0 []), .own 75, .p (bo (false))]), (36, rowV 60 (e4 (eI .u64)) ((([] : List (Arr4 Int)) ++ a0.Classes) ++ a1.Classes)), (75, rowV 25 e_api_Bits (x34_1_2 ++ ([t45_4])))], L0, []⟩ trivial ?_
            refine WC.ren hn 75 55 (by kernel_rfl) [3, 4, 6, 7, 8, 10] [3, 4, 8, 36, 55] (st' := ⟨[(3, .ptr 3 0), (4, .ptr 4 0), (6, .p (i6 (((a0.Classes.length : Int))))), (7, .p (i6 (((IntKind.i64.wrap ((a0.Classes.length : Int) + (a1.Classes.length : Int))))))), (8, .ptr 8 0), (10, .p (i6 (((IntKind.i64.wrap (x34_1_1 + 1))))))], [(3, .box 28 (vV1 a1)), (4, .box 28 [.p (.sl .nil 0 []), .p (i6 (0)), .p (.sl .nil 0 []), .p (i6 (0)), .p (.sl .nil 0 []), .p (.sl .nil 0 []), .p (bo (false))]), (8, .box 28 [.own 36, .p (i6 (0)), .p (.sl .nil 0 []), .p (i6 (0)), .p (.sl .nil 0 []), .own 55, .p (bo (false))]), (36, rowV 60 (e4 (eI .u64)) ((([] : List (Arr4 Int)) ++ a0.Classes) ++ a1.Classes)), (55, rowV 25 e_api_Bits (x34_1_2 ++ ([t45_4])))], L0, []⟩) (by kernel_rfl) ?_
            exact WC.next [3, 4, 6, 7, 8, 10] [3, 4, 8, 36, 55] (by kernel_rfl) (hnext34 ((IntKind.i64.wrap (x34_1_1 + 1)), x34_1_2 ++ ([t45_4])) h)
          · refine WC.condF c44 (by kernel_rfl) ?_
            refine WX.exit ?_
            refine WX.popCodeExit ?_
            refine WC.exit_nil (hexit34 _ _ (by simp) ?_)
            refine WX.popBlkHit ?_
            exact WC.keep [4, 8] [4, 8, 36, 55] (by kernel_rfl) (hJ23 x34_1_2 h)
      · replace hJ12 := fun y12_1 => hJ12 y12_1
        refine WX.block ?_
        refine WC.nil hn [] (some (8, 5)) 55 25 2 (by kernel_rfl) [2, 3, 4, 6, 7, 8, 9] [2, 3, 4, 8, 36, 55] (st' := ⟨[(2, .ptr 2 0), (3, .ptr 3 0), (4, .ptr 4 0), (6, .p (i6 (((a0.Classes.length : Int))))), (7, .p (i6 (((IntKind.i64.wrap ((a0.Classes.length : Int) + (a1.Classes.length : Int))))))), (8, .ptr 8 0), (9, .p (i6 (0)))], [(2, .box 28 (vV1 a0)), (3, .box 28 (vV1 a1)), (4, .box 28 [.p (.sl .nil 0 []), .p (i6 (0)), .p (.sl .nil 0 []), .p (i6 (0)), .p (.sl .nil 0 []), .p (.sl .nil 0 []), .p (bo (false))]), (8, .box 28 [.own 36, .p (i6 (0)), .p (.sl .nil 0 []), .p (i6 (0)), .p (.sl .nil 0 []), .own 55, .p (bo (false))]), (36, rowV 60 (e4 (eI .u64)) ((([] : List (Arr4 Int)) ++ a0.Classes) ++ a1.Classes)), (55, rowV 25 e_api_Bits (([] : List api_Bits)))], L0, []⟩) (by kernel_rfl) ?_
        refine WC.loop (V := Int × List api_Bits) (riddleref10_side_l1 a0 a1 J12) r (fun v47 => ⟨[(2, .ptr 2 0), (3, .ptr 3 0), (4, .ptr 4 0), (6, .p (i6 (((a0.Classes.length : Int))))), (7, .p (i6 (((IntKind.i64.wrap ((a0.Classes.length : Int) + (a1.Classes.length : Int))))))), (8, .ptr 8 0), (9, .p (i6 (v47.1)))], [(2, .box 28 (vV1 a0)), (3, .box 28 (vV1 a1)), (4, .box 28 [.p (.sl .nil 0 []), .p (i6 (0)), .p (.sl .nil 0 []), .p (i6 (0)), .p (.sl .nil 0 []), .p (.sl .nil 0 []), .p (bo (false))]), (8, .box 28 [.own 36, .p (i6 (0)), .p (.sl .nil 0 []), .p (i6 (0)), .p (.sl .nil 0 []), .own 55, .p (bo (false))]), (36, rowV 60 (e4 (eI .u64)) ((([] : List (Arr4 Int)) ++ a0.Classes) ++ a1.Classes)), (55, rowV 25 e_api_Bits v47.2)], L0, []⟩) _ (0, ([] : List api_Bits)) h (fun _ => rfl) [2, 3, 4, 6, 7, 8, 9] [2, 3, 4, 8, 36, 55] (by kernel_rfl) ?_
        clear h; rintro k ⟨x47_1_1, x47_1_2⟩ h K47 hnext47 hexit47
        rw [riddleref10_side_l1] at h
        refine WX.seq ?_
        refine WC.rg hn [] [2, 3, 4, 6, 7, 8, 9, 42] [2, 3, 4, 8, 36, 55] ⟨[(2, .ptr 2 0), (3, .ptr 3 0), (4, .ptr 4 0), (6, .p (i6 (((a0.Classes.length : Int))))), (7, .p (i6 (((IntKind.i64.wrap ((a0.Classes.length : Int) + (a1.Classes.length : Int))))))), (8, .ptr 8 0), (9, .p (i6 (x47_1_1))), (42, .p (bo (((decide (x47_1_1 < (a0.Follow.length : Int)))))))], [(2, .box 28 (vV1 a0)), (3, .box 28 (vV1 a1)), (4, .box 28 [.p (.sl .nil 0 []), .p (i6 (0)), .p (.sl .nil 0 []), .p (i6 (0)), .p (.sl .nil 0 []), .p (.sl .nil 0 []), .p (bo (false))]), (8, .box 28 [.own 36, .p (i6 (0)), .p (.sl .nil 0 []), .p (i6 (0)), .p (.sl .nil 0 []), .own 55, .p (bo (false))]), (36, rowV 60 (e4 (eI .u64)) ((([] : List (Arr4 Int)) ++ a0.Classes) ++ a1.Classes)), (55, rowV 25 e_api_Bits x47_1_2)], L0, []⟩ trivial ?_
        rcases if_or h with ⟨c57, h⟩ | ⟨c57, h⟩
        · refine WC.condT c57 (by kernel_rfl) ?_
          refine WX.skip ?_
          refine WX.seq ?_
          refine WX.block ?_
          obtain ⟨t58_2, h58_1, h⟩ := bind_some h
          obtain ⟨t58_4, h58_3, h⟩ := bind_some h
          obtain ⟨c58_5, h⟩ := if_some h
          have q58_5 := Ix e_api_Bits h58_1
          have q58_8 := (riddleref10_moved_okP h58_3)
          have q58_10 := Ap e_api_Bits (some 55) 25 32 2 x47_1_2 ([t58_4]) c58_5
          refine WC.exp hn (by kernel_rfl) [(5, .val (.p (.rop (e_api_Bits.cells t58_2 ++ encL e_api_Bits (a0.Follow.drop (x47_1_1.toNat + 1)))))), (8, .resP (pP4 t58_4)), (10, .app (some 55) (rowV 25 e_api_Bits (x47_1_2 ++ ([t58_4]))))] [2, 3, 4, 6, 7, 8, 9] [2, 3, 4, 8, 36, 55] ⟨[(2, .ptr 2 0), (3, .ptr 3 0), (4, .ptr 4 0), (6, .p (i6 (((a0.Classes.length : Int))))), (7, .p (i6 (((IntKind.i64.wrap ((a0.Classes.length : Int) + (a1.Classes.length : Int))))))), (8, .ptr 8 0), (9, .p (i6 (x47_1_1)))], [(2, .box 28 (vV1 a0)), (3, .box 28 (vV1 a1)), (4, .box 28 [.p (.sl .nil 0 []), .p (i6 (0)), .p (.sl .nil 0 []), .p (i6 (0)), .p (.sl .nil 0 []), .p (.sl .nil 0 []), .p (bo (false))]), (8, .box 28 [.own 36, .p (i6 (0)), .p (.sl .nil 0 []), .p (i6 (0)), .p (.sl .nil 0 []), .own 55, .p (bo (false))]), (36, rowV 60 (e4 (eI .u64)) ((([] : List (Arr4 Int)) ++ a0.Classes) ++ a1.Classes)), (55, rowV 25 e_api_Bits (x47_1_2 ++ ([t58_4])))], L0, []⟩ [0, 1, 3, 4, 5, 7, 12, 13, 15, 16, 17, 19, 20, 21, 23, 28, 29, 31, 60, 61, 63, 124, 125, 127, 128, 129, 131, 132, 133, 135, 140, 141, 143, 144, 145, 147, 148, 149, 151, 156, 157, 159, 188, 189, 191, 252, 253, 255, 508, 509, 511, 1020, 1021, 1023, 2047, 4095, 8191] 8191 (by kernel_rfl) (by kernel_rfl) (by kernel_rfl) (And.intro q58_5 (And.intro q58_5 (And.intro q58_5 (And.intro q58_5 (And.intro q58_5 (And.intro q58_5 (And.intro q58_8 (And.intro q58_8 (And.intro q58_8 (And.intro q58_10 (trivial))))))))))) (by kernel_rfl) (by kernel_rfl) ?_
          refine WX.popBlk ?_
          refine WC.r1 hn [] [2, 3, 4, 6, 7, 8, 9] [2, 3, 4, 8, 36, 55] ⟨[(2, .ptr 2 0), (3, .ptr 3 0), (4, .ptr 4 0), (6, .p (i6 (((a0.Classes.length : Int))))), (7, .p (i6 (((IntKind.i64.wrap ((a0.Classes.length : Int) + (a1.Classes.length : Int))))))), (8, .ptr 8 0), (9, .p (i6 (((IntKind.i64.wrap (x47_1_1 + 1))))))], [(2, .box 28 (vV1 a0)), (3, .box 28 (vV1 a1)), (4, .box 28 [.p (.sl .nil 0 []), .p (i6 (0)), .p (.sl .nil 0 []), .p (i6 (0)), .p (.sl .nil 0 []), .p (.sl .nil 0 []), .p (bo (false))]), (8, .box 28 [.own 36, .p (i6 (0)), .p (.sl .nil 0 []), .p (i6 (0)), .p (.sl .nil 0 []), .own 55, .p (bo (false))]), (36, rowV 60 (e4 (eI .u64)) ((([] : List (Arr4 Int)) ++ a0.Classes) ++ a1.Classes)), (55, rowV 25 e_api_Bits (x47_1_2 ++ ([t58_4])))], L0, []⟩ trivial ?_
          exact WC.next [2, 3, 4, 6, 7, 8, 9] [2, 3, 4, 8, 36, 55] (by kernel_rfl) (hnext47 ((IntKind.i64.wrap (x47_1_1 + 1)), x47_1_2 ++ ([t58_4])) h)
        · refine WC.condF c57 (by kernel_rfl) ?_
          refine WX.exit ?_
          refine WX.popCodeExit ?_
          refine WC.exit_nil (hexit47 _ _ (by simp) ?_)
          refine WX.popBlkHit ?_
          exact WC.keep [3, 4, 6, 7, 8] [3, 4, 8, 36, 55] (by kernel_rfl) (hJ12 x47_1_2 h)
theorem riddleref10_side_okP {k : Nat} {a0 : api_Nfa} {a1 : api_Nfa} {r : api_Nfa × Int} (h : riddleref10_side k a0 a1 = some r) : Ans Tryd.prog 72 [pP1 a0, pP1 a1] (.tup [pP1 r.1, i6 (r.2)]) := AnsO.ans (args := [pP1 a0, pP1 a1]) (riddleref10_side_ok h) (by kernel_rfl)
def riddleref10_behind_l0 (a1 : api_Bits) (a2 : api_Bits) (J3 : List api_Bits → Option (api_Nfa)) : Nat → (Int × List api_Bits) → Option (api_Nfa)
  | 0, _ => none
  | k + 1, (x20_1_1, x20_1_2) => (if (decide (x20_1_1 < (x20_1_2.length : Int))) = true then (riddleref01_Has k a1 x20_1_1).bind fun t37_2 => (if t37_2 = true then (at_ x20_1_2 x20_1_1).bind fun t39_2 => (riddleref01_Or k t39_2 a2).bind fun t39_4 => riddleref10_behind_l0 a1 a2 J3 k ((IntKind.i64.wrap (x20_1_1 + 1)), x20_1_2.set x20_1_1.toNat t39_4) else riddleref10_behind_l0 a1 a2 J3 k ((IntKind.i64.wrap (x20_1_1 + 1)), x20_1_2)) else J3 x20_1_2)
def riddleref10_behind (k : Nat) (a0 : api_Nfa) (a1 : api_Bits) (a2 : api_Bits) : Option (api_Nfa) :=
  jn (fun (v3 : List api_Bits) => some ((api_Nfa.mk a0.Classes a0.First a0.Last v3 a0.Null))) fun J3 => riddleref10_behind_l0 a1 a2 J3 k (0, a0.Follow)
theorem riddleref10_behind_ok {k : Nat} {a0 : api_Nfa} {a1 : api_Bits} {a2 : api_Bits} {r : api_Nfa} (h : riddleref10_behind k a0 a1 a2 = some r) : AnsO Tryd.prog 73 [(1000, rowV 25 e_api_Bits a0.Follow)] [.agg [.p (sC a0.Classes), .p (i6 (a0.First.N)), .p (sW a0.First.Words), .p (i6 (a0.Last.N)), .p (sW a0.Last.Words), .own 1000, .p (bo (a0.Null))], .p (pP4 a1), .p (pP4 a2)] [(29, rowV 25 e_api_Bits r.Follow)] (.agg [.p (sC r.Classes), .p (i6 (r.First.N)), .p (sW r.First.Words), .p (i6 (r.Last.N)), .p (sW r.Last.Words), .own 29, .p (bo (r.Null))]) := by
  refine W_fnO [29] Tryd.func73 rfl (by kernel_rfl) (by kernel_rfl) (by kernel_rfl) (by kernel_rfl) ?_
  intro X hro hn
  unfold riddleref10_behind at h
  refine WC.rg hn [] [3, 4, 5, 6] [3, 4, 5, 6, 1000] ⟨[(3, .ptr 3 0), (4, .ptr 4 0), (5, .ptr 5 0), (6, .ptr 6 0)], [(3, .box 28 [.p (sC a0.Classes), .p (i6 (a0.First.N)), .p (sW a0.First.Words), .p (i6 (a0.Last.N)), .p (sW a0.Last.Words), .own 1000, .p (bo (a0.Null))]), (4, .box 25 (vV4 a1)), (5, .box 25 (vV4 a2)), (6, .box 28 [.p (.sl .nil 0 []), .p (i6 (0)), .p (.sl .nil 0 []), .p (i6 (0)), .p (.sl .nil 0 []), .p (.sl .nil 0 []), .p (bo (false))]), (1000, rowV 25 e_api_Bits a0.Follow)], L0, []⟩ trivial ?_
  refine WX.seq ?_
  refine WC.rg hn [] [3, 4, 5, 6, 7] [3, 4, 5, 6, 1000] ⟨[(3, .ptr 3 0), (4, .ptr 4 0), (5, .ptr 5 0), (6, .ptr 6 0), (7, .p (i6 (0)))], [(3, .box 28 [.p (sC a0.Classes), .p (i6 (a0.First.N)), .p (sW a0.First.Words), .p (i6 (a0.Last.N)), .p (sW a0.Last.Words), .own 1000, .p (bo (a0.Null))]), (4, .box 25 (vV4 a1)), (5, .box 25 (vV4 a2)), (6, .box 28 [.p (.sl .nil 0 []), .p (i6 (0)), .p (.sl .nil 0 []), .p (i6 (0)), .p (.sl .nil 0 []), .p (.sl .nil 0 []), .p (bo (false))]), (1000, rowV 25 e_api_Bits a0.Follow)], L0, []⟩ trivial ?_
  obtain ⟨J3, eJ3, h⟩ := jn_some h
  try dsimp only at h
  refine WC.join (α := List api_Bits) (fun v3 => ⟨[(3, .ptr 3 0), (6, .ptr 6 0)], [(3, .box 28 [.p (sC a0.Classes), .p (i6 (a0.First.N)), .p (sW a0.First.Words), .p (i6 (a0.Last.N)), .p (sW a0.Last.Words), .own 1000, .p (bo (a0.Null))]), (6, .box 28 [.p (.sl .nil 0 []), .p (i6 (0)), .p (.sl .nil 0 []), .p (i6 (0)), .p (.sl .nil 0 []), .p (.sl .nil 0 []), .p (bo (false))]), (1000, rowV 25 e_api_Bits v3)], L0, []⟩) (fun v3 => J3 v3 = some r) ?_ (fun hJ3 => ?_)
  · rintro y3_1 h
    rw [eJ3] at h
    try dsimp only at h
    refine WC.rg hn [] [6] [6, 1000] ⟨[(6, .ptr 6 0)], [(6, .box 28 [.p (sC a0.Classes), .p (i6 (a0.First.N)), .p (sW a0.First.Words), .p (i6 (a0.Last.N)), .p (sW a0.Last.Words), .own 1000, .p (bo (a0.Null))]), (1000, rowV 25 e_api_Bits y3_1)], L0, []⟩ trivial ?_
    refine WX.ret ?_
    refine WC.ren hn 1000 29 (by kernel_rfl) [6] [6, 29] (st' := ⟨[(6, .ptr 6 0)], [(6, .box 28 [.p (sC a0.Classes), .p (i6 (a0.First.N)), .p (sW a0.First.Words), .p (i6 (a0.Last.N)), .p (sW a0.Last.Words), .own 29, .p (bo (a0.Null))]), (29, rowV 25 e_api_Bits y3_1)], L0, []⟩) (by kernel_rfl) ?_
    exact WC.outO (by rw [← Option.some.inj h]; kernel_rfl)
  · replace hJ3 := fun y3_1 => hJ3 y3_1
    refine WX.block ?_
    refine WC.loop (V := Int × List api_Bits) (riddleref10_behind_l0 a1 a2 J3) r (fun v20 => ⟨[(3, .ptr 3 0), (4, .ptr 4 0), (5, .ptr 5 0), (6, .ptr 6 0), (7, .p (i6 (v20.1)))], [(3, .box 28 [.p (sC a0.Classes), .p (i6 (a0.First.N)), .p (sW a0.First.Words), .p (i6 (a0.Last.N)), .p (sW a0.Last.Words), .own 1000, .p (bo (a0.Null))]), (4, .box 25 (vV4 a1)), (5, .box 25 (vV4 a2)), (6, .box 28 [.p (.sl .nil 0 []), .p (i6 (0)), .p (.sl .nil 0 []), .p (i6 (0)), .p (.sl .nil 0 []), .p (.sl .nil 0 []), .p (bo (false))]), (1000, rowV 25 e_api_Bits v20.2)], L0, []⟩) _ (0, a0.Follow) h (fun _ => rfl) [3, 4, 5, 6, 7] [3, 4, 5, 6, 1000] (by kernel_rfl) ?_
    clear h; rintro k ⟨x20_1_1, x20_1_2⟩ h K20 hnext20 hexit20
    rw [riddleref10_behind_l0] at h
    refine WX.seq ?_
    refine WC.rg hn [] [3, 4, 5, 6, 7, 12] [3, 4, 5, 6, 1000] ⟨[(3, .ptr 3 0), (4, .ptr 4 0), (5, .ptr 5 0), (6, .ptr 6 0), (7, .p (i6 (x20_1_1))), (12, .p (bo (((decide (x20_1_1 < (x20_1_2.length : Int)))))))], [(3, .box 28 [.p (sC a0.Classes), .p (i6 (a0.First.N)), .p (sW a0.First.Words), .p (i6 (a0.Last.N)), .p (sW a0.Last.Words), .own 1000, .p (bo (a0.Null))]), (4, .box 25 (vV4 a1)), (5, .box 25 (vV4 a2)), (6, .box 28 [.p (.sl .nil 0 []), .p (i6 (0)), .p (.sl .nil 0 []), .p (i6 (0)), .p (.sl .nil 0 []), .p (.sl .nil 0 []), .p (bo (false))]), (1000, rowV 25 e_api_Bits x20_1_2)], L0, []⟩ trivial ?_
    rcases if_or h with ⟨c36, h⟩ | ⟨c36, h⟩
    · refine WC.condT c36 (by kernel_rfl) ?_
      refine WX.skip ?_
      refine WX.seq ?_
      refine WX.block ?_
      refine WX.seq ?_
      obtain ⟨t37_2, h37_1, h⟩ := bind_some h
      refine WC.r1 hn [(2, .resP (bo (t37_2)))] [3, 4, 5, 6, 7, 17] [3, 4, 5, 6, 1000] ⟨[(3, .ptr 3 0), (4, .ptr 4 0), (5, .ptr 5 0), (6, .ptr 6 0), (7, .p (i6 (x20_1_1))), (17, .p (bo (t37_2)))], [(3, .box 28 [.p (sC a0.Classes), .p (i6 (a0.First.N)), .p (sW a0.First.Words), .p (i6 (a0.Last.N)), .p (sW a0.Last.Words), .own 1000, .p (bo (a0.Null))]), (4, .box 25 (vV4 a1)), (5, .box 25 (vV4 a2)), (6, .box 28 [.p (.sl .nil 0 []), .p (i6 (0)), .p (.sl .nil 0 []), .p (i6 (0)), .p (.sl .nil 0 []), .p (.sl .nil 0 []), .p (bo (false))]), (1000, rowV 25 e_api_Bits x20_1_2)], L0, []⟩ (And.intro ((riddleref01_Has_ok h37_1)) (trivial)) ?_
      rcases if_or h with ⟨c38, h⟩ | ⟨c38, h⟩
      · refine WC.condT c38 (by kernel_rfl) ?_
        obtain ⟨t39_2, h39_1, h⟩ := bind_some h
        obtain ⟨t39_4, h39_3, h⟩ := bind_some h
        refine WC.drw hn [(11, [])] [] [(6, .val (.ptr 1000 (x20_1_1.toNat * 2))), (7, .val (.p (pP4 t39_2))), (9, .resP (pP4 t39_4)), (10, .val (.ptr 1000 (x20_1_1.toNat * 2))), (11, .sto 1000 (rowV 25 e_api_Bits (x20_1_2.set x20_1_1.toNat t39_4)))] [3, 4, 5, 6, 7] [3, 4, 5, 6, 1000] ⟨[(3, .ptr 3 0), (4, .ptr 4 0), (5, .ptr 5 0), (6, .ptr 6 0), (7, .p (i6 (x20_1_1)))], [(3, .box 28 [.p (sC a0.Classes), .p (i6 (a0.First.N)), .p (sW a0.First.Words), .p (i6 (a0.Last.N)), .p (sW a0.Last.Words), .own 1000, .p (bo (a0.Null))]), (4, .box 25 (vV4 a1)), (5, .box 25 (vV4 a2)), (6, .box 28 [.p (.sl .nil 0 []), .p (i6 (0)), .p (.sl .nil 0 []), .p (i6 (0)), .p (.sl .nil 0 []), .p (.sl .nil 0 []), .p (bo (false))]), (1000, rowV 25 e_api_Bits (x20_1_2.set x20_1_1.toNat t39_4))], L0, []⟩ (And.intro (IxO 1000 2 h39_1) (And.intro (LdO0 Tryd.prog e_api_Bits 25 h39_1) (And.intro ((riddleref01_Or_okP h39_3)) (And.intro (IxO 1000 2 h39_1) (And.intro (StO0 e_api_Bits 1000 25 2 2 [i6 (t39_4.N), sW t39_4.Words] t39_4 h39_1 rfl rfl (by decide)) (trivial)))))) (by kernel_rfl) (by kernel_rfl) (by kernel_rfl) (by kernel_rfl) ?_
        refine WX.popBlk ?_
        refine WC.r1 hn [] [3, 4, 5, 6, 7] [3, 4, 5, 6, 1000] ⟨[(3, .ptr 3 0), (4, .ptr 4 0), (5, .ptr 5 0), (6, .ptr 6 0), (7, .p (i6 (((IntKind.i64.wrap (x20_1_1 + 1))))))], [(3, .box 28 [.p (sC a0.Classes), .p (i6 (a0.First.N)), .p (sW a0.First.Words), .p (i6 (a0.Last.N)), .p (sW a0.Last.Words), .own 1000, .p (bo (a0.Null))]), (4, .box 25 (vV4 a1)), (5, .box 25 (vV4 a2)), (6, .box 28 [.p (.sl .nil 0 []), .p (i6 (0)), .p (.sl .nil 0 []), .p (i6 (0)), .p (.sl .nil 0 []), .p (.sl .nil 0 []), .p (bo (false))]), (1000, rowV 25 e_api_Bits (x20_1_2.set x20_1_1.toNat t39_4))], L0, []⟩ trivial ?_
        exact WC.next [3, 4, 5, 6, 7] [3, 4, 5, 6, 1000] (by kernel_rfl) (hnext20 ((IntKind.i64.wrap (x20_1_1 + 1)), x20_1_2.set x20_1_1.toNat t39_4) h)
      · refine WC.condF c38 (by kernel_rfl) ?_
        refine WX.skip ?_
        refine WX.popBlk ?_
        refine WC.r1 hn [] [3, 4, 5, 6, 7] [3, 4, 5, 6, 1000] ⟨[(3, .ptr 3 0), (4, .ptr 4 0), (5, .ptr 5 0), (6, .ptr 6 0), (7, .p (i6 (((IntKind.i64.wrap (x20_1_1 + 1))))))], [(3, .box 28 [.p (sC a0.Classes), .p (i6 (a0.First.N)), .p (sW a0.First.Words), .p (i6 (a0.Last.N)), .p (sW a0.Last.Words), .own 1000, .p (bo (a0.Null))]), (4, .box 25 (vV4 a1)), (5, .box 25 (vV4 a2)), (6, .box 28 [.p (.sl .nil 0 []), .p (i6 (0)), .p (.sl .nil 0 []), .p (i6 (0)), .p (.sl .nil 0 []), .p (.sl .nil 0 []), .p (bo (false))]), (1000, rowV 25 e_api_Bits x20_1_2)], L0, []⟩ trivial ?_
        exact WC.next [3, 4, 5, 6, 7] [3, 4, 5, 6, 1000] (by kernel_rfl) (hnext20 ((IntKind.i64.wrap (x20_1_1 + 1)), x20_1_2) h)
    · refine WC.condF c36 (by kernel_rfl) ?_
      refine WX.exit ?_
      refine WX.popCodeExit ?_
      refine WC.exit_nil (hexit20 _ _ (by simp) ?_)
      refine WX.popBlkHit ?_
      exact WC.keep [3, 6] [3, 6, 1000] (by kernel_rfl) (hJ3 x20_1_2 h)
end Go.Proofs.YtegjbjnmedgdoaaDoor
