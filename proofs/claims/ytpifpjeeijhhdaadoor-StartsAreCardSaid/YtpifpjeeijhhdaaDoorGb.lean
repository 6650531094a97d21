/- YtpifpjeeijhhdaaDoorGb: a part of the proof; see the last text for what is proved. -/
import Derived.Test.YtpifpjeeijhhdaaDoorGa
import Derived.Test.YtpifpjeeijhhdaaDoorProg
import Derived.KernelRfl
set_option maxRecDepth 100000
set_option linter.unusedVariables false
set_option linter.unusedSimpArgs false
namespace Go.Proofs.YtpifpjeeijhhdaaDoor
open Go.AE
def riddleref05_Sizes_l0 (a0 : api_Tree) (J7 : List Int → Option ((List Int) × Bool)) : Nat → (List Int × Int) → Option ((List Int) × Bool)
  | 0, _ => none
  | k + 1, (x52_1_1, x52_1_2) => (if (decide (x52_1_2 < (a0.Nodes.length : Int))) = true then (at_ a0.Nodes x52_1_2).bind fun t97_2 => ((if (decide (t97_2.Kind < 1)) = true then some true else (if (decide (t97_2.Kind > 7)) = true then some true else (riddleref05_bare t97_2).bind fun t98_2 => some ((!((t97_2.Kind == t98_2.Kind) && (((t97_2.Class.a0 == t98_2.Class.a0) && ((t97_2.Class.a1 == t98_2.Class.a1) && ((t97_2.Class.a2 == t98_2.Class.a2) && ((t97_2.Class.a3 == t98_2.Class.a3) && true)))) && ((t97_2.A == t98_2.A) && ((t97_2.B == t98_2.B) && ((t97_2.Least == t98_2.Least) && ((t97_2.Most == t98_2.Most) && ((t97_2.Lazy == t98_2.Lazy) && true))))))))))) : Option (Bool)).bind fun v98 => (if v98 = true then some (([] : List Int), false) else jn (fun (v103 : Int) => jn (fun (v110 : Int) => (if okApp 8 (x52_1_1.length + ([v110]).length) then riddleref05_Sizes_l0 a0 J7 k (x52_1_1 ++ ([v110]), (IntKind.i64.wrap (x52_1_2 + 1))) else none)) fun J110 => (if (((t97_2.Kind == 3)) || ((t97_2.Kind == 4))) = true then ((if (decide (x52_1_2 < 2)) = true then some true else (if (t97_2.B != (IntKind.i64.wrap (x52_1_2 - 1))) = true then some true else (at_ x52_1_1 ((IntKind.i64.wrap (x52_1_2 - 1)))).bind fun t119_2 => (if (decide (t119_2 ≥ x52_1_2)) = true then some true else some ((t97_2.A != (IntKind.i64.wrap ((IntKind.i64.wrap (x52_1_2 - 1)) - t119_2))))))) : Option (Bool)).bind fun v119 => (if v119 = true then some (([] : List Int), false) else (at_ x52_1_1 ((IntKind.i64.wrap (x52_1_2 - 1)))).bind fun t122_2 => (at_ x52_1_1 t97_2.A).bind fun t122_4 => J110 ((IntKind.i64.wrap (v103 + (IntKind.i64.wrap (t122_2 + t122_4)))))) else J110 v103)) fun J103 => (if (t97_2.Kind == 5) = true then (if (((decide (x52_1_2 < 1))) || ((((t97_2.A != (IntKind.i64.wrap (x52_1_2 - 1)))) || ((((decide (t97_2.Least < 0))) || ((((decide (t97_2.Least > 1000))) || ((((t97_2.Most != (-1))) && ((((decide (t97_2.Most < t97_2.Least))) || ((decide (t97_2.Most > 1000)))))))))))))) = true then some (([] : List Int), false) else (at_ x52_1_1 ((IntKind.i64.wrap (x52_1_2 - 1)))).bind fun t127_2 => J103 ((IntKind.i64.wrap (1 + t127_2)))) else J103 1)) else J7 x52_1_1)
def riddleref05_Sizes (k : Nat) (a0 : api_Tree) : Option ((List Int) × Bool) :=
  (if ((((a0.Nodes.length : Int) == 0)) || ((decide ((a0.Nodes.length : Int) > 2048)))) = true then some (([] : List Int), false) else jn (fun (v7 : List Int) => (at_ v7 ((IntKind.i64.wrap ((v7.length : Int) - 1)))).bind fun t51_2 => some (v7, (t51_2 == (v7.length : Int)))) fun J7 => riddleref05_Sizes_l0 a0 J7 k (([] : List Int), 0))
theorem riddleref05_Sizes_ok {k : Nat} {a0 : api_Tree} {r : (List Int) × Bool} (h : riddleref05_Sizes k a0 = some r) : AnsO Tryd.prog 99 [] [.p (pP7 a0)] [(145, rI 3 r.1)] (.tup [.own 145, .p (bo (r.2))]) := by
  refine W_fnO [145] Tryd.func99 rfl (by kernel_rfl) (by kernel_rfl) (by kernel_rfl) (by kernel_rfl) ?_
  intro X hro hn
  unfold riddleref05_Sizes at h
  refine WC.rg hn [] [1] [1] ⟨[(1, .ptr 1 0)], [(1, .box 45 (vV7 a0))], L0, []⟩ trivial ?_
  refine WX.seq ?_
  refine WX.seq ?_
  refine WC.via (α := Bool) (fun v2 => ⟨[(1, .ptr 1 0), (17, .p (bo (v2)))], [(1, .box 45 (vV7 a0))], L0, []⟩) (((((a0.Nodes.length : Int) == 0)) || ((decide ((a0.Nodes.length : Int) > 2048))))) (fun hk => ?_) ?_
  · rcases Bool.eq_false_or_eq_true (((a0.Nodes.length : Int) == 0)) with b2_4 | b2_4
    · exact WC.reg hn [(4, .val (.p (bo (true))))] [1, 17] [1] ⟨[(1, .ptr 1 0), (17, .p (bo (true)))], [(1, .box 45 (vV7 a0))], L0, []⟩ (And.intro (Bl b2_4) (trivial)) (by kernel_rfl) (hk true (by first | (rw [b2_4]; rfl) | simp [b2_4]))
    · exact WC.reg hn [(4, .val (.p (bo (false))))] [1, 17] [1] ⟨[(1, .ptr 1 0), (17, .p (bo (((decide ((a0.Nodes.length : Int) > 2048))))))], [(1, .box 45 (vV7 a0))], L0, []⟩ (And.intro (Bl b2_4) (trivial)) (by kernel_rfl) (hk ((decide ((a0.Nodes.length : Int) > 2048))) (by first | (rw [b2_4]; rfl) | simp [b2_4]))
  rcases if_or h with ⟨c3, h⟩ | ⟨c3, h⟩
  · refine WC.condT c3 (by kernel_rfl) ?_
    refine WC.rg hn [] [2, 3] [] ⟨[(2, .p (.sl .nil 0 [])), (3, .p (bo (false)))], [], L0, []⟩ trivial ?_
    refine WX.ret ?_
    refine WC.nil hn [2] none 145 3 1 (by kernel_rfl) [2, 3] [145] (st' := ⟨[(2, .own 145), (3, .p (bo (false)))], [(145, rI 3 (([] : List Int)))], L0, []⟩) (by kernel_rfl) ?_
    exact WC.outO (by rw [← Option.some.inj h]; kernel_rfl)
  · refine WC.condF c3 (by kernel_rfl) ?_
    refine WX.skip ?_
    refine WC.rg hn [] [1, 4] [1] ⟨[(1, .ptr 1 0), (4, .p (.sl .nil 0 []))], [(1, .box 45 (vV7 a0))], L0, []⟩ trivial ?_
    refine WX.seq ?_
    refine WC.rg hn [] [1, 4, 5] [1] ⟨[(1, .ptr 1 0), (4, .p (.sl .nil 0 [])), (5, .p (i6 (0)))], [(1, .box 45 (vV7 a0))], L0, []⟩ trivial ?_
    obtain ⟨J7, eJ7, h⟩ := jn_some h
    try dsimp only at h
    refine WC.join (α := List Int) (fun v7 => ⟨[(4, .own 145)], [(145, rI 3 v7)], L0, []⟩) (fun v7 => J7 v7 = some r) ?_ (fun hJ7 => ?_)
    · rintro y7_1 h
      rw [eJ7] at h
      try dsimp only at h
      refine WX.seq ?_
      obtain ⟨t51_2, h51_1, h⟩ := bind_some h
      refine WC.drw hn [] [] [(5, .val (.ptr 145 (((IntKind.i64.wrap ((y7_1.length : Int) - 1))).toNat * 1))), (6, .val (.p (i6 (t51_2))))] [2, 3] [145] ⟨[(2, .own 145), (3, .p (bo (((t51_2 == (y7_1.length : Int))))))], [(145, rI 3 y7_1)], L0, []⟩ (And.intro (IxO 145 1 h51_1) (And.intro (LdO0 Tryd.prog (eI .i64) 3 h51_1) (trivial))) (by kernel_rfl) (by kernel_rfl) (by kernel_rfl) (by kernel_rfl) ?_
      refine WX.ret ?_
      exact WC.outO (by rw [← Option.some.inj h]; kernel_rfl)
    · replace hJ7 := fun y7_1 => hJ7 y7_1
      refine WX.block ?_
      refine WC.nil hn [4] none 145 3 1 (by kernel_rfl) [1, 4, 5] [1, 145] (st' := ⟨[(1, .ptr 1 0), (4, .own 145), (5, .p (i6 (0)))], [(1, .box 45 (vV7 a0)), (145, rI 3 (([] : List Int)))], L0, []⟩) (by kernel_rfl) ?_
      refine WC.loop (V := List Int × Int) (riddleref05_Sizes_l0 a0 J7) r (fun v52 => ⟨[(1, .ptr 1 0), (4, .own 145), (5, .p (i6 (v52.2)))], [(1, .box 45 (vV7 a0)), (145, rI 3 v52.1)], L0, []⟩) _ (([] : List Int), 0) h (fun _ => rfl) [1, 4, 5] [1, 145] (by kernel_rfl) ?_
      clear h; rintro k ⟨x52_1_1, x52_1_2⟩ h K52 hnext52 hexit52
      rw [riddleref05_Sizes_l0] at h
      refine WX.seq ?_
      refine WC.rg hn [] [1, 4, 5, 22] [1, 145] ⟨[(1, .ptr 1 0), (4, .own 145), (5, .p (i6 (x52_1_2))), (22, .p (bo (((decide (x52_1_2 < (a0.Nodes.length : Int)))))))], [(1, .box 45 (vV7 a0)), (145, rI 3 x52_1_1)], L0, []⟩ trivial ?_
      rcases if_or h with ⟨c96, h⟩ | ⟨c96, h⟩
      · refine WC.condT c96 (by kernel_rfl) ?_
        refine WX.skip ?_
        refine WX.seq ?_
        refine WX.block ?_
        refine WX.seq ?_
        obtain ⟨t97_2, h97_1, h⟩ := bind_some h
        refine WC.r1 hn [(3, .val (.p (.rop (e_api_Node.cells t97_2 ++ encL e_api_Node (a0.Nodes.drop (x52_1_2.toNat + 1))))))] [1, 4, 5, 6] [1, 6, 145] ⟨[(1, .ptr 1 0), (4, .own 145), (5, .p (i6 (x52_1_2))), (6, .ptr 6 0)], [(1, .box 45 (vV7 a0)), (6, .box 77 (vV1 t97_2)), (145, rI 3 x52_1_1)], L0, []⟩ (And.intro (Ix e_api_Node h97_1) (trivial)) ?_
        refine WX.seq ?_
        refine WX.seq ?_
        obtain ⟨m98_1, g98, h⟩ := bind_some h
        refine WC.via (α := Bool) (fun v98 => ⟨[(1, .ptr 1 0), (4, .own 145), (5, .p (i6 (x52_1_2))), (6, .ptr 6 0), (43, .p (bo (v98)))], [(1, .box 45 (vV7 a0)), (6, .box 77 (vV1 t97_2)), (145, rI 3 x52_1_1)], L0, []⟩) m98_1 (fun hk => ?_) ?_
        · rcases if_or g98 with ⟨b98_3, g98⟩ | ⟨b98_3, g98⟩
          · exact WC.drw hn [] [] [(3, .val (.p (bo (true))))] [1, 4, 5, 6, 43] [1, 6, 145] ⟨[(1, .ptr 1 0), (4, .own 145), (5, .p (i6 (x52_1_2))), (6, .ptr 6 0), (43, .p (bo (true)))], [(1, .box 45 (vV7 a0)), (6, .box 77 (vV1 t97_2)), (145, rI 3 x52_1_1)], L0, []⟩ (And.intro (Bl b98_3) (trivial)) (by kernel_rfl) (by kernel_rfl) (by kernel_rfl) (by kernel_rfl) (hk true (Option.some.inj g98))
          · rcases if_or g98 with ⟨b98_8, g98⟩ | ⟨b98_8, g98⟩
            · exact WC.drw hn [] [] [(3, .val (.p (bo (false)))), (8, .val (.p (bo (true))))] [1, 4, 5, 6, 43] [1, 6, 145] ⟨[(1, .ptr 1 0), (4, .own 145), (5, .p (i6 (x52_1_2))), (6, .ptr 6 0), (43, .p (bo (true)))], [(1, .box 45 (vV7 a0)), (6, .box 77 (vV1 t97_2)), (145, rI 3 x52_1_1)], L0, []⟩ (And.intro (Bl b98_3) (And.intro (Bl b98_8) (trivial))) (by kernel_rfl) (by kernel_rfl) (by kernel_rfl) (by kernel_rfl) (hk true (Option.some.inj g98))
            · obtain ⟨t98_2, h98_1, g98⟩ := bind_some g98
              exact WC.drw hn [] [] [(3, .val (.p (bo (false)))), (8, .val (.p (bo (false)))), (11, .resP (pP1 t98_2))] [1, 4, 5, 6, 43] [1, 6, 145] ⟨[(1, .ptr 1 0), (4, .own 145), (5, .p (i6 (x52_1_2))), (6, .ptr 6 0), (43, .p (bo (((!((t97_2.Kind == t98_2.Kind) && (((t97_2.Class.a0 == t98_2.Class.a0) && ((t97_2.Class.a1 == t98_2.Class.a1) && ((t97_2.Class.a2 == t98_2.Class.a2) && ((t97_2.Class.a3 == t98_2.Class.a3) && true)))) && ((t97_2.A == t98_2.A) && ((t97_2.B == t98_2.B) && ((t97_2.Least == t98_2.Least) && ((t97_2.Most == t98_2.Most) && ((t97_2.Lazy == t98_2.Lazy) && true))))))))))))], [(1, .box 45 (vV7 a0)), (6, .box 77 (vV1 t97_2)), (145, rI 3 x52_1_1)], L0, []⟩ (And.intro (Bl b98_3) (And.intro (Bl b98_8) (And.intro ((riddleref05_bare_ok h98_1)) (trivial)))) (by kernel_rfl) (by kernel_rfl) (by kernel_rfl) (by kernel_rfl) (hk ((!((t97_2.Kind == t98_2.Kind) && (((t97_2.Class.a0 == t98_2.Class.a0) && ((t97_2.Class.a1 == t98_2.Class.a1) && ((t97_2.Class.a2 == t98_2.Class.a2) && ((t97_2.Class.a3 == t98_2.Class.a3) && true)))) && ((t97_2.A == t98_2.A) && ((t97_2.B == t98_2.B) && ((t97_2.Least == t98_2.Least) && ((t97_2.Most == t98_2.Most) && ((t97_2.Lazy == t98_2.Lazy) && true))))))))) (Option.some.inj g98))
        rcases if_or h with ⟨c99, h⟩ | ⟨c99, h⟩
        · refine WC.condT c99 (by kernel_rfl) ?_
          refine WC.rg hn [] [2, 3] [] ⟨[(2, .p (.sl .nil 0 [])), (3, .p (bo (false)))], [], L0, []⟩ trivial ?_
          refine WX.ret ?_
          refine WC.ret_all (hexit52 _ _ (by simp) ?_)
          refine WC.nil hn [2] none 145 3 1 (by kernel_rfl) [2, 3] [145] (st' := ⟨[(2, .own 145), (3, .p (bo (false)))], [(145, rI 3 (([] : List Int)))], L0, []⟩) (by kernel_rfl) ?_
          exact WC.outO (by rw [← Option.some.inj h]; kernel_rfl)
        · refine WC.condF c99 (by kernel_rfl) ?_
          refine WX.skip ?_
          refine WC.rg hn [] [1, 4, 5, 6, 7] [1, 6, 145] ⟨[(1, .ptr 1 0), (4, .own 145), (5, .p (i6 (x52_1_2))), (6, .ptr 6 0), (7, .p (i6 (1)))], [(1, .box 45 (vV7 a0)), (6, .box 77 (vV1 t97_2)), (145, rI 3 x52_1_1)], L0, []⟩ trivial ?_
          refine WX.seq ?_
          refine WC.rg hn [] [1, 4, 5, 6, 7, 46] [1, 6, 145] ⟨[(1, .ptr 1 0), (4, .own 145), (5, .p (i6 (x52_1_2))), (6, .ptr 6 0), (7, .p (i6 (1))), (46, .p (bo (((t97_2.Kind == 5)))))], [(1, .box 45 (vV7 a0)), (6, .box 77 (vV1 t97_2)), (145, rI 3 x52_1_1)], L0, []⟩ trivial ?_
          obtain ⟨J103, eJ103, h⟩ := jn_some h
          try dsimp only at h
          refine WC.join (α := Int) (fun v103 => ⟨[(1, .ptr 1 0), (4, .own 145), (5, .p (i6 (x52_1_2))), (6, .ptr 6 0), (7, .p (i6 (v103)))], [(1, .box 45 (vV7 a0)), (6, .box 77 (vV1 t97_2)), (145, rI 3 x52_1_1)], L0, []⟩) (fun v103 => J103 v103 = some r) ?_ (fun hJ103 => ?_)
          · rintro y103_1 h
            rw [eJ103] at h
            try dsimp only at h
            refine WX.seq ?_
            refine WX.seq ?_
            refine WC.via (α := Bool) (fun v109 => ⟨[(1, .ptr 1 0), (4, .own 145), (5, .p (i6 (x52_1_2))), (6, .ptr 6 0), (7, .p (i6 (y103_1))), (97, .p (bo (v109)))], [(1, .box 45 (vV7 a0)), (6, .box 77 (vV1 t97_2)), (145, rI 3 x52_1_1)], L0, []⟩) ((((t97_2.Kind == 3)) || ((t97_2.Kind == 4)))) (fun hk => ?_) ?_
            · rcases Bool.eq_false_or_eq_true ((t97_2.Kind == 3)) with b109_3 | b109_3
              · exact WC.reg hn [(3, .val (.p (bo (true))))] [1, 4, 5, 6, 7, 97] [1, 6, 145] ⟨[(1, .ptr 1 0), (4, .own 145), (5, .p (i6 (x52_1_2))), (6, .ptr 6 0), (7, .p (i6 (y103_1))), (97, .p (bo (true)))], [(1, .box 45 (vV7 a0)), (6, .box 77 (vV1 t97_2)), (145, rI 3 x52_1_1)], L0, []⟩ (And.intro (Bl b109_3) (trivial)) (by kernel_rfl) (hk true (by first | (rw [b109_3]; rfl) | simp [b109_3]))
              · exact WC.reg hn [(3, .val (.p (bo (false))))] [1, 4, 5, 6, 7, 97] [1, 6, 145] ⟨[(1, .ptr 1 0), (4, .own 145), (5, .p (i6 (x52_1_2))), (6, .ptr 6 0), (7, .p (i6 (y103_1))), (97, .p (bo (((t97_2.Kind == 4)))))], [(1, .box 45 (vV7 a0)), (6, .box 77 (vV1 t97_2)), (145, rI 3 x52_1_1)], L0, []⟩ (And.intro (Bl b109_3) (trivial)) (by kernel_rfl) (hk ((t97_2.Kind == 4)) (by first | (rw [b109_3]; rfl) | simp [b109_3]))
            obtain ⟨J110, eJ110, h⟩ := jn_some h
            try dsimp only at h
            refine WC.join (α := Int) (fun v110 => ⟨[(1, .ptr 1 0), (4, .own 145), (5, .p (i6 (x52_1_2))), (7, .p (i6 (v110)))], [(1, .box 45 (vV7 a0)), (145, rI 3 x52_1_1)], L0, []⟩) (fun v110 => J110 v110 = some r) ?_ (fun hJ110 => ?_)
            · rintro y110_1 h
              rw [eJ110] at h
              try dsimp only at h
              obtain ⟨c116_1, h⟩ := if_some h
              refine WC.r1 hn [(3, .app (some 145) (rI 3 (x52_1_1 ++ ([y110_1]))))] [1, 4, 5] [1, 145] ⟨[(1, .ptr 1 0), (4, .own 145), (5, .p (i6 (x52_1_2)))], [(1, .box 45 (vV7 a0)), (145, rI 3 (x52_1_1 ++ ([y110_1])))], L0, []⟩ (And.intro (Ap (eI .i64) (some 145) 3 8 1 x52_1_1 ([y110_1]) c116_1) (trivial)) ?_
              refine WX.popBlk ?_
              refine WC.r1 hn [] [1, 4, 5] [1, 145] ⟨[(1, .ptr 1 0), (4, .own 145), (5, .p (i6 (((IntKind.i64.wrap (x52_1_2 + 1))))))], [(1, .box 45 (vV7 a0)), (145, rI 3 (x52_1_1 ++ ([y110_1])))], L0, []⟩ trivial ?_
              exact WC.next [1, 4, 5] [1, 145] (by kernel_rfl) (hnext52 (x52_1_1 ++ ([y110_1]), (IntKind.i64.wrap (x52_1_2 + 1))) h)
            · replace hJ110 := fun y110_1 => hJ110 y110_1
              rcases if_or h with ⟨c118, h⟩ | ⟨c118, h⟩
              · refine WC.condT c118 (by kernel_rfl) ?_
                refine WX.seq ?_
                refine WX.seq ?_
                obtain ⟨m119_1, g119, h⟩ := bind_some h
                refine WC.via (α := Bool) (fun v119 => ⟨[(1, .ptr 1 0), (4, .own 145), (5, .p (i6 (x52_1_2))), (6, .ptr 6 0), (7, .p (i6 (y103_1))), (128, .p (bo (v119)))], [(1, .box 45 (vV7 a0)), (6, .box 77 (vV1 t97_2)), (145, rI 3 x52_1_1)], L0, []⟩) m119_1 (fun hk => ?_) ?_
                · rcases if_or g119 with ⟨b119_2, g119⟩ | ⟨b119_2, g119⟩
                  · exact WC.drw hn [] [] [(2, .val (.p (bo (true))))] [1, 4, 5, 6, 7, 128] [1, 6, 145] ⟨[(1, .ptr 1 0), (4, .own 145), (5, .p (i6 (x52_1_2))), (6, .ptr 6 0), (7, .p (i6 (y103_1))), (128, .p (bo (true)))], [(1, .box 45 (vV7 a0)), (6, .box 77 (vV1 t97_2)), (145, rI 3 x52_1_1)], L0, []⟩ (And.intro (Bl b119_2) (trivial)) (by kernel_rfl) (by kernel_rfl) (by kernel_rfl) (by kernel_rfl) (hk true (Option.some.inj g119))
                  · rcases if_or g119 with ⟨b119_9, g119⟩ | ⟨b119_9, g119⟩
                    · exact WC.drw hn [] [] [(2, .val (.p (bo (false)))), (9, .val (.p (bo (true))))] [1, 4, 5, 6, 7, 128] [1, 6, 145] ⟨[(1, .ptr 1 0), (4, .own 145), (5, .p (i6 (x52_1_2))), (6, .ptr 6 0), (7, .p (i6 (y103_1))), (128, .p (bo (true)))], [(1, .box 45 (vV7 a0)), (6, .box 77 (vV1 t97_2)), (145, rI 3 x52_1_1)], L0, []⟩ (And.intro (Bl b119_2) (And.intro (Bl b119_9) (trivial))) (by kernel_rfl) (by kernel_rfl) (by kernel_rfl) (by kernel_rfl) (hk true (Option.some.inj g119))
                    · obtain ⟨t119_2, h119_1, g119⟩ := bind_some g119
                      rcases if_or g119 with ⟨b119_18, g119⟩ | ⟨b119_18, g119⟩
                      · exact WC.drw hn [] [] [(2, .val (.p (bo (false)))), (9, .val (.p (bo (false)))), (13, .val (.ptr 145 (((IntKind.i64.wrap (x52_1_2 - 1))).toNat * 1))), (14, .val (.p (i6 (t119_2)))), (18, .val (.p (bo (true))))] [1, 4, 5, 6, 7, 128] [1, 6, 145] ⟨[(1, .ptr 1 0), (4, .own 145), (5, .p (i6 (x52_1_2))), (6, .ptr 6 0), (7, .p (i6 (y103_1))), (128, .p (bo (true)))], [(1, .box 45 (vV7 a0)), (6, .box 77 (vV1 t97_2)), (145, rI 3 x52_1_1)], L0, []⟩ (And.intro (Bl b119_2) (And.intro (Bl b119_9) (And.intro (IxO 145 1 h119_1) (And.intro (LdO0 Tryd.prog (eI .i64) 3 h119_1) (And.intro (Bl b119_18) (trivial)))))) (by kernel_rfl) (by kernel_rfl) (by kernel_rfl) (by kernel_rfl) (hk true (Option.some.inj g119))
                      · exact WC.drw hn [] [] [(2, .val (.p (bo (false)))), (9, .val (.p (bo (false)))), (13, .val (.ptr 145 (((IntKind.i64.wrap (x52_1_2 - 1))).toNat * 1))), (14, .val (.p (i6 (t119_2)))), (18, .val (.p (bo (false)))), (26, .val (.ptr 145 (((IntKind.i64.wrap (x52_1_2 - 1))).toNat * 1))), (27, .val (.p (i6 (t119_2))))] [1, 4, 5, 6, 7, 128] [1, 6, 145] ⟨[(1, .ptr 1 0), (4, .own 145), (5, .p (i6 (x52_1_2))), (6, .ptr 6 0), (7, .p (i6 (y103_1))), (128, .p (bo (((t97_2.A != (IntKind.i64.wrap ((IntKind.i64.wrap (x52_1_2 - 1)) - t119_2)))))))], [(1, .box 45 (vV7 a0)), (6, .box 77 (vV1 t97_2)), (145, rI 3 x52_1_1)], L0, []⟩ (And.intro (Bl b119_2) (And.intro (Bl b119_9) (And.intro (IxO 145 1 h119_1) (And.intro (LdO0 Tryd.prog (eI .i64) 3 h119_1) (And.intro (Bl b119_18) (And.intro (IxO 145 1 h119_1) (And.intro (LdO0 Tryd.prog (eI .i64) 3 h119_1) (trivial)))))))) (by kernel_rfl) (by kernel_rfl) (by kernel_rfl) (by kernel_rfl) (hk ((t97_2.A != (IntKind.i64.wrap ((IntKind.i64.wrap (x52_1_2 - 1)) - t119_2)))) (Option.some.inj g119))
                rcases if_or h with ⟨c120, h⟩ | ⟨c120, h⟩
                · refine WC.condT c120 (by kernel_rfl) ?_
                  refine WC.rg hn [] [2, 3] [] ⟨[(2, .p (.sl .nil 0 [])), (3, .p (bo (false)))], [], L0, []⟩ trivial ?_
                  refine WX.ret ?_
                  refine WC.ret_all (hexit52 _ _ (by simp) ?_)
                  refine WC.nil hn [2] none 145 3 1 (by kernel_rfl) [2, 3] [145] (st' := ⟨[(2, .own 145), (3, .p (bo (false)))], [(145, rI 3 (([] : List Int)))], L0, []⟩) (by kernel_rfl) ?_
                  exact WC.outO (by rw [← Option.some.inj h]; kernel_rfl)
                · refine WC.condF c120 (by kernel_rfl) ?_
                  refine WX.skip ?_
                  obtain ⟨t122_2, h122_1, h⟩ := bind_some h
                  obtain ⟨t122_4, h122_3, h⟩ := bind_some h
                  refine WC.drw hn [] [] [(4, .val (.ptr 145 (((IntKind.i64.wrap (x52_1_2 - 1))).toNat * 1))), (5, .val (.p (i6 (t122_2)))), (9, .val (.ptr 145 (t97_2.A.toNat * 1))), (10, .val (.p (i6 (t122_4))))] [1, 4, 5, 7] [1, 145] ⟨[(1, .ptr 1 0), (4, .own 145), (5, .p (i6 (x52_1_2))), (7, .p (i6 (((IntKind.i64.wrap (y103_1 + (IntKind.i64.wrap (t122_2 + t122_4))))))))], [(1, .box 45 (vV7 a0)), (145, rI 3 x52_1_1)], L0, []⟩ (And.intro (IxO 145 1 h122_1) (And.intro (LdO0 Tryd.prog (eI .i64) 3 h122_1) (And.intro (IxO 145 1 h122_3) (And.intro (LdO0 Tryd.prog (eI .i64) 3 h122_3) (trivial))))) (by kernel_rfl) (by kernel_rfl) (by kernel_rfl) (by kernel_rfl) ?_
                  exact WC.keep [1, 4, 5, 7] [1, 145] (by kernel_rfl) (hJ110 ((IntKind.i64.wrap (y103_1 + (IntKind.i64.wrap (t122_2 + t122_4))))) h)
              · refine WC.condF c118 (by kernel_rfl) ?_
                refine WX.skip ?_
                exact WC.keep [1, 4, 5, 7] [1, 145] (by kernel_rfl) (hJ110 y103_1 h)
          · replace hJ103 := fun y103_1 => hJ103 y103_1
            rcases if_or h with ⟨c123, h⟩ | ⟨c123, h⟩
            · refine WC.condT c123 (by kernel_rfl) ?_
              refine WX.seq ?_
              refine WX.seq ?_
              refine WC.via (α := Bool) (fun v124 => ⟨[(1, .ptr 1 0), (4, .own 145), (5, .p (i6 (x52_1_2))), (6, .ptr 6 0), (7, .p (i6 (1))), (82, .p (bo (v124)))], [(1, .box 45 (vV7 a0)), (6, .box 77 (vV1 t97_2)), (145, rI 3 x52_1_1)], L0, []⟩) ((((decide (x52_1_2 < 1))) || ((((t97_2.A != (IntKind.i64.wrap (x52_1_2 - 1)))) || ((((decide (t97_2.Least < 0))) || ((((decide (t97_2.Least > 1000))) || ((((t97_2.Most != (-1))) && ((((decide (t97_2.Most < t97_2.Least))) || ((decide (t97_2.Most > 1000))))))))))))))) (fun hk => ?_) ?_
              · rcases Bool.eq_false_or_eq_true ((decide (x52_1_2 < 1))) with b124_2 | b124_2
                · exact WC.reg hn [(2, .val (.p (bo (true))))] [1, 4, 5, 6, 7, 82] [1, 6, 145] ⟨[(1, .ptr 1 0), (4, .own 145), (5, .p (i6 (x52_1_2))), (6, .ptr 6 0), (7, .p (i6 (1))), (82, .p (bo (true)))], [(1, .box 45 (vV7 a0)), (6, .box 77 (vV1 t97_2)), (145, rI 3 x52_1_1)], L0, []⟩ (And.intro (Bl b124_2) (trivial)) (by kernel_rfl) (hk true (by first | (rw [b124_2]; rfl) | simp [b124_2]))
                · rcases Bool.eq_false_or_eq_true ((t97_2.A != (IntKind.i64.wrap (x52_1_2 - 1)))) with b124_9 | b124_9
                  · exact WC.reg hn [(2, .val (.p (bo (false)))), (9, .val (.p (bo (true))))] [1, 4, 5, 6, 7, 82] [1, 6, 145] ⟨[(1, .ptr 1 0), (4, .own 145), (5, .p (i6 (x52_1_2))), (6, .ptr 6 0), (7, .p (i6 (1))), (82, .p (bo (true)))], [(1, .box 45 (vV7 a0)), (6, .box 77 (vV1 t97_2)), (145, rI 3 x52_1_1)], L0, []⟩ (And.intro (Bl b124_2) (And.intro (Bl b124_9) (trivial))) (by kernel_rfl) (hk true (by first | (rw [b124_2, b124_9]; rfl) | simp [b124_2, b124_9]))
                  · rcases Bool.eq_false_or_eq_true ((decide (t97_2.Least < 0))) with b124_14 | b124_14
                    · exact WC.reg hn [(2, .val (.p (bo (false)))), (9, .val (.p (bo (false)))), (14, .val (.p (bo (true))))] [1, 4, 5, 6, 7, 82] [1, 6, 145] ⟨[(1, .ptr 1 0), (4, .own 145), (5, .p (i6 (x52_1_2))), (6, .ptr 6 0), (7, .p (i6 (1))), (82, .p (bo (true)))], [(1, .box 45 (vV7 a0)), (6, .box 77 (vV1 t97_2)), (145, rI 3 x52_1_1)], L0, []⟩ (And.intro (Bl b124_2) (And.intro (Bl b124_9) (And.intro (Bl b124_14) (trivial)))) (by kernel_rfl) (hk true (by first | (rw [b124_2, b124_9, b124_14]; rfl) | simp [b124_2, b124_9, b124_14]))
                    · rcases Bool.eq_false_or_eq_true ((decide (t97_2.Least > 1000))) with b124_19 | b124_19
                      · exact WC.reg hn [(2, .val (.p (bo (false)))), (9, .val (.p (bo (false)))), (14, .val (.p (bo (false)))), (19, .val (.p (bo (true))))] [1, 4, 5, 6, 7, 82] [1, 6, 145] ⟨[(1, .ptr 1 0), (4, .own 145), (5, .p (i6 (x52_1_2))), (6, .ptr 6 0), (7, .p (i6 (1))), (82, .p (bo (true)))], [(1, .box 45 (vV7 a0)), (6, .box 77 (vV1 t97_2)), (145, rI 3 x52_1_1)], L0, []⟩ (And.intro (Bl b124_2) (And.intro (Bl b124_9) (And.intro (Bl b124_14) (And.intro (Bl b124_19) (trivial))))) (by kernel_rfl) (hk true (by first | (rw [b124_2, b124_9, b124_14, b124_19]; rfl) | simp [b124_2, b124_9, b124_14, b124_19]))
                      · rcases Bool.eq_false_or_eq_true ((t97_2.Most != (-1))) with b124_23 | b124_23
                        · rcases Bool.eq_false_or_eq_true ((decide (t97_2.Most < t97_2.Least))) with b124_29 | b124_29
                          · exact WC.reg hn [(2, .val (.p (bo (false)))), (9, .val (.p (bo (false)))), (14, .val (.p (bo (false)))), (19, .val (.p (bo (false)))), (23, .val (.p (bo (true)))), (29, .val (.p (bo (true))))] [1, 4, 5, 6, 7, 82] [1, 6, 145] ⟨[(1, .ptr 1 0), (4, .own 145), (5, .p (i6 (x52_1_2))), (6, .ptr 6 0), (7, .p (i6 (1))), (82, .p (bo (true)))], [(1, .box 45 (vV7 a0)), (6, .box 77 (vV1 t97_2)), (145, rI 3 x52_1_1)], L0, []⟩ (And.intro (Bl b124_2) (And.intro (Bl b124_9) (And.intro (Bl b124_14) (And.intro (Bl b124_19) (And.intro (Bl b124_23) (And.intro (Bl b124_29) (trivial))))))) (by kernel_rfl) (hk true (by first | (rw [b124_2, b124_9, b124_14, b124_19, b124_23, b124_29]; rfl) | simp [b124_2, b124_9, b124_14, b124_19, b124_23, b124_29]))
                          · exact WC.reg hn [(2, .val (.p (bo (false)))), (9, .val (.p (bo (false)))), (14, .val (.p (bo (false)))), (19, .val (.p (bo (false)))), (23, .val (.p (bo (true)))), (29, .val (.p (bo (false))))] [1, 4, 5, 6, 7, 82] [1, 6, 145] ⟨[(1, .ptr 1 0), (4, .own 145), (5, .p (i6 (x52_1_2))), (6, .ptr 6 0), (7, .p (i6 (1))), (82, .p (bo (((decide (t97_2.Most > 1000))))))], [(1, .box 45 (vV7 a0)), (6, .box 77 (vV1 t97_2)), (145, rI 3 x52_1_1)], L0, []⟩ (And.intro (Bl b124_2) (And.intro (Bl b124_9) (And.intro (Bl b124_14) (And.intro (Bl b124_19) (And.intro (Bl b124_23) (And.intro (Bl b124_29) (trivial))))))) (by kernel_rfl) (hk ((decide (t97_2.Most > 1000))) (by first | (rw [b124_2, b124_9, b124_14, b124_19, b124_23, b124_29]; rfl) | simp [b124_2, b124_9, b124_14, b124_19, b124_23, b124_29]))
                        · exact WC.reg hn [(2, .val (.p (bo (false)))), (9, .val (.p (bo (false)))), (14, .val (.p (bo (false)))), (19, .val (.p (bo (false)))), (23, .val (.p (bo (false))))] [1, 4, 5, 6, 7, 82] [1, 6, 145] ⟨[(1, .ptr 1 0), (4, .own 145), (5, .p (i6 (x52_1_2))), (6, .ptr 6 0), (7, .p (i6 (1))), (82, .p (bo (false)))], [(1, .box 45 (vV7 a0)), (6, .box 77 (vV1 t97_2)), (145, rI 3 x52_1_1)], L0, []⟩ (And.intro (Bl b124_2) (And.intro (Bl b124_9) (And.intro (Bl b124_14) (And.intro (Bl b124_19) (And.intro (Bl b124_23) (trivial)))))) (by kernel_rfl) (hk false (by first | (rw [b124_2, b124_9, b124_14, b124_19, b124_23]; rfl) | simp [b124_2, b124_9, b124_14, b124_19, b124_23]))
              rcases if_or h with ⟨c125, h⟩ | ⟨c125, h⟩
              · refine WC.condT c125 (by kernel_rfl) ?_
                refine WC.rg hn [] [2, 3] [] ⟨[(2, .p (.sl .nil 0 [])), (3, .p (bo (false)))], [], L0, []⟩ trivial ?_
                refine WX.ret ?_
                refine WC.ret_all (hexit52 _ _ (by simp) ?_)
                refine WC.nil hn [2] none 145 3 1 (by kernel_rfl) [2, 3] [145] (st' := ⟨[(2, .own 145), (3, .p (bo (false)))], [(145, rI 3 (([] : List Int)))], L0, []⟩) (by kernel_rfl) ?_
                exact WC.outO (by rw [← Option.some.inj h]; kernel_rfl)
              · refine WC.condF c125 (by kernel_rfl) ?_
                refine WX.skip ?_
                obtain ⟨t127_2, h127_1, h⟩ := bind_some h
                refine WC.r1 hn [(4, .val (.ptr 145 (((IntKind.i64.wrap (x52_1_2 - 1))).toNat * 1))), (5, .val (.p (i6 (t127_2))))] [1, 4, 5, 6, 7] [1, 6, 145] ⟨[(1, .ptr 1 0), (4, .own 145), (5, .p (i6 (x52_1_2))), (6, .ptr 6 0), (7, .p (i6 (((IntKind.i64.wrap (1 + t127_2))))))], [(1, .box 45 (vV7 a0)), (6, .box 77 (vV1 t97_2)), (145, rI 3 x52_1_1)], L0, []⟩ (And.intro (IxO 145 1 h127_1) (And.intro (LdO0 Tryd.prog (eI .i64) 3 h127_1) (trivial))) ?_
                exact WC.keep [1, 4, 5, 6, 7] [1, 6, 145] (by kernel_rfl) (hJ103 ((IntKind.i64.wrap (1 + t127_2))) h)
            · refine WC.condF c123 (by kernel_rfl) ?_
              refine WX.skip ?_
              exact WC.keep [1, 4, 5, 6, 7] [1, 6, 145] (by kernel_rfl) (hJ103 1 h)
      · refine WC.condF c96 (by kernel_rfl) ?_
        refine WX.exit ?_
        refine WX.popCodeExit ?_
        refine WC.exit_nil (hexit52 _ _ (by simp) ?_)
        refine WX.popBlkHit ?_
        exact WC.keep [4] [145] (by kernel_rfl) (hJ7 x52_1_1 h)
theorem riddleref05_Sizes_okP {k : Nat} {a0 : api_Tree} {r : (List Int) × Bool} (h : riddleref05_Sizes k a0 = some r) : Ans Tryd.prog 99 [pP7 a0] (.tup [sI r.1, bo (r.2)]) := AnsO.ans (args := [pP7 a0]) (riddleref05_Sizes_ok h) (by kernel_rfl)
def riddleref05_May (k : Nat) (a0 : api_Tree) : Option (Bool) :=
  (riddleref05_Sizes k a0).bind fun t2_2 => some t2_2.2
theorem riddleref05_May_ok {k : Nat} {a0 : api_Tree} {r : Bool} (h : riddleref05_May k a0 = some r) : Ans Tryd.prog 71 [pP7 a0] (bo (r)) := by
  refine W_fn Tryd.func71 rfl (by kernel_rfl) (by kernel_rfl) ?_
  intro X hro hn
  unfold riddleref05_May at h
  refine WC.rg hn [] [1] [1] ⟨[(1, .ptr 1 0)], [(1, .box 45 (vV7 a0))], L0, []⟩ trivial ?_
  refine WX.seq ?_
  obtain ⟨t2_2, h2_1, h⟩ := bind_some h
  refine WC.r1 hn [(1, .co [] [] [] [(7, rI 3 t2_2.1)] (.tup [.own 7, .p (bo (t2_2.2))]))] [4] [] ⟨[(4, .p (bo (t2_2.2)))], [], L0, []⟩ (And.intro (And.intro ((riddleref05_Sizes_ok h2_1).ren 145 7 (by kernel_rfl)) (trivial)) (trivial)) ?_
  refine WC.rg hn [] [2] [] ⟨[(2, .p (bo (t2_2.2)))], [], L0, []⟩ trivial ?_
  refine WX.ret ?_
  exact WC.outP (by rw [← Option.some.inj h]; kernel_rfl)
def riddleref09_Is_l0 (a0 : api_Tree) (J6 : Unit → Option (Bool)) : Nat → Int → Option (Bool)
  | 0, _ => none
  | k + 1, x23_1_1 => (if (decide (x23_1_1 < (a0.Nodes.length : Int))) = true then (at_ a0.Nodes x23_1_1).bind fun t40_2 => (if (((t40_2.Kind == 5)) && ((((t40_2.Least != 0)) || ((((t40_2.Most != (-1))) || t40_2.Lazy))))) = true then some false else riddleref09_Is_l0 a0 J6 k ((IntKind.i64.wrap (x23_1_1 + 1)))) else J6 ())
def riddleref09_Is (k : Nat) (a0 : api_Tree) : Option (Bool) :=
  (riddleref05_May k a0).bind fun t2_2 => (if (!t2_2) = true then some false else jn (fun (v6 : Unit) => some true) fun J6 => riddleref09_Is_l0 a0 J6 k 0)
theorem riddleref09_Is_ok {k : Nat} {a0 : api_Tree} {r : Bool} (h : riddleref09_Is k a0 = some r) : Ans Tryd.prog 39 [pP7 a0] (bo (r)) := by
  refine W_fn Tryd.func39 rfl (by kernel_rfl) (by kernel_rfl) ?_
  intro X hro hn
  unfold riddleref09_Is at h
  refine WC.rg hn [] [1] [1] ⟨[(1, .ptr 1 0)], [(1, .box 45 (vV7 a0))], L0, []⟩ trivial ?_
  refine WX.seq ?_
  refine WX.seq ?_
  obtain ⟨t2_2, h2_1, h⟩ := bind_some h
  refine WC.r1 hn [(1, .resP (bo (t2_2)))] [1, 7] [1] ⟨[(1, .ptr 1 0), (7, .p (bo (((!t2_2)))))], [(1, .box 45 (vV7 a0))], L0, []⟩ (And.intro ((riddleref05_May_ok h2_1)) (trivial)) ?_
  rcases if_or h with ⟨c3, h⟩ | ⟨c3, h⟩
  · refine WC.condT c3 (by kernel_rfl) ?_
    refine WC.rg hn [] [2] [] ⟨[(2, .p (bo (false)))], [], L0, []⟩ trivial ?_
    refine WX.ret ?_
    exact WC.outP (by rw [← Option.some.inj h]; kernel_rfl)
  · refine WC.condF c3 (by kernel_rfl) ?_
    refine WX.skip ?_
    refine WX.seq ?_
    refine WC.rg hn [] [1, 3] [1] ⟨[(1, .ptr 1 0), (3, .p (i6 (0)))], [(1, .box 45 (vV7 a0))], L0, []⟩ trivial ?_
    obtain ⟨J6, eJ6, h⟩ := jn_some h
    try dsimp only at h
    refine WC.join (α := Unit) (fun v6 => ⟨[], [], L0, []⟩) (fun v6 => J6 v6 = some r) ?_ (fun hJ6 => ?_)
    · rintro _ h
      rw [eJ6] at h
      try dsimp only at h
      refine WC.rg hn [] [2] [] ⟨[(2, .p (bo (true)))], [], L0, []⟩ trivial ?_
      refine WX.ret ?_
      exact WC.outP (by rw [← Option.some.inj h]; kernel_rfl)
    · skip
      refine WX.block ?_
      refine WC.loop (V := Int) (riddleref09_Is_l0 a0 J6) r (fun v23 => ⟨[(1, .ptr 1 0), (3, .p (i6 (v23)))], [(1, .box 45 (vV7 a0))], L0, []⟩) _ 0 h (fun _ => rfl) [1, 3] [1] (by kernel_rfl) ?_
      clear h; rintro k x23_1_1 h K23 hnext23 hexit23
      rw [riddleref09_Is_l0] at h
      refine WX.seq ?_
      refine WC.rg hn [] [1, 3, 12] [1] ⟨[(1, .ptr 1 0), (3, .p (i6 (x23_1_1))), (12, .p (bo (((decide (x23_1_1 < (a0.Nodes.length : Int)))))))], [(1, .box 45 (vV7 a0))], L0, []⟩ trivial ?_
      rcases if_or h with ⟨c39, h⟩ | ⟨c39, h⟩
      · refine WC.condT c39 (by kernel_rfl) ?_
        refine WX.skip ?_
        refine WX.seq ?_
        refine WX.block ?_
        refine WX.seq ?_
        obtain ⟨t40_2, h40_1, h⟩ := bind_some h
        refine WC.r1 hn [(3, .val (.p (.rop (e_api_Node.cells t40_2 ++ encL e_api_Node (a0.Nodes.drop (x23_1_1.toNat + 1))))))] [1, 3, 4] [1, 4] ⟨[(1, .ptr 1 0), (3, .p (i6 (x23_1_1))), (4, .ptr 4 0)], [(1, .box 45 (vV7 a0)), (4, .box 77 (vV1 t40_2))], L0, []⟩ (And.intro (Ix e_api_Node h40_1) (trivial)) ?_
        refine WX.seq ?_
        refine WC.via (α := Bool) (fun v41 => ⟨[(1, .ptr 1 0), (3, .p (i6 (x23_1_1))), (36, .p (bo (v41)))], [(1, .box 45 (vV7 a0))], L0, []⟩) ((((t40_2.Kind == 5)) && ((((t40_2.Least != 0)) || ((((t40_2.Most != (-1))) || t40_2.Lazy)))))) (fun hk => ?_) ?_
        · rcases Bool.eq_false_or_eq_true ((t40_2.Kind == 5)) with b41_3 | b41_3
          · rcases Bool.eq_false_or_eq_true ((t40_2.Least != 0)) with b41_7 | b41_7
            · exact WC.reg hn [(3, .val (.p (bo (true)))), (7, .val (.p (bo (true))))] [1, 3, 36] [1] ⟨[(1, .ptr 1 0), (3, .p (i6 (x23_1_1))), (36, .p (bo (true)))], [(1, .box 45 (vV7 a0))], L0, []⟩ (And.intro (Bl b41_3) (And.intro (Bl b41_7) (trivial))) (by kernel_rfl) (hk true (by first | (rw [b41_3, b41_7]; rfl) | simp [b41_3, b41_7]))
            · rcases Bool.eq_false_or_eq_true ((t40_2.Most != (-1))) with b41_12 | b41_12
              · exact WC.reg hn [(3, .val (.p (bo (true)))), (7, .val (.p (bo (false)))), (12, .val (.p (bo (true))))] [1, 3, 36] [1] ⟨[(1, .ptr 1 0), (3, .p (i6 (x23_1_1))), (36, .p (bo (true)))], [(1, .box 45 (vV7 a0))], L0, []⟩ (And.intro (Bl b41_3) (And.intro (Bl b41_7) (And.intro (Bl b41_12) (trivial)))) (by kernel_rfl) (hk true (by first | (rw [b41_3, b41_7, b41_12]; rfl) | simp [b41_3, b41_7, b41_12]))
              · exact WC.reg hn [(3, .val (.p (bo (true)))), (7, .val (.p (bo (false)))), (12, .val (.p (bo (false))))] [1, 3, 36] [1] ⟨[(1, .ptr 1 0), (3, .p (i6 (x23_1_1))), (36, .p (bo (t40_2.Lazy)))], [(1, .box 45 (vV7 a0))], L0, []⟩ (And.intro (Bl b41_3) (And.intro (Bl b41_7) (And.intro (Bl b41_12) (trivial)))) (by kernel_rfl) (hk t40_2.Lazy (by first | (rw [b41_3, b41_7, b41_12]; rfl) | simp [b41_3, b41_7, b41_12]))
          · exact WC.reg hn [(3, .val (.p (bo (false))))] [1, 3, 36] [1] ⟨[(1, .ptr 1 0), (3, .p (i6 (x23_1_1))), (36, .p (bo (false)))], [(1, .box 45 (vV7 a0))], L0, []⟩ (And.intro (Bl b41_3) (trivial)) (by kernel_rfl) (hk false (by first | (rw [b41_3]; rfl) | simp [b41_3]))
        rcases if_or h with ⟨c42, h⟩ | ⟨c42, h⟩
        · refine WC.condT c42 (by kernel_rfl) ?_
          refine WC.rg hn [] [2] [] ⟨[(2, .p (bo (false)))], [], L0, []⟩ trivial ?_
          refine WX.ret ?_
          refine WC.ret_all (hexit23 _ _ (by simp) ?_)
          exact WC.outP (by rw [← Option.some.inj h]; kernel_rfl)
        · refine WC.condF c42 (by kernel_rfl) ?_
          refine WX.skip ?_
          refine WX.popBlk ?_
          refine WC.r1 hn [] [1, 3] [1] ⟨[(1, .ptr 1 0), (3, .p (i6 (((IntKind.i64.wrap (x23_1_1 + 1))))))], [(1, .box 45 (vV7 a0))], L0, []⟩ trivial ?_
          exact WC.next [1, 3] [1] (by kernel_rfl) (hnext23 ((IntKind.i64.wrap (x23_1_1 + 1))) h)
      · refine WC.condF c39 (by kernel_rfl) ?_
        refine WX.exit ?_
        refine WX.popCodeExit ?_
        refine WC.exit_nil (hexit23 _ _ (by simp) ?_)
        refine WX.popBlkHit ?_
        exact WC.keep [] [] (by kernel_rfl) (hJ6 () h)
def riddleref01_Zero (a0 : Int) : Option (api_Bits) :=
  (if okMake 8 ((IntKind.i64.wrap (((IntKind.i64.wrap (a0 + 63))).tdiv 64))) then some ((api_Bits.mk a0 (List.replicate ((IntKind.i64.wrap (((IntKind.i64.wrap (a0 + 63))).tdiv 64))).toNat (0 : Int)))) else none)
theorem riddleref01_Zero_ok {a0 : Int} {r : api_Bits} (h : riddleref01_Zero a0 = some r) : AnsO Tryd.prog 68 [] [.p (i6 (a0))] [(7, rW 73 r.Words)] (.agg [.p (i6 (r.N)), .own 7]) := by
  refine W_fnO [7] Tryd.func68 rfl (by kernel_rfl) (by kernel_rfl) (by kernel_rfl) (by kernel_rfl) ?_
  intro X hro hn
  unfold riddleref01_Zero at h
  refine WC.rg hn [] [0, 2] [2] ⟨[(0, .p (i6 (a0))), (2, .ptr 2 0)], [(2, .box 25 [.p (i6 (0)), .p (.sl .nil 0 [])])], L0, []⟩ trivial ?_
  refine WX.seq ?_
  obtain ⟨c2_1, h⟩ := if_some h
  refine WC.r1 hn [(4, .ob (rW 73 (List.replicate ((IntKind.i64.wrap (((IntKind.i64.wrap (a0 + 63))).tdiv 64))).toNat (0 : Int))))] [2] [2, 7] ⟨[(2, .ptr 2 0)], [(2, .box 25 [.p (i6 (a0)), .own 7]), (7, rW 73 (List.replicate ((IntKind.i64.wrap (((IntKind.i64.wrap (a0 + 63))).tdiv 64))).toNat (0 : Int)))], L0, []⟩ (And.intro (Mk (eI .u64) [.int .u64 0] 0 73 8 ((IntKind.i64.wrap (((IntKind.i64.wrap (a0 + 63))).tdiv 64))) rfl rfl c2_1) (trivial)) ?_
  refine WX.ret ?_
  exact WC.outO (by rw [← Option.some.inj h]; kernel_rfl)
theorem riddleref01_Zero_okP {a0 : Int} {r : api_Bits} (h : riddleref01_Zero a0 = some r) : Ans Tryd.prog 68 [i6 (a0)] (pP5 r) := AnsO.ans (args := [i6 (a0)]) (riddleref01_Zero_ok h) (by kernel_rfl)
def riddleref01_put (a0 : api_Bits) (a1 : Int) : Option ((List Int)) :=
  (if (((decide (a1 ≥ 0))) && ((decide (a1 < a0.N)))) = true then (at_ a0.Words ((IntKind.i64.wrap (a1.tdiv 64)))).bind fun t4_2 => (if ¬ (IntKind.u64.wrap ((a1.tmod 64))) < 0 then some (a0.Words.set ((IntKind.i64.wrap (a1.tdiv 64))).toNat ((bits .or .u64 t4_2 ((IntKind.u64.wrap (1 * 2 ^ (min ((IntKind.u64.wrap ((a1.tmod 64)))).toNat IntKind.u64.bits))))))) else none) else some a0.Words)
theorem riddleref01_put_ok {a0 : api_Bits} {a1 : Int} {r : (List Int)} (h : riddleref01_put a0 a1 = some r) : AnsO Tryd.prog 95 [(1000, rW 73 a0.Words)] [.agg [.p (i6 (a0.N)), .own 1000], .p (i6 (a1))] [(1000, rW 73 r)] (.tup []) := by
  refine W_fnO [1000] Tryd.func95 rfl (by kernel_rfl) (by kernel_rfl) (by kernel_rfl) (by kernel_rfl) ?_
  intro X hro hn
  unfold riddleref01_put at h
  refine WC.rg hn [] [1, 2] [2, 1000] ⟨[(1, .p (i6 (a1))), (2, .ptr 2 0)], [(2, .box 25 [.p (i6 (a0.N)), .own 1000]), (1000, rW 73 a0.Words)], L0, []⟩ trivial ?_
  refine WX.seq ?_
  refine WC.via (α := Bool) (fun v2 => ⟨[(1, .p (i6 (a1))), (2, .ptr 2 0), (11, .p (bo (v2)))], [(2, .box 25 [.p (i6 (a0.N)), .own 1000]), (1000, rW 73 a0.Words)], L0, []⟩) ((((decide (a1 ≥ 0))) && ((decide (a1 < a0.N))))) (fun hk => ?_) ?_
  · rcases Bool.eq_false_or_eq_true ((decide (a1 ≥ 0))) with b2_2 | b2_2
    · exact WC.reg hn [(2, .val (.p (bo (true))))] [1, 2, 11] [2, 1000] ⟨[(1, .p (i6 (a1))), (2, .ptr 2 0), (11, .p (bo (((decide (a1 < a0.N))))))], [(2, .box 25 [.p (i6 (a0.N)), .own 1000]), (1000, rW 73 a0.Words)], L0, []⟩ (And.intro (Bl b2_2) (trivial)) (by kernel_rfl) (hk ((decide (a1 < a0.N))) (by first | (rw [b2_2]; rfl) | simp [b2_2]))
    · exact WC.reg hn [(2, .val (.p (bo (false))))] [1, 2, 11] [2, 1000] ⟨[(1, .p (i6 (a1))), (2, .ptr 2 0), (11, .p (bo (false)))], [(2, .box 25 [.p (i6 (a0.N)), .own 1000]), (1000, rW 73 a0.Words)], L0, []⟩ (And.intro (Bl b2_2) (trivial)) (by kernel_rfl) (hk false (by first | (rw [b2_2]; rfl) | simp [b2_2]))
  rcases if_or h with ⟨c3, h⟩ | ⟨c3, h⟩
  · refine WC.condT c3 (by kernel_rfl) ?_
    obtain ⟨t4_2, h4_1, h⟩ := bind_some h
    obtain ⟨c4_3, h⟩ := if_some h
    refine WC.r1 hn [(4, .val (.ptr 1000 (((IntKind.i64.wrap (a1.tdiv 64))).toNat * 1))), (5, .val (.p (u6 (t4_2)))), (9, .val (.p (u6 ((IntKind.u64.wrap (1 * 2 ^ (min ((IntKind.u64.wrap ((a1.tmod 64)))).toNat IntKind.u64.bits))))))), (11, .val (.ptr 1000 (((IntKind.i64.wrap (a1.tdiv 64))).toNat * 1))), (12, .sto 1000 (rW 73 (a0.Words.set ((IntKind.i64.wrap (a1.tdiv 64))).toNat ((bits .or .u64 t4_2 ((IntKind.u64.wrap (1 * 2 ^ (min ((IntKind.u64.wrap ((a1.tmod 64)))).toNat IntKind.u64.bits)))))))))] [] [1000] ⟨[], [(1000, rW 73 (a0.Words.set ((IntKind.i64.wrap (a1.tdiv 64))).toNat ((bits .or .u64 t4_2 ((IntKind.u64.wrap (1 * 2 ^ (min ((IntKind.u64.wrap ((a1.tmod 64)))).toNat IntKind.u64.bits))))))))], L0, []⟩ (And.intro (IxO 1000 1 h4_1) (And.intro (LdO0 Tryd.prog (eI .u64) 73 h4_1) (And.intro (Shl .u64 1 ((IntKind.u64.wrap ((a1.tmod 64)))) c4_3) (And.intro (IxO 1000 1 h4_1) (And.intro (StO0 (eI .u64) 1000 73 1 1 [u6 (((bits .or .u64 t4_2 ((IntKind.u64.wrap (1 * 2 ^ (min ((IntKind.u64.wrap ((a1.tmod 64)))).toNat IntKind.u64.bits)))))))] ((bits .or .u64 t4_2 ((IntKind.u64.wrap (1 * 2 ^ (min ((IntKind.u64.wrap ((a1.tmod 64)))).toNat IntKind.u64.bits)))))) h4_1 rfl rfl (by decide)) (trivial)))))) ?_
    exact WC.outOn (by rw [← Option.some.inj h]; kernel_rfl)
  · refine WC.condF c3 (by kernel_rfl) ?_
    refine WX.skip ?_
    exact WC.outOn (by rw [← Option.some.inj h]; kernel_rfl)
def riddleref01_New_l0 (a1 : (List Int)) (t5_2 : api_Bits) (J7 : List Int → Option (api_Bits × Int)) : Nat → (Int × List Int) → Option (api_Bits × Int)
  | 0, _ => none
  | k + 1, (x18_1_1, x18_1_2) => (if (decide (x18_1_1 < (a1.length : Int))) = true then (at_ a1 x18_1_1).bind fun t29_2 => (riddleref01_put ((api_Bits.mk t5_2.N x18_1_2)) t29_2).bind fun t29_4 => riddleref01_New_l0 a1 t5_2 J7 k ((IntKind.i64.wrap (x18_1_1 + 1)), t29_4) else J7 x18_1_2)
def riddleref01_New (k : Nat) (a0 : Int) (a1 : (List Int)) : Option (api_Bits × Int) :=
  (if (((decide (a0 < 0))) || ((decide (a0 > 8192)))) = true then some ((api_Bits.mk 0 (([] : List Int))), 1) else (riddleref01_Zero a0).bind fun t5_2 => jn (fun (v7 : List Int) => some ((api_Bits.mk t5_2.N v7), 0)) fun J7 => riddleref01_New_l0 a1 t5_2 J7 k (0, t5_2.Words))
theorem riddleref01_New_ok {k : Nat} {a0 : Int} {a1 : (List Int)} {r : api_Bits × Int} (h : riddleref01_New k a0 a1 = some r) : AnsO Tryd.prog 60 [] [.p (i6 (a0)), .p (sI a1)] [(16, rW 73 r.1.Words)] (.tup [.agg [.p (i6 (r.1.N)), .own 16], .p (i6 (r.2))]) := by
  refine W_fnO [16] Tryd.func60 rfl (by kernel_rfl) (by kernel_rfl) (by kernel_rfl) (by kernel_rfl) ?_
  intro X hro hn
  unfold riddleref01_New at h
  refine WC.rg hn [] [0, 1, 4] [4] ⟨[(0, .p (i6 (a0))), (1, .p (sI a1)), (4, .ptr 4 0)], [(4, .box 25 [.p (i6 (0)), .p (.sl .nil 0 [])])], L0, []⟩ trivial ?_
  refine WX.seq ?_
  refine WX.seq ?_
  refine WC.via (α := Bool) (fun v2 => ⟨[(0, .p (i6 (a0))), (1, .p (sI a1)), (4, .ptr 4 0), (13, .p (bo (v2)))], [(4, .box 25 [.p (i6 (0)), .p (.sl .nil 0 [])])], L0, []⟩) ((((decide (a0 < 0))) || ((decide (a0 > 8192))))) (fun hk => ?_) ?_
  · rcases Bool.eq_false_or_eq_true ((decide (a0 < 0))) with b2_2 | b2_2
    · exact WC.reg hn [(2, .val (.p (bo (true))))] [0, 1, 4, 13] [4] ⟨[(0, .p (i6 (a0))), (1, .p (sI a1)), (4, .ptr 4 0), (13, .p (bo (true)))], [(4, .box 25 [.p (i6 (0)), .p (.sl .nil 0 [])])], L0, []⟩ (And.intro (Bl b2_2) (trivial)) (by kernel_rfl) (hk true (by first | (rw [b2_2]; rfl) | simp [b2_2]))
    · exact WC.reg hn [(2, .val (.p (bo (false))))] [0, 1, 4, 13] [4] ⟨[(0, .p (i6 (a0))), (1, .p (sI a1)), (4, .ptr 4 0), (13, .p (bo (((decide (a0 > 8192))))))], [(4, .box 25 [.p (i6 (0)), .p (.sl .nil 0 [])])], L0, []⟩ (And.intro (Bl b2_2) (trivial)) (by kernel_rfl) (hk ((decide (a0 > 8192))) (by first | (rw [b2_2]; rfl) | simp [b2_2]))
  rcases if_or h with ⟨c3, h⟩ | ⟨c3, h⟩
  · refine WC.condT c3 (by kernel_rfl) ?_
    refine WC.rg hn [] [4, 5] [4] ⟨[(4, .ptr 4 0), (5, .p (i6 (1)))], [(4, .box 25 [.p (i6 (0)), .p (.sl .nil 0 [])])], L0, []⟩ trivial ?_
    refine WX.ret ?_
    refine WC.nil hn [] (some (4, 1)) 16 73 1 (by kernel_rfl) [4, 5] [4, 16] (st' := ⟨[(4, .ptr 4 0), (5, .p (i6 (1)))], [(4, .box 25 [.p (i6 (0)), .own 16]), (16, rW 73 (([] : List Int)))], L0, []⟩) (by kernel_rfl) ?_
    exact WC.outO (by rw [← Option.some.inj h]; kernel_rfl)
  · refine WC.condF c3 (by kernel_rfl) ?_
    refine WX.skip ?_
    refine WX.seq ?_
    obtain ⟨t5_2, h5_1, h⟩ := bind_some h
    refine WC.r1 hn [(1, .co [] [] [] [(16, rW 73 t5_2.Words)] (.agg [.p (i6 (t5_2.N)), .own 16]))] [1, 4, 6] [4, 6, 16] ⟨[(1, .p (sI a1)), (4, .ptr 4 0), (6, .ptr 6 0)], [(4, .box 25 [.p (i6 (0)), .p (.sl .nil 0 [])]), (6, .box 25 [.p (i6 (t5_2.N)), .own 16]), (16, rW 73 t5_2.Words)], L0, []⟩ (And.intro (And.intro ((riddleref01_Zero_ok h5_1).ren 7 16 (by kernel_rfl)) (trivial)) (trivial)) ?_
    refine WX.seq ?_
    refine WC.rg hn [] [1, 4, 6, 7] [4, 6, 16] ⟨[(1, .p (sI a1)), (4, .ptr 4 0), (6, .ptr 6 0), (7, .p (i6 (0)))], [(4, .box 25 [.p (i6 (0)), .p (.sl .nil 0 [])]), (6, .box 25 [.p (i6 (t5_2.N)), .own 16]), (16, rW 73 t5_2.Words)], L0, []⟩ trivial ?_
    obtain ⟨J7, eJ7, h⟩ := jn_some h
    try dsimp only at h
    refine WC.join (α := List Int) (fun v7 => ⟨[(4, .ptr 4 0), (6, .ptr 6 0)], [(4, .box 25 [.p (i6 (0)), .p (.sl .nil 0 [])]), (6, .box 25 [.p (i6 (t5_2.N)), .own 16]), (16, rW 73 v7)], L0, []⟩) (fun v7 => J7 v7 = some r) ?_ (fun hJ7 => ?_)
    · rintro y7_1 h
      rw [eJ7] at h
      try dsimp only at h
      refine WC.rg hn [] [4, 5] [4, 16] ⟨[(4, .ptr 4 0), (5, .p (i6 (0)))], [(4, .box 25 [.p (i6 (t5_2.N)), .own 16]), (16, rW 73 y7_1)], L0, []⟩ trivial ?_
      refine WX.ret ?_
      exact WC.outO (by rw [← Option.some.inj h]; kernel_rfl)
    · replace hJ7 := fun y7_1 => hJ7 y7_1
      refine WX.block ?_
      refine WC.loop (V := Int × List Int) (riddleref01_New_l0 a1 t5_2 J7) r (fun v18 => ⟨[(1, .p (sI a1)), (4, .ptr 4 0), (6, .ptr 6 0), (7, .p (i6 (v18.1)))], [(4, .box 25 [.p (i6 (0)), .p (.sl .nil 0 [])]), (6, .box 25 [.p (i6 (t5_2.N)), .own 16]), (16, rW 73 v18.2)], L0, []⟩) _ (0, t5_2.Words) h (fun _ => rfl) [1, 4, 6, 7] [4, 6, 16] (by kernel_rfl) ?_
      clear h; rintro k ⟨x18_1_1, x18_1_2⟩ h K18 hnext18 hexit18
      rw [riddleref01_New_l0] at h
      refine WX.seq ?_
      refine WC.rg hn [] [1, 4, 6, 7, 20] [4, 6, 16] ⟨[(1, .p (sI a1)), (4, .ptr 4 0), (6, .ptr 6 0), (7, .p (i6 (x18_1_1))), (20, .p (bo (((decide (x18_1_1 < (a1.length : Int)))))))], [(4, .box 25 [.p (i6 (0)), .p (.sl .nil 0 [])]), (6, .box 25 [.p (i6 (t5_2.N)), .own 16]), (16, rW 73 x18_1_2)], L0, []⟩ trivial ?_
      rcases if_or h with ⟨c28, h⟩ | ⟨c28, h⟩
      · refine WC.condT c28 (by kernel_rfl) ?_
        refine WX.skip ?_
        refine WX.seq ?_
        refine WX.block ?_
        obtain ⟨t29_2, h29_1, h⟩ := bind_some h
        obtain ⟨t29_4, h29_3, h⟩ := bind_some h
        refine WC.drw hn [(5, [])] [] [(3, .val (.p (.rop ((eI .i64).cells t29_2 ++ encL (eI .i64) (a1.drop (x18_1_1.toNat + 1)))))), (5, .co [] [16] [] [(16, rW 73 t29_4)] (.tup []))] [1, 4, 6, 7] [4, 6, 16] ⟨[(1, .p (sI a1)), (4, .ptr 4 0), (6, .ptr 6 0), (7, .p (i6 (x18_1_1)))], [(4, .box 25 [.p (i6 (0)), .p (.sl .nil 0 [])]), (6, .box 25 [.p (i6 (t5_2.N)), .own 16]), (16, rW 73 t29_4)], L0, []⟩ (And.intro (Ix (eI .i64) h29_1) (And.intro (And.intro ((riddleref01_put_ok h29_3).ren 1000 16 (by kernel_rfl)) (trivial)) (trivial))) (by kernel_rfl) (by kernel_rfl) (by kernel_rfl) (by kernel_rfl) ?_
        refine WX.popBlk ?_
        refine WC.r1 hn [] [1, 4, 6, 7] [4, 6, 16] ⟨[(1, .p (sI a1)), (4, .ptr 4 0), (6, .ptr 6 0), (7, .p (i6 (((IntKind.i64.wrap (x18_1_1 + 1))))))], [(4, .box 25 [.p (i6 (0)), .p (.sl .nil 0 [])]), (6, .box 25 [.p (i6 (t5_2.N)), .own 16]), (16, rW 73 t29_4)], L0, []⟩ trivial ?_
        exact WC.next [1, 4, 6, 7] [4, 6, 16] (by kernel_rfl) (hnext18 ((IntKind.i64.wrap (x18_1_1 + 1)), t29_4) h)
      · refine WC.condF c28 (by kernel_rfl) ?_
        refine WX.exit ?_
        refine WX.popCodeExit ?_
        refine WC.exit_nil (hexit18 _ _ (by simp) ?_)
        refine WX.popBlkHit ?_
        exact WC.keep [4, 6] [4, 6, 16] (by kernel_rfl) (hJ7 x18_1_2 h)
theorem riddleref01_New_okP {k : Nat} {a0 : Int} {a1 : (List Int)} {r : api_Bits × Int} (h : riddleref01_New k a0 a1 = some r) : Ans Tryd.prog 60 [i6 (a0), sI a1] (.tup [pP5 r.1, i6 (r.2)]) := AnsO.ans (args := [i6 (a0), sI a1]) (riddleref01_New_ok h) (by kernel_rfl)
def riddleref10_none (k : Nat) (a0 : Int) : Option (api_Bits) :=
  (riddleref01_New k a0 ([])).bind fun t2_2 => some t2_2.1
theorem riddleref10_none_ok {k : Nat} {a0 : Int} {r : api_Bits} (h : riddleref10_none k a0 = some r) : AnsO Tryd.prog 72 [] [.p (i6 (a0))] [(7, rW 73 r.Words)] (.agg [.p (i6 (r.N)), .own 7]) := by
  refine W_fnO [7] Tryd.func72 rfl (by kernel_rfl) (by kernel_rfl) (by kernel_rfl) (by kernel_rfl) ?_
  intro X hro hn
  unfold riddleref10_none at h
  refine WC.rg hn [] [0, 2] [2] ⟨[(0, .p (i6 (a0))), (2, .ptr 2 0)], [(2, .box 25 [.p (i6 (0)), .p (.sl .nil 0 [])])], L0, []⟩ trivial ?_
  refine WX.seq ?_
  obtain ⟨t2_2, h2_1, h⟩ := bind_some h
  refine WC.r1 hn [(1, .co [] [] [] [(7, rW 73 t2_2.1.Words)] (.tup [.agg [.p (i6 (t2_2.1.N)), .own 7], .p (i6 (t2_2.2))]))] [2, 3] [2, 3, 7] ⟨[(2, .ptr 2 0), (3, .ptr 3 0)], [(2, .box 25 [.p (i6 (0)), .p (.sl .nil 0 [])]), (3, .box 25 [.p (i6 (t2_2.1.N)), .own 7]), (7, rW 73 t2_2.1.Words)], L0, []⟩ (And.intro (And.intro ((riddleref01_New_ok h2_1).ren 16 7 (by kernel_rfl)) (trivial)) (trivial)) ?_
  refine WC.rg hn [] [2] [2, 7] ⟨[(2, .ptr 2 0)], [(2, .box 25 [.p (i6 (t2_2.1.N)), .own 7]), (7, rW 73 t2_2.1.Words)], L0, []⟩ trivial ?_
  refine WX.ret ?_
  exact WC.outO (by rw [← Option.some.inj h]; kernel_rfl)
theorem riddleref10_none_okP {k : Nat} {a0 : Int} {r : api_Bits} (h : riddleref10_none k a0 = some r) : Ans Tryd.prog 72 [i6 (a0)] (pP5 r) := AnsO.ans (args := [i6 (a0)]) (riddleref10_none_ok h) (by kernel_rfl)
def riddleref10_Empty (k : Nat)  : Option (api_Nfa) :=
  (riddleref10_none k 0).bind fun t2_2 => (riddleref10_none k 0).bind fun t2_4 => some ((api_Nfa.mk ([]) t2_2 t2_4 ([]) true))
theorem riddleref10_Empty_ok {k : Nat}  {r : api_Nfa} (h : riddleref10_Empty k = some r) : AnsO Tryd.prog 40 [] [] [(1, rW 73 r.First.Words), (2, rW 73 r.Last.Words)] (.agg [.p (sC r.Classes), .p (i6 (r.First.N)), .own 1, .p (i6 (r.Last.N)), .own 2, .p (sB r.Follow), .p (bo (r.Null))]) := by
  refine W_fnO [1, 2] Tryd.func40 rfl (by kernel_rfl) (by kernel_rfl) (by kernel_rfl) (by kernel_rfl) ?_
  intro X hro hn
  unfold riddleref10_Empty at h
  refine WC.rg hn [] [0] [0] ⟨[(0, .ptr 0 0)], [(0, .box 28 [.p (.sl .nil 0 []), .p (i6 (0)), .p (.sl .nil 0 []), .p (i6 (0)), .p (.sl .nil 0 []), .p (.sl .nil 0 []), .p (bo (false))])], L0, []⟩ trivial ?_
  refine WX.seq ?_
  obtain ⟨t2_2, h2_1, h⟩ := bind_some h
  obtain ⟨t2_4, h2_3, h⟩ := bind_some h
  refine WC.r1 hn [(0, .co [] [] [] [(1, rW 73 t2_2.Words)] (.agg [.p (i6 (t2_2.N)), .own 1])), (1, .co [] [] [] [(2, rW 73 t2_4.Words)] (.agg [.p (i6 (t2_4.N)), .own 2]))] [0] [0, 1, 2] ⟨[(0, .ptr 0 0)], [(0, .box 28 [.p (.sl .nil 0 []), .p (i6 (t2_2.N)), .own 1, .p (i6 (t2_4.N)), .own 2, .p (.sl .nil 0 []), .p (bo (true))]), (1, rW 73 t2_2.Words), (2, rW 73 t2_4.Words)], L0, []⟩ (And.intro (And.intro ((riddleref10_none_ok h2_1).ren 7 1 (by kernel_rfl)) (trivial)) (And.intro (And.intro ((riddleref10_none_ok h2_3).ren 7 2 (by kernel_rfl)) (trivial)) (trivial))) ?_
  refine WX.ret ?_
  exact WC.outO (by rw [← Option.some.inj h]; kernel_rfl)
theorem riddleref10_Empty_okP {k : Nat}  {r : api_Nfa} (h : riddleref10_Empty k = some r) : Ans Tryd.prog 40 [] (pP2 r) := AnsO.ans (args := []) (riddleref10_Empty_ok h) (by kernel_rfl)
def riddleref01_in (a0 : (List Int)) (a1 : Int) : Option (Bool) :=
  (at_ a0 ((IntKind.i64.wrap (a1.tdiv 64)))).bind fun t2_2 => (if ¬ (IntKind.u64.wrap ((a1.tmod 64))) < 0 then some (((bits .and .u64 ((t2_2.fdiv (2 ^ (min ((IntKind.u64.wrap ((a1.tmod 64)))).toNat IntKind.u64.bits)))) 1) == 1)) else none)
theorem riddleref01_in_ok {a0 : (List Int)} {a1 : Int} {r : Bool} (h : riddleref01_in a0 a1 = some r) : Ans Tryd.prog 90 [sW a0, i6 (a1)] (bo (r)) := by
  refine W_fn Tryd.func90 rfl (by kernel_rfl) (by kernel_rfl) ?_
  intro X hro hn
  unfold riddleref01_in at h
  refine WC.rg hn [] [0, 1] [] ⟨[(0, .p (sW a0)), (1, .p (i6 (a1)))], [], L0, []⟩ trivial ?_
  refine WX.seq ?_
  obtain ⟨t2_2, h2_1, h⟩ := bind_some h
  obtain ⟨c2_3, h⟩ := if_some h
  refine WC.r1 hn [(3, .val (.p (.rop ((eI .u64).cells t2_2 ++ encL (eI .u64) (a0.drop (((IntKind.i64.wrap (a1.tdiv 64))).toNat + 1)))))), (8, .val (.p (u6 ((t2_2.fdiv (2 ^ (min ((IntKind.u64.wrap ((a1.tmod 64)))).toNat IntKind.u64.bits)))))))] [4] [] ⟨[(4, .p (bo ((((bits .and .u64 ((t2_2.fdiv (2 ^ (min ((IntKind.u64.wrap ((a1.tmod 64)))).toNat IntKind.u64.bits)))) 1) == 1)))))], [], L0, []⟩ (And.intro (Ix (eI .u64) h2_1) (And.intro (Shr .u64 t2_2 ((IntKind.u64.wrap ((a1.tmod 64)))) c2_3) (trivial))) ?_
  refine WX.ret ?_
  exact WC.outP (by rw [← Option.some.inj h]; kernel_rfl)
def riddleref01_Check_l0 (a0 : api_Bits) (J6 : Unit → Option (Int)) : Nat → Int → Option (Int)
  | 0, _ => none
  | k + 1, x21_1_1 => (if (decide (x21_1_1 < (IntKind.i64.wrap (64 * (a0.Words.length : Int))))) = true then (riddleref01_in a0.Words x21_1_1).bind fun t36_2 => (if t36_2 = true then some 10 else riddleref01_Check_l0 a0 J6 k ((IntKind.i64.wrap (x21_1_1 + 1)))) else J6 ())
def riddleref01_Check (k : Nat) (a0 : api_Bits) : Option (Int) :=
  (if (((decide (a0.N < 0))) || ((((decide (a0.N > 8192))) || (((a0.Words.length : Int) != (IntKind.i64.wrap (((IntKind.i64.wrap (a0.N + 63))).tdiv 64))))))) = true then some 10 else jn (fun (v6 : Unit) => some 0) fun J6 => riddleref01_Check_l0 a0 J6 k a0.N)
theorem riddleref01_Check_ok {k : Nat} {a0 : api_Bits} {r : Int} (h : riddleref01_Check k a0 = some r) : Ans Tryd.prog 96 [pP5 a0] (i6 (r)) := by
  refine W_fn Tryd.func96 rfl (by kernel_rfl) (by kernel_rfl) ?_
  intro X hro hn
  unfold riddleref01_Check at h
  refine WC.rg hn [] [1] [1] ⟨[(1, .ptr 1 0)], [(1, .box 25 (vV5 a0))], L0, []⟩ trivial ?_
  refine WX.seq ?_
  refine WX.seq ?_
  refine WC.via (α := Bool) (fun v2 => ⟨[(1, .ptr 1 0), (21, .p (bo (v2)))], [(1, .box 25 (vV5 a0))], L0, []⟩) ((((decide (a0.N < 0))) || ((((decide (a0.N > 8192))) || (((a0.Words.length : Int) != (IntKind.i64.wrap (((IntKind.i64.wrap (a0.N + 63))).tdiv 64)))))))) (fun hk => ?_) ?_
  · rcases Bool.eq_false_or_eq_true ((decide (a0.N < 0))) with b2_3 | b2_3
    · exact WC.reg hn [(3, .val (.p (bo (true))))] [1, 21] [1] ⟨[(1, .ptr 1 0), (21, .p (bo (true)))], [(1, .box 25 (vV5 a0))], L0, []⟩ (And.intro (Bl b2_3) (trivial)) (by kernel_rfl) (hk true (by first | (rw [b2_3]; rfl) | simp [b2_3]))
    · rcases Bool.eq_false_or_eq_true ((decide (a0.N > 8192))) with b2_8 | b2_8
      · exact WC.reg hn [(3, .val (.p (bo (false)))), (8, .val (.p (bo (true))))] [1, 21] [1] ⟨[(1, .ptr 1 0), (21, .p (bo (true)))], [(1, .box 25 (vV5 a0))], L0, []⟩ (And.intro (Bl b2_3) (And.intro (Bl b2_8) (trivial))) (by kernel_rfl) (hk true (by first | (rw [b2_3, b2_8]; rfl) | simp [b2_3, b2_8]))
      · exact WC.reg hn [(3, .val (.p (bo (false)))), (8, .val (.p (bo (false))))] [1, 21] [1] ⟨[(1, .ptr 1 0), (21, .p (bo ((((a0.Words.length : Int) != (IntKind.i64.wrap (((IntKind.i64.wrap (a0.N + 63))).tdiv 64)))))))], [(1, .box 25 (vV5 a0))], L0, []⟩ (And.intro (Bl b2_3) (And.intro (Bl b2_8) (trivial))) (by kernel_rfl) (hk (((a0.Words.length : Int) != (IntKind.i64.wrap (((IntKind.i64.wrap (a0.N + 63))).tdiv 64)))) (by first | (rw [b2_3, b2_8]; rfl) | simp [b2_3, b2_8]))
  rcases if_or h with ⟨c3, h⟩ | ⟨c3, h⟩
  · refine WC.condT c3 (by kernel_rfl) ?_
    refine WC.rg hn [] [2] [] ⟨[(2, .p (i6 (10)))], [], L0, []⟩ trivial ?_
    refine WX.ret ?_
    exact WC.outP (by rw [← Option.some.inj h]; kernel_rfl)
  · refine WC.condF c3 (by kernel_rfl) ?_
    refine WX.skip ?_
    refine WX.seq ?_
    refine WC.rg hn [] [1, 3] [1] ⟨[(1, .ptr 1 0), (3, .p (i6 (a0.N)))], [(1, .box 25 (vV5 a0))], L0, []⟩ trivial ?_
    obtain ⟨J6, eJ6, h⟩ := jn_some h
    try dsimp only at h
    refine WC.join (α := Unit) (fun v6 => ⟨[], [], L0, []⟩) (fun v6 => J6 v6 = some r) ?_ (fun hJ6 => ?_)
    · rintro _ h
      rw [eJ6] at h
      try dsimp only at h
      refine WC.rg hn [] [2] [] ⟨[(2, .p (i6 (0)))], [], L0, []⟩ trivial ?_
      refine WX.ret ?_
      exact WC.outP (by rw [← Option.some.inj h]; kernel_rfl)
    · skip
      refine WX.block ?_
      refine WC.loop (V := Int) (riddleref01_Check_l0 a0 J6) r (fun v21 => ⟨[(1, .ptr 1 0), (3, .p (i6 (v21)))], [(1, .box 25 (vV5 a0))], L0, []⟩) _ a0.N h (fun _ => rfl) [1, 3] [1] (by kernel_rfl) ?_
      clear h; rintro k x21_1_1 h K21 hnext21 hexit21
      rw [riddleref01_Check_l0] at h
      refine WX.seq ?_
      refine WC.rg hn [] [1, 3, 29] [1] ⟨[(1, .ptr 1 0), (3, .p (i6 (x21_1_1))), (29, .p (bo (((decide (x21_1_1 < (IntKind.i64.wrap (64 * (a0.Words.length : Int)))))))))], [(1, .box 25 (vV5 a0))], L0, []⟩ trivial ?_
      rcases if_or h with ⟨c35, h⟩ | ⟨c35, h⟩
      · refine WC.condT c35 (by kernel_rfl) ?_
        refine WX.skip ?_
        refine WX.seq ?_
        refine WX.block ?_
        refine WX.seq ?_
        obtain ⟨t36_2, h36_1, h⟩ := bind_some h
        refine WC.r1 hn [(3, .resP (bo (t36_2)))] [1, 3, 35] [1] ⟨[(1, .ptr 1 0), (3, .p (i6 (x21_1_1))), (35, .p (bo (t36_2)))], [(1, .box 25 (vV5 a0))], L0, []⟩ (And.intro ((riddleref01_in_ok h36_1)) (trivial)) ?_
        rcases if_or h with ⟨c37, h⟩ | ⟨c37, h⟩
        · refine WC.condT c37 (by kernel_rfl) ?_
          refine WC.rg hn [] [2] [] ⟨[(2, .p (i6 (10)))], [], L0, []⟩ trivial ?_
          refine WX.ret ?_
          refine WC.ret_all (hexit21 _ _ (by simp) ?_)
          exact WC.outP (by rw [← Option.some.inj h]; kernel_rfl)
        · refine WC.condF c37 (by kernel_rfl) ?_
          refine WX.skip ?_
          refine WX.popBlk ?_
          refine WC.r1 hn [] [1, 3] [1] ⟨[(1, .ptr 1 0), (3, .p (i6 (((IntKind.i64.wrap (x21_1_1 + 1))))))], [(1, .box 25 (vV5 a0))], L0, []⟩ trivial ?_
          exact WC.next [1, 3] [1] (by kernel_rfl) (hnext21 ((IntKind.i64.wrap (x21_1_1 + 1))) h)
      · refine WC.condF c35 (by kernel_rfl) ?_
        refine WX.exit ?_
        refine WX.popCodeExit ?_
        refine WC.exit_nil (hexit21 _ _ (by simp) ?_)
        refine WX.popBlkHit ?_
        exact WC.keep [] [] (by kernel_rfl) (hJ6 () h)
def riddleref01_may (k : Nat) (a0 : api_Bits) : Option (api_Bits) :=
  (riddleref01_Check k a0).bind fun t2_2 => (if (t2_2 != 0) = true then (riddleref01_Zero 0).bind fun t4_2 => some t4_2 else some a0)
theorem riddleref01_may_ok {k : Nat} {a0 : api_Bits} {r : api_Bits} (h : riddleref01_may k a0 = some r) : Ans Tryd.prog 89 [pP5 a0] (pP5 r) := by
  refine W_fn Tryd.func89 rfl (by kernel_rfl) (by kernel_rfl) ?_
  intro X hro hn
  unfold riddleref01_may at h
  refine WC.rg hn [] [1, 2] [1, 2] ⟨[(1, .ptr 1 0), (2, .ptr 2 0)], [(1, .box 25 (vV5 a0)), (2, .box 25 [.p (i6 (0)), .p (.sl .nil 0 [])])], L0, []⟩ trivial ?_
  refine WX.seq ?_
  refine WX.seq ?_
  obtain ⟨t2_2, h2_1, h⟩ := bind_some h
  refine WC.r1 hn [(1, .resP (i6 (t2_2)))] [1, 2, 5] [1, 2] ⟨[(1, .ptr 1 0), (2, .ptr 2 0), (5, .p (bo (((t2_2 != 0)))))], [(1, .box 25 (vV5 a0)), (2, .box 25 [.p (i6 (0)), .p (.sl .nil 0 [])])], L0, []⟩ (And.intro ((riddleref01_Check_ok h2_1)) (trivial)) ?_
  rcases if_or h with ⟨c3, h⟩ | ⟨c3, h⟩
  · refine WC.condT c3 (by kernel_rfl) ?_
    refine WX.seq ?_
    obtain ⟨t4_2, h4_1, h⟩ := bind_some h
    refine WC.r1 hn [(0, .co [] [] [] [(6, rW 73 t4_2.Words)] (.agg [.p (i6 (t4_2.N)), .own 6]))] [2] [2, 6] ⟨[(2, .ptr 2 0)], [(2, .box 25 [.p (i6 (t4_2.N)), .own 6]), (6, rW 73 t4_2.Words)], L0, []⟩ (And.intro (And.intro ((riddleref01_Zero_ok h4_1).ren 7 6 (by kernel_rfl)) (trivial)) (trivial)) ?_
    refine WX.ret ?_
    exact WC.outP (by rw [← Option.some.inj h]; kernel_rfl)
  · refine WC.condF c3 (by kernel_rfl) ?_
    refine WX.skip ?_
    refine WC.rg hn [] [2] [2] ⟨[(2, .ptr 2 0)], [(2, .box 25 (vV5 a0))], L0, []⟩ trivial ?_
    refine WX.ret ?_
    exact WC.outP (by rw [← Option.some.inj h]; kernel_rfl)
def riddleref01_Copy (k : Nat) (a0 : api_Bits) : Option (api_Bits) :=
  (riddleref01_may k a0).bind fun t2_2 => (if okApp 8 (([] : List Int).length + t2_2.Words.length) then some ((api_Bits.mk t2_2.N (([] : List Int) ++ t2_2.Words))) else none)
theorem riddleref01_Copy_ok {k : Nat} {a0 : api_Bits} {r : api_Bits} (h : riddleref01_Copy k a0 = some r) : AnsO Tryd.prog 100 [] [.p (pP5 a0)] [(11, rW 73 r.Words)] (.agg [.p (i6 (r.N)), .own 11]) := by
  refine W_fnO [11] Tryd.func100 rfl (by kernel_rfl) (by kernel_rfl) (by kernel_rfl) (by kernel_rfl) ?_
  intro X hro hn
  unfold riddleref01_Copy at h
  refine WC.rg hn [] [1, 2] [1, 2] ⟨[(1, .ptr 1 0), (2, .ptr 2 0)], [(1, .box 25 (vV5 a0)), (2, .box 25 [.p (i6 (0)), .p (.sl .nil 0 [])])], L0, []⟩ trivial ?_
  refine WX.seq ?_
  obtain ⟨t2_2, h2_1, h⟩ := bind_some h
  refine WC.r1 hn [(1, .resP (pP5 t2_2))] [1, 2] [1, 2] ⟨[(1, .ptr 1 0), (2, .ptr 2 0)], [(1, .box 25 (vV5 t2_2)), (2, .box 25 [.p (i6 (0)), .p (.sl .nil 0 [])])], L0, []⟩ (And.intro ((riddleref01_may_ok h2_1)) (trivial)) ?_
  refine WC.rg hn [] [1, 2, 3] [1, 2] ⟨[(1, .ptr 1 0), (2, .ptr 2 0), (3, .p (.sl .nil 0 []))], [(1, .box 25 (vV5 t2_2)), (2, .box 25 [.p (i6 (0)), .p (.sl .nil 0 [])])], L0, []⟩ trivial ?_
  refine WX.seq ?_
  obtain ⟨c4_1, h⟩ := if_some h
  refine WC.drw hn [(5, [0, 1]), (7, [])] [11] [(5, .app none (rW 73 (([] : List Int) ++ t2_2.Words)))] [2] [2, 11] ⟨[(2, .ptr 2 0)], [(2, .box 25 [.p (i6 (t2_2.N)), .own 11]), (11, rW 73 (([] : List Int) ++ t2_2.Words))], L0, []⟩ (And.intro (ApS (eI .u64) none 73 8 ([] : List Int) t2_2.Words c4_1) (And.intro (And.intro (Eq.refl (some (.ptr 1 0 : AV))) (And.intro (Eq.refl (some (.p (i6 (t2_2.N)) : AV))) (trivial))) (trivial))) (by kernel_rfl) (by kernel_rfl) (by kernel_rfl) (by kernel_rfl) ?_
  refine WX.ret ?_
  exact WC.outO (by rw [← Option.some.inj h]; kernel_rfl)
theorem riddleref01_Copy_okP {k : Nat} {a0 : api_Bits} {r : api_Bits} (h : riddleref01_Copy k a0 = some r) : Ans Tryd.prog 100 [pP5 a0] (pP5 r) := AnsO.ans (args := [pP5 a0]) (riddleref01_Copy_ok h) (by kernel_rfl)
def riddleref01_With (k : Nat) (a0 : api_Bits) (a1 : Int) : Option (api_Bits) :=
  (riddleref01_Copy k a0).bind fun t2_2 => (riddleref01_put t2_2 a1).bind fun t3_2 => some ((api_Bits.mk t2_2.N t3_2))
theorem riddleref01_With_ok {k : Nat} {a0 : api_Bits} {a1 : Int} {r : api_Bits} (h : riddleref01_With k a0 a1 = some r) : AnsO Tryd.prog 73 [] [.p (pP5 a0), .p (i6 (a1))] [(7, rW 73 r.Words)] (.agg [.p (i6 (r.N)), .own 7]) := by
  refine W_fnO [7] Tryd.func73 rfl (by kernel_rfl) (by kernel_rfl) (by kernel_rfl) (by kernel_rfl) ?_
  intro X hro hn
  unfold riddleref01_With at h
  refine WC.rg hn [] [1, 2, 4] [2, 4] ⟨[(1, .p (i6 (a1))), (2, .ptr 2 0), (4, .ptr 4 0)], [(2, .box 25 (vV5 a0)), (4, .box 25 [.p (i6 (0)), .p (.sl .nil 0 [])])], L0, []⟩ trivial ?_
  refine WX.seq ?_
  obtain ⟨t2_2, h2_1, h⟩ := bind_some h
  refine WC.r1 hn [(1, .co [] [] [] [(7, rW 73 t2_2.Words)] (.agg [.p (i6 (t2_2.N)), .own 7]))] [1, 4, 5] [4, 5, 7] ⟨[(1, .p (i6 (a1))), (4, .ptr 4 0), (5, .ptr 5 0)], [(4, .box 25 [.p (i6 (0)), .p (.sl .nil 0 [])]), (5, .box 25 [.p (i6 (t2_2.N)), .own 7]), (7, rW 73 t2_2.Words)], L0, []⟩ (And.intro (And.intro ((riddleref01_Copy_ok h2_1).ren 11 7 (by kernel_rfl)) (trivial)) (trivial)) ?_
  refine WX.seq ?_
  obtain ⟨t3_2, h3_1, h⟩ := bind_some h
  refine WC.r1 hn [(2, .co [] [7] [] [(7, rW 73 t3_2)] (.tup []))] [4, 5] [4, 5, 7] ⟨[(4, .ptr 4 0), (5, .ptr 5 0)], [(4, .box 25 [.p (i6 (0)), .p (.sl .nil 0 [])]), (5, .box 25 [.p (i6 (t2_2.N)), .own 7]), (7, rW 73 t3_2)], L0, []⟩ (And.intro (And.intro ((riddleref01_put_ok h3_1).ren 1000 7 (by kernel_rfl)) (trivial)) (trivial)) ?_
  refine WC.rg hn [] [4] [4, 7] ⟨[(4, .ptr 4 0)], [(4, .box 25 [.p (i6 (t2_2.N)), .own 7]), (7, rW 73 t3_2)], L0, []⟩ trivial ?_
  refine WX.ret ?_
  exact WC.outO (by rw [← Option.some.inj h]; kernel_rfl)
theorem riddleref01_With_okP {k : Nat} {a0 : api_Bits} {a1 : Int} {r : api_Bits} (h : riddleref01_With k a0 a1 = some r) : Ans Tryd.prog 73 [pP5 a0, i6 (a1)] (pP5 r) := AnsO.ans (args := [pP5 a0, i6 (a1)]) (riddleref01_With_ok h) (by kernel_rfl)
def riddleref10_Leaf (k : Nat) (a0 : (Arr4 Int)) : Option (api_Nfa) :=
  (riddleref10_none k 1).bind fun t2_2 => (riddleref01_With k t2_2 0).bind fun t2_4 => (riddleref10_none k 1).bind fun t3_2 => some ((api_Nfa.mk ([a0]) t2_4 t2_4 ([t3_2]) false))
theorem riddleref10_Leaf_ok {k : Nat} {a0 : (Arr4 Int)} {r : api_Nfa} (h : riddleref10_Leaf k a0 = some r) : Ans Tryd.prog 41 [.agg [u6 (a0.a0), u6 (a0.a1), u6 (a0.a2), u6 (a0.a3)]] (pP2 r) := by
  refine W_fn Tryd.func41 rfl (by kernel_rfl) (by kernel_rfl) ?_
  intro X hro hn
  unfold riddleref10_Leaf at h
  refine WC.rg hn [] [1, 2] [1, 2] ⟨[(1, .ptr 1 0), (2, .ptr 2 0)], [(1, .box 75 [.p (u6 (a0.a0)), .p (u6 (a0.a1)), .p (u6 (a0.a2)), .p (u6 (a0.a3))]), (2, .box 28 [.p (.sl .nil 0 []), .p (i6 (0)), .p (.sl .nil 0 []), .p (i6 (0)), .p (.sl .nil 0 []), .p (.sl .nil 0 []), .p (bo (false))])], L0, []⟩ trivial ?_
  refine WX.seq ?_
  obtain ⟨t2_2, h2_1, h⟩ := bind_some h
  obtain ⟨t2_4, h2_3, h⟩ := bind_some h
  refine WC.r1 hn [(0, .co [] [] [] [(4, rW 73 t2_2.Words)] (.agg [.p (i6 (t2_2.N)), .own 4])), (1, .co [] [] [4] [(5, rW 73 t2_4.Words)] (.agg [.p (i6 (t2_4.N)), .own 5]))] [1, 2, 3] [1, 2, 3, 5] ⟨[(1, .ptr 1 0), (2, .ptr 2 0), (3, .ptr 3 0)], [(1, .box 75 [.p (u6 (a0.a0)), .p (u6 (a0.a1)), .p (u6 (a0.a2)), .p (u6 (a0.a3))]), (2, .box 28 [.p (.sl .nil 0 []), .p (i6 (0)), .p (.sl .nil 0 []), .p (i6 (0)), .p (.sl .nil 0 []), .p (.sl .nil 0 []), .p (bo (false))]), (3, .box 25 [.p (i6 (t2_4.N)), .own 5]), (5, rW 73 t2_4.Words)], L0, []⟩ (And.intro (And.intro ((riddleref10_none_ok h2_1).ren 7 4 (by kernel_rfl)) (trivial)) (And.intro (And.intro ((riddleref01_With_ok h2_3).ren 7 5 (by kernel_rfl)) (And.intro (rfl : (.agg [.p (i6 (t2_4.N)), .own 5] : AV).flat = true) (And.intro (flats_encL (eI .u64) (fun _ => rfl) t2_4.Words) (trivial)))) (trivial))) ?_
  refine WX.seq ?_
  obtain ⟨t3_2, h3_1, h⟩ := bind_some h
  refine WC.drw hn [(7, [])] [] [(4, .resP (pP5 t3_2))] [2] [2, 5] ⟨[(2, .ptr 2 0)], [(2, .box 28 [.p (sC ([a0])), .p (i6 (t2_4.N)), .own 5, .p (i6 (t2_4.N)), .own 5, .p (sB ([t3_2])), .p (bo (false))]), (5, rW 73 t2_4.Words)], L0, []⟩ (And.intro ((riddleref10_none_okP h3_1)) (trivial)) (by kernel_rfl) (by kernel_rfl) (by kernel_rfl) (by kernel_rfl) ?_
  refine WX.ret ?_
  exact WC.outP (by rw [← Option.some.inj h]; kernel_rfl)
def riddleref10_set (k : Nat) (a0 : api_Bits) (a1 : Int) : Option (Bool) :=
  (riddleref01_Check k a0).bind fun t2_2 => some ((((t2_2 == 0)) && ((a0.N == a1))))
theorem riddleref10_set_ok {k : Nat} {a0 : api_Bits} {a1 : Int} {r : Bool} (h : riddleref10_set k a0 a1 = some r) : Ans Tryd.prog 97 [pP5 a0, i6 (a1)] (bo (r)) := by
  refine W_fn Tryd.func97 rfl (by kernel_rfl) (by kernel_rfl) ?_
  intro X hro hn
  unfold riddleref10_set at h
  refine WC.rg hn [] [1, 2] [2] ⟨[(1, .p (i6 (a1))), (2, .ptr 2 0)], [(2, .box 25 (vV5 a0))], L0, []⟩ trivial ?_
  refine WX.seq ?_
  obtain ⟨t2_2, h2_1, h⟩ := bind_some h
  refine WC.via (α := Bool) (fun v2 => ⟨[(4, .p (bo (v2)))], [], L0, []⟩) ((((t2_2 == 0)) && ((a0.N == a1)))) (fun hk => ?_) ?_
  · rcases Bool.eq_false_or_eq_true ((t2_2 == 0)) with b2_3 | b2_3
    · exact WC.reg hn [(1, .resP (i6 (t2_2))), (3, .val (.p (bo (true))))] [4] [] ⟨[(4, .p (bo (((a0.N == a1)))))], [], L0, []⟩ (And.intro ((riddleref01_Check_ok h2_1)) (And.intro (Bl b2_3) (trivial))) (by kernel_rfl) (hk ((a0.N == a1)) (by first | (rw [b2_3]; rfl) | simp [b2_3]))
    · exact WC.reg hn [(1, .resP (i6 (t2_2))), (3, .val (.p (bo (false))))] [4] [] ⟨[(4, .p (bo (false)))], [], L0, []⟩ (And.intro ((riddleref01_Check_ok h2_1)) (And.intro (Bl b2_3) (trivial))) (by kernel_rfl) (hk false (by first | (rw [b2_3]; rfl) | simp [b2_3]))
  refine WX.ret ?_
  exact WC.outP (by rw [← Option.some.inj h]; kernel_rfl)
def riddleref10_Check_l0 (a0 : api_Nfa) (J7 : Unit → Option (Int)) : Nat → Int → Option (Int)
  | 0, _ => none
  | k + 1, x22_1_1 => (if (decide (x22_1_1 < (a0.Classes.length : Int))) = true then (at_ a0.Follow x22_1_1).bind fun t37_2 => (riddleref10_set k t37_2 ((a0.Classes.length : Int))).bind fun t37_4 => (if (!t37_4) = true then some 100 else riddleref10_Check_l0 a0 J7 k ((IntKind.i64.wrap (x22_1_1 + 1)))) else J7 ())
def riddleref10_Check (k : Nat) (a0 : api_Nfa) : Option (Int) :=
  ((if (decide ((a0.Classes.length : Int) > 512)) = true then some true else (if ((a0.Follow.length : Int) != (a0.Classes.length : Int)) = true then some true else (riddleref10_set k a0.First ((a0.Classes.length : Int))).bind fun t3_2 => (if (!t3_2) = true then some true else (riddleref10_set k a0.Last ((a0.Classes.length : Int))).bind fun t3_4 => some ((!t3_4))))) : Option (Bool)).bind fun v3 => (if v3 = true then some 100 else jn (fun (v7 : Unit) => some 0) fun J7 => riddleref10_Check_l0 a0 J7 k 0)
theorem riddleref10_Check_ok {k : Nat} {a0 : api_Nfa} {r : Int} (h : riddleref10_Check k a0 = some r) : Ans Tryd.prog 67 [pP2 a0] (i6 (r)) := by
  refine W_fn Tryd.func67 rfl (by kernel_rfl) (by kernel_rfl) ?_
  intro X hro hn
  unfold riddleref10_Check at h
  refine WC.rg hn [] [1] [1] ⟨[(1, .ptr 1 0)], [(1, .box 28 (vV2 a0))], L0, []⟩ trivial ?_
  refine WC.rg hn [] [1, 3] [1] ⟨[(1, .ptr 1 0), (3, .p (i6 (((a0.Classes.length : Int)))))], [(1, .box 28 (vV2 a0))], L0, []⟩ trivial ?_
  refine WX.seq ?_
  refine WX.seq ?_
  obtain ⟨m3_1, g3, h⟩ := bind_some h
  refine WC.via (α := Bool) (fun v3 => ⟨[(1, .ptr 1 0), (3, .p (i6 (((a0.Classes.length : Int))))), (30, .p (bo (v3)))], [(1, .box 28 (vV2 a0))], L0, []⟩) m3_1 (fun hk => ?_) ?_
  · rcases if_or g3 with ⟨b3_2, g3⟩ | ⟨b3_2, g3⟩
    · exact WC.reg hn [(2, .val (.p (bo (true))))] [1, 3, 30] [1] ⟨[(1, .ptr 1 0), (3, .p (i6 (((a0.Classes.length : Int))))), (30, .p (bo (true)))], [(1, .box 28 (vV2 a0))], L0, []⟩ (And.intro (Bl b3_2) (trivial)) (by kernel_rfl) (hk true (Option.some.inj g3))
    · rcases if_or g3 with ⟨b3_9, g3⟩ | ⟨b3_9, g3⟩
      · exact WC.reg hn [(2, .val (.p (bo (false)))), (9, .val (.p (bo (true))))] [1, 3, 30] [1] ⟨[(1, .ptr 1 0), (3, .p (i6 (((a0.Classes.length : Int))))), (30, .p (bo (true)))], [(1, .box 28 (vV2 a0))], L0, []⟩ (And.intro (Bl b3_2) (And.intro (Bl b3_9) (trivial))) (by kernel_rfl) (hk true (Option.some.inj g3))
      · obtain ⟨t3_2, h3_1, g3⟩ := bind_some g3
        rcases if_or g3 with ⟨b3_16, g3⟩ | ⟨b3_16, g3⟩
        · exact WC.reg hn [(2, .val (.p (bo (false)))), (9, .val (.p (bo (false)))), (13, .resP (bo (t3_2))), (16, .val (.p (bo (true))))] [1, 3, 30] [1] ⟨[(1, .ptr 1 0), (3, .p (i6 (((a0.Classes.length : Int))))), (30, .p (bo (true)))], [(1, .box 28 (vV2 a0))], L0, []⟩ (And.intro (Bl b3_2) (And.intro (Bl b3_9) (And.intro ((riddleref10_set_ok h3_1)) (And.intro (Bl b3_16) (trivial))))) (by kernel_rfl) (hk true (Option.some.inj g3))
        · obtain ⟨t3_4, h3_3, g3⟩ := bind_some g3
          exact WC.reg hn [(2, .val (.p (bo (false)))), (9, .val (.p (bo (false)))), (13, .resP (bo (t3_2))), (16, .val (.p (bo (false)))), (20, .resP (bo (t3_4)))] [1, 3, 30] [1] ⟨[(1, .ptr 1 0), (3, .p (i6 (((a0.Classes.length : Int))))), (30, .p (bo (((!t3_4)))))], [(1, .box 28 (vV2 a0))], L0, []⟩ (And.intro (Bl b3_2) (And.intro (Bl b3_9) (And.intro ((riddleref10_set_ok h3_1)) (And.intro (Bl b3_16) (And.intro ((riddleref10_set_ok h3_3)) (trivial)))))) (by kernel_rfl) (hk ((!t3_4)) (Option.some.inj g3))
  rcases if_or h with ⟨c4, h⟩ | ⟨c4, h⟩
  · refine WC.condT c4 (by kernel_rfl) ?_
    refine WC.rg hn [] [2] [] ⟨[(2, .p (i6 (100)))], [], L0, []⟩ trivial ?_
    refine WX.ret ?_
    exact WC.outP (by rw [← Option.some.inj h]; kernel_rfl)
  · refine WC.condF c4 (by kernel_rfl) ?_
    refine WX.skip ?_
    refine WX.seq ?_
    refine WC.rg hn [] [1, 3, 4] [1] ⟨[(1, .ptr 1 0), (3, .p (i6 (((a0.Classes.length : Int))))), (4, .p (i6 (0)))], [(1, .box 28 (vV2 a0))], L0, []⟩ trivial ?_
    obtain ⟨J7, eJ7, h⟩ := jn_some h
    try dsimp only at h
    refine WC.join (α := Unit) (fun v7 => ⟨[], [], L0, []⟩) (fun v7 => J7 v7 = some r) ?_ (fun hJ7 => ?_)
    · rintro _ h
      rw [eJ7] at h
      try dsimp only at h
      refine WC.rg hn [] [2] [] ⟨[(2, .p (i6 (0)))], [], L0, []⟩ trivial ?_
      refine WX.ret ?_
      exact WC.outP (by rw [← Option.some.inj h]; kernel_rfl)
    · skip
      refine WX.block ?_
      refine WC.loop (V := Int) (riddleref10_Check_l0 a0 J7) r (fun v22 => ⟨[(1, .ptr 1 0), (3, .p (i6 (((a0.Classes.length : Int))))), (4, .p (i6 (v22)))], [(1, .box 28 (vV2 a0))], L0, []⟩) _ 0 h (fun _ => rfl) [1, 3, 4] [1] (by kernel_rfl) ?_
      clear h; rintro k x22_1_1 h K22 hnext22 hexit22
      rw [riddleref10_Check_l0] at h
      refine WX.seq ?_
      refine WC.rg hn [] [1, 3, 4, 33] [1] ⟨[(1, .ptr 1 0), (3, .p (i6 (((a0.Classes.length : Int))))), (4, .p (i6 (x22_1_1))), (33, .p (bo (((decide (x22_1_1 < (a0.Classes.length : Int)))))))], [(1, .box 28 (vV2 a0))], L0, []⟩ trivial ?_
      rcases if_or h with ⟨c36, h⟩ | ⟨c36, h⟩
      · refine WC.condT c36 (by kernel_rfl) ?_
        refine WX.skip ?_
        refine WX.seq ?_
        refine WX.block ?_
        refine WX.seq ?_
        obtain ⟨t37_2, h37_1, h⟩ := bind_some h
        obtain ⟨t37_4, h37_3, h⟩ := bind_some h
        refine WC.r1 hn [(3, .val (.p (.rop (e_api_Bits.cells t37_2 ++ encL e_api_Bits (a0.Follow.drop (x22_1_1.toNat + 1)))))), (6, .resP (bo (t37_4)))] [1, 3, 4, 43] [1] ⟨[(1, .ptr 1 0), (3, .p (i6 (((a0.Classes.length : Int))))), (4, .p (i6 (x22_1_1))), (43, .p (bo (((!t37_4)))))], [(1, .box 28 (vV2 a0))], L0, []⟩ (And.intro (Ix e_api_Bits h37_1) (And.intro ((riddleref10_set_ok h37_3)) (trivial))) ?_
        rcases if_or h with ⟨c38, h⟩ | ⟨c38, h⟩
        · refine WC.condT c38 (by kernel_rfl) ?_
          refine WC.rg hn [] [2] [] ⟨[(2, .p (i6 (100)))], [], L0, []⟩ trivial ?_
          refine WX.ret ?_
          refine WC.ret_all (hexit22 _ _ (by simp) ?_)
          exact WC.outP (by rw [← Option.some.inj h]; kernel_rfl)
        · refine WC.condF c38 (by kernel_rfl) ?_
          refine WX.skip ?_
          refine WX.popBlk ?_
          refine WC.r1 hn [] [1, 3, 4] [1] ⟨[(1, .ptr 1 0), (3, .p (i6 (((a0.Classes.length : Int))))), (4, .p (i6 (((IntKind.i64.wrap (x22_1_1 + 1))))))], [(1, .box 28 (vV2 a0))], L0, []⟩ trivial ?_
          exact WC.next [1, 3, 4] [1] (by kernel_rfl) (hnext22 ((IntKind.i64.wrap (x22_1_1 + 1))) h)
      · refine WC.condF c36 (by kernel_rfl) ?_
        refine WX.exit ?_
        refine WX.popCodeExit ?_
        refine WC.exit_nil (hexit22 _ _ (by simp) ?_)
        refine WX.popBlkHit ?_
        exact WC.keep [] [] (by kernel_rfl) (hJ7 () h)
def riddleref01_Has (k : Nat) (a0 : api_Bits) (a1 : Int) : Option (Bool) :=
  (riddleref01_may k a0).bind fun t2_2 => ((if (decide (a1 ≥ 0)) = true then (if (decide (a1 < t2_2.N)) = true then (riddleref01_in t2_2.Words a1).bind fun t3_2 => some t3_2 else some false) else some false) : Option (Bool)).bind fun v3 => some v3
theorem riddleref01_Has_ok {k : Nat} {a0 : api_Bits} {a1 : Int} {r : Bool} (h : riddleref01_Has k a0 a1 = some r) : Ans Tryd.prog 53 [pP5 a0, i6 (a1)] (bo (r)) := by
  refine W_fn Tryd.func53 rfl (by kernel_rfl) (by kernel_rfl) ?_
  intro X hro hn
  unfold riddleref01_Has at h
  refine WC.rg hn [] [1, 2] [2] ⟨[(1, .p (i6 (a1))), (2, .ptr 2 0)], [(2, .box 25 (vV5 a0))], L0, []⟩ trivial ?_
  refine WX.seq ?_
  obtain ⟨t2_2, h2_1, h⟩ := bind_some h
  refine WC.r1 hn [(1, .resP (pP5 t2_2))] [1, 2] [2] ⟨[(1, .p (i6 (a1))), (2, .ptr 2 0)], [(2, .box 25 (vV5 t2_2))], L0, []⟩ (And.intro ((riddleref01_may_ok h2_1)) (trivial)) ?_
  refine WX.seq ?_
  obtain ⟨m3_1, g3, h⟩ := bind_some h
  refine WC.via (α := Bool) (fun v3 => ⟨[(4, .p (bo (v3)))], [], L0, []⟩) m3_1 (fun hk => ?_) ?_
  · rcases if_or g3 with ⟨b3_2, g3⟩ | ⟨b3_2, g3⟩
    · rcases if_or g3 with ⟨b3_8, g3⟩ | ⟨b3_8, g3⟩
      · obtain ⟨t3_2, h3_1, g3⟩ := bind_some g3
        exact WC.reg hn [(2, .val (.p (bo (true)))), (8, .val (.p (bo (true)))), (12, .resP (bo (t3_2)))] [4] [] ⟨[(4, .p (bo (t3_2)))], [], L0, []⟩ (And.intro (Bl b3_2) (And.intro (Bl b3_8) (And.intro ((riddleref01_in_ok h3_1)) (trivial)))) (by kernel_rfl) (hk t3_2 (Option.some.inj g3))
      · exact WC.reg hn [(2, .val (.p (bo (true)))), (8, .val (.p (bo (false))))] [4] [] ⟨[(4, .p (bo (false)))], [], L0, []⟩ (And.intro (Bl b3_2) (And.intro (Bl b3_8) (trivial))) (by kernel_rfl) (hk false (Option.some.inj g3))
    · exact WC.reg hn [(2, .val (.p (bo (false))))] [4] [] ⟨[(4, .p (bo (false)))], [], L0, []⟩ (And.intro (Bl b3_2) (trivial)) (by kernel_rfl) (hk false (Option.some.inj g3))
  refine WX.ret ?_
  exact WC.outP (by rw [← Option.some.inj h]; kernel_rfl)
def riddleref10_moved_l0 (a0 : api_Bits) (a1 : Int) (J4 : (Int × List Int) → Option (api_Bits)) : Nat → (Int × Int × List Int) → Option (api_Bits)
  | 0, _ => none
  | k + 1, (x21_1_1, x21_1_2, x21_1_3) => (if (decide (x21_1_1 < a0.N)) = true then (riddleref01_Has k a0 x21_1_1).bind fun t38_2 => (if t38_2 = true then (riddleref01_With k ((api_Bits.mk x21_1_2 x21_1_3)) ((IntKind.i64.wrap (x21_1_1 + a1)))).bind fun t40_2 => riddleref10_moved_l0 a0 a1 J4 k ((IntKind.i64.wrap (x21_1_1 + 1)), t40_2.N, t40_2.Words) else riddleref10_moved_l0 a0 a1 J4 k ((IntKind.i64.wrap (x21_1_1 + 1)), x21_1_2, x21_1_3)) else J4 (x21_1_2, x21_1_3))
def riddleref10_moved (k : Nat) (a0 : api_Bits) (a1 : Int) (a2 : Int) : Option (api_Bits) :=
  (riddleref10_none k a2).bind fun t2_2 => jn (fun (v4 : Int × List Int) => some ((api_Bits.mk v4.1 v4.2))) fun J4 => riddleref10_moved_l0 a0 a1 J4 k (0, t2_2.N, t2_2.Words)
theorem riddleref10_moved_ok {k : Nat} {a0 : api_Bits} {a1 : Int} {a2 : Int} {r : api_Bits} (h : riddleref10_moved k a0 a1 a2 = some r) : AnsO Tryd.prog 75 [] [.p (pP5 a0), .p (i6 (a1)), .p (i6 (a2))] [(10, rW 73 r.Words)] (.agg [.p (i6 (r.N)), .own 10]) := by
  refine W_fnO [10] Tryd.func75 rfl (by kernel_rfl) (by kernel_rfl) (by kernel_rfl) (by kernel_rfl) ?_
  intro X hro hn
  unfold riddleref10_moved at h
  refine WC.rg hn [] [1, 2, 3, 6] [3, 6] ⟨[(1, .p (i6 (a1))), (2, .p (i6 (a2))), (3, .ptr 3 0), (6, .ptr 6 0)], [(3, .box 25 (vV5 a0)), (6, .box 25 [.p (i6 (0)), .p (.sl .nil 0 [])])], L0, []⟩ trivial ?_
  refine WX.seq ?_
  obtain ⟨t2_2, h2_1, h⟩ := bind_some h
  refine WC.r1 hn [(1, .co [] [] [] [(10, rW 73 t2_2.Words)] (.agg [.p (i6 (t2_2.N)), .own 10]))] [1, 3, 6, 7] [3, 6, 7, 10] ⟨[(1, .p (i6 (a1))), (3, .ptr 3 0), (6, .ptr 6 0), (7, .ptr 7 0)], [(3, .box 25 (vV5 a0)), (6, .box 25 [.p (i6 (0)), .p (.sl .nil 0 [])]), (7, .box 25 [.p (i6 (t2_2.N)), .own 10]), (10, rW 73 t2_2.Words)], L0, []⟩ (And.intro (And.intro ((riddleref10_none_ok h2_1).ren 7 10 (by kernel_rfl)) (trivial)) (trivial)) ?_
  refine WX.seq ?_
  refine WC.rg hn [] [1, 3, 6, 7, 8] [3, 6, 7, 10] ⟨[(1, .p (i6 (a1))), (3, .ptr 3 0), (6, .ptr 6 0), (7, .ptr 7 0), (8, .p (i6 (0)))], [(3, .box 25 (vV5 a0)), (6, .box 25 [.p (i6 (0)), .p (.sl .nil 0 [])]), (7, .box 25 [.p (i6 (t2_2.N)), .own 10]), (10, rW 73 t2_2.Words)], L0, []⟩ trivial ?_
  obtain ⟨J4, eJ4, h⟩ := jn_some h
  try dsimp only at h
  refine WC.join (α := Int × List Int) (fun v4 => ⟨[(6, .ptr 6 0), (7, .ptr 7 0)], [(6, .box 25 [.p (i6 (0)), .p (.sl .nil 0 [])]), (7, .box 25 [.p (i6 (v4.1)), .own 10]), (10, rW 73 v4.2)], L0, []⟩) (fun v4 => J4 v4 = some r) ?_ (fun hJ4 => ?_)
  · rintro ⟨y4_1, y4_2⟩ h
    rw [eJ4] at h
    try dsimp only at h
    refine WC.rg hn [] [6] [6, 10] ⟨[(6, .ptr 6 0)], [(6, .box 25 [.p (i6 (y4_1)), .own 10]), (10, rW 73 y4_2)], L0, []⟩ trivial ?_
    refine WX.ret ?_
    exact WC.outO (by rw [← Option.some.inj h]; kernel_rfl)
  · replace hJ4 := fun y4_1 y4_2 => hJ4 (y4_1, y4_2)
    refine WX.block ?_
    refine WC.loop (V := Int × Int × List Int) (riddleref10_moved_l0 a0 a1 J4) r (fun v21 => ⟨[(1, .p (i6 (a1))), (3, .ptr 3 0), (6, .ptr 6 0), (7, .ptr 7 0), (8, .p (i6 (v21.1)))], [(3, .box 25 (vV5 a0)), (6, .box 25 [.p (i6 (0)), .p (.sl .nil 0 [])]), (7, .box 25 [.p (i6 (v21.2.1)), .own 10]), (10, rW 73 v21.2.2)], L0, []⟩) _ (0, t2_2.N, t2_2.Words) h (fun _ => rfl) [1, 3, 6, 7, 8] [3, 6, 7, 10] (by kernel_rfl) ?_
    clear h; rintro k ⟨x21_1_1, x21_1_2, x21_1_3⟩ h K21 hnext21 hexit21
    rw [riddleref10_moved_l0] at h
    refine WX.seq ?_
    refine WC.rg hn [] [1, 3, 6, 7, 8, 14] [3, 6, 7, 10] ⟨[(1, .p (i6 (a1))), (3, .ptr 3 0), (6, .ptr 6 0), (7, .ptr 7 0), (8, .p (i6 (x21_1_1))), (14, .p (bo (((decide (x21_1_1 < a0.N))))))], [(3, .box 25 (vV5 a0)), (6, .box 25 [.p (i6 (0)), .p (.sl .nil 0 [])]), (7, .box 25 [.p (i6 (x21_1_2)), .own 10]), (10, rW 73 x21_1_3)], L0, []⟩ trivial ?_
    rcases if_or h with ⟨c37, h⟩ | ⟨c37, h⟩
    · refine WC.condT c37 (by kernel_rfl) ?_
      refine WX.skip ?_
      refine WX.seq ?_
      refine WX.block ?_
      refine WX.seq ?_
      obtain ⟨t38_2, h38_1, h⟩ := bind_some h
      refine WC.r1 hn [(2, .resP (bo (t38_2)))] [1, 3, 6, 7, 8, 19] [3, 6, 7, 10] ⟨[(1, .p (i6 (a1))), (3, .ptr 3 0), (6, .ptr 6 0), (7, .ptr 7 0), (8, .p (i6 (x21_1_1))), (19, .p (bo (t38_2)))], [(3, .box 25 (vV5 a0)), (6, .box 25 [.p (i6 (0)), .p (.sl .nil 0 [])]), (7, .box 25 [.p (i6 (x21_1_2)), .own 10]), (10, rW 73 x21_1_3)], L0, []⟩ (And.intro ((riddleref01_Has_ok h38_1)) (trivial)) ?_
      rcases if_or h with ⟨c39, h⟩ | ⟨c39, h⟩
      · refine WC.condT c39 (by kernel_rfl) ?_
        obtain ⟨t40_2, h40_1, h⟩ := bind_some h
        refine WC.r1 hn [(4, .co [] [] [10] [(24, rW 73 t40_2.Words)] (.agg [.p (i6 (t40_2.N)), .own 24]))] [1, 3, 6, 7, 8] [3, 6, 7, 24] ⟨[(1, .p (i6 (a1))), (3, .ptr 3 0), (6, .ptr 6 0), (7, .ptr 7 0), (8, .p (i6 (x21_1_1)))], [(3, .box 25 (vV5 a0)), (6, .box 25 [.p (i6 (0)), .p (.sl .nil 0 [])]), (7, .box 25 [.p (i6 (t40_2.N)), .own 24]), (24, rW 73 t40_2.Words)], L0, []⟩ (And.intro (And.intro ((riddleref01_With_ok h40_1).ren 7 24 (by kernel_rfl)) (And.intro (rfl : (.agg [.p (i6 (t40_2.N)), .own 24] : AV).flat = true) (And.intro (flats_encL (eI .u64) (fun _ => rfl) t40_2.Words) (trivial)))) (trivial)) ?_
        refine WX.popBlk ?_
        refine WC.r1 hn [] [1, 3, 6, 7, 8] [3, 6, 7, 24] ⟨[(1, .p (i6 (a1))), (3, .ptr 3 0), (6, .ptr 6 0), (7, .ptr 7 0), (8, .p (i6 (((IntKind.i64.wrap (x21_1_1 + 1))))))], [(3, .box 25 (vV5 a0)), (6, .box 25 [.p (i6 (0)), .p (.sl .nil 0 [])]), (7, .box 25 [.p (i6 (t40_2.N)), .own 24]), (24, rW 73 t40_2.Words)], L0, []⟩ trivial ?_
        refine WC.ren hn 24 10 (by kernel_rfl) [1, 3, 6, 7, 8] [3, 6, 7, 10] (st' := ⟨[(1, .p (i6 (a1))), (3, .ptr 3 0), (6, .ptr 6 0), (7, .ptr 7 0), (8, .p (i6 (((IntKind.i64.wrap (x21_1_1 + 1))))))], [(3, .box 25 (vV5 a0)), (6, .box 25 [.p (i6 (0)), .p (.sl .nil 0 [])]), (7, .box 25 [.p (i6 (t40_2.N)), .own 10]), (10, rW 73 t40_2.Words)], L0, []⟩) (by kernel_rfl) ?_
        exact WC.next [1, 3, 6, 7, 8] [3, 6, 7, 10] (by kernel_rfl) (hnext21 ((IntKind.i64.wrap (x21_1_1 + 1)), t40_2.N, t40_2.Words) h)
      · refine WC.condF c39 (by kernel_rfl) ?_
        refine WX.skip ?_
        refine WX.popBlk ?_
        refine WC.r1 hn [] [1, 3, 6, 7, 8] [3, 6, 7, 10] ⟨[(1, .p (i6 (a1))), (3, .ptr 3 0), (6, .ptr 6 0), (7, .ptr 7 0), (8, .p (i6 (((IntKind.i64.wrap (x21_1_1 + 1))))))], [(3, .box 25 (vV5 a0)), (6, .box 25 [.p (i6 (0)), .p (.sl .nil 0 [])]), (7, .box 25 [.p (i6 (x21_1_2)), .own 10]), (10, rW 73 x21_1_3)], L0, []⟩ trivial ?_
        exact WC.next [1, 3, 6, 7, 8] [3, 6, 7, 10] (by kernel_rfl) (hnext21 ((IntKind.i64.wrap (x21_1_1 + 1)), x21_1_2, x21_1_3) h)
    · refine WC.condF c37 (by kernel_rfl) ?_
      refine WX.exit ?_
      refine WX.popCodeExit ?_
      refine WC.exit_nil (hexit21 _ _ (by simp) ?_)
      refine WX.popBlkHit ?_
      exact WC.keep [6, 7] [6, 7, 10] (by kernel_rfl) (hJ4 x21_1_2 x21_1_3 h)
theorem riddleref10_moved_okP {k : Nat} {a0 : api_Bits} {a1 : Int} {a2 : Int} {r : api_Bits} (h : riddleref10_moved k a0 a1 a2 = some r) : Ans Tryd.prog 75 [pP5 a0, i6 (a1), i6 (a2)] (pP5 r) := AnsO.ans (args := [pP5 a0, i6 (a1), i6 (a2)]) (riddleref10_moved_ok h) (by kernel_rfl)
def riddleref10_side_l0 (a0 : api_Nfa) (a1 : api_Nfa) (J23 : List api_Bits → Option (api_Nfa × Int)) : Nat → (Int × List api_Bits) → Option (api_Nfa × Int)
  | 0, _ => none
  | k + 1, (x34_1_1, x34_1_2) => (if (decide (x34_1_1 < (a1.Follow.length : Int))) = true then (at_ a1.Follow x34_1_1).bind fun t45_2 => (riddleref10_moved k t45_2 ((a0.Classes.length : Int)) ((IntKind.i64.wrap ((a0.Classes.length : Int) + (a1.Classes.length : Int))))).bind fun t45_4 => (if okApp 32 (x34_1_2.length + ([t45_4]).length) then riddleref10_side_l0 a0 a1 J23 k ((IntKind.i64.wrap (x34_1_1 + 1)), x34_1_2 ++ ([t45_4])) else none) else J23 x34_1_2)
def riddleref10_side_l1 (a0 : api_Nfa) (a1 : api_Nfa) (J12 : List api_Bits → Option (api_Nfa × Int)) : Nat → (Int × List api_Bits) → Option (api_Nfa × Int)
  | 0, _ => none
  | k + 1, (x47_1_1, x47_1_2) => (if (decide (x47_1_1 < (a0.Follow.length : Int))) = true then (at_ a0.Follow x47_1_1).bind fun t58_2 => (riddleref10_moved k t58_2 0 ((IntKind.i64.wrap ((a0.Classes.length : Int) + (a1.Classes.length : Int))))).bind fun t58_4 => (if okApp 32 (x47_1_2.length + ([t58_4]).length) then riddleref10_side_l1 a0 a1 J12 k ((IntKind.i64.wrap (x47_1_1 + 1)), x47_1_2 ++ ([t58_4])) else none) else J12 x47_1_2)
def riddleref10_side (k : Nat) (a0 : api_Nfa) (a1 : api_Nfa) : Option (api_Nfa × Int) :=
  (riddleref10_Check k a0).bind fun t2_2 => ((if (t2_2 != 0) = true then some true else (riddleref10_Check k a1).bind fun t2_4 => some ((t2_4 != 0))) : Option (Bool)).bind fun v2 => (if v2 = true then some ((api_Nfa.mk (([] : List (Arr4 Int))) ((api_Bits.mk 0 ([]))) ((api_Bits.mk 0 ([]))) (([] : List api_Bits)) false), 100) else (if (decide ((IntKind.i64.wrap ((a0.Classes.length : Int) + (a1.Classes.length : Int))) > 512)) = true then some ((api_Nfa.mk (([] : List (Arr4 Int))) ((api_Bits.mk 0 ([]))) ((api_Bits.mk 0 ([]))) (([] : List api_Bits)) false), 90) else (if okApp 32 (([] : List (Arr4 Int)).length + a0.Classes.length) then (if okApp 32 ((([] : List (Arr4 Int)) ++ a0.Classes).length + a1.Classes.length) then jn (fun (v12 : List api_Bits) => jn (fun (v23 : List api_Bits) => some ((api_Nfa.mk ((([] : List (Arr4 Int)) ++ a0.Classes) ++ a1.Classes) ((api_Bits.mk 0 ([]))) ((api_Bits.mk 0 ([]))) v23 false), 0)) fun J23 => riddleref10_side_l0 a0 a1 J23 k (0, v12)) fun J12 => riddleref10_side_l1 a0 a1 J12 k (0, ([] : List api_Bits)) else none) else none)))
theorem riddleref10_side_ok {k : Nat} {a0 : api_Nfa} {a1 : api_Nfa} {r : api_Nfa × Int} (h : riddleref10_side k a0 a1 = some r) : AnsO Tryd.prog 74 [] [.p (pP2 a0), .p (pP2 a1)] [(36, rowV 75 (e4 (eI .u64)) r.1.Classes), (55, rowV 25 e_api_Bits r.1.Follow)] (.tup [.agg [.own 36, .p (i6 (r.1.First.N)), .p (sW r.1.First.Words), .p (i6 (r.1.Last.N)), .p (sW r.1.Last.Words), .own 55, .p (bo (r.1.Null))], .p (i6 (r.2))]) := by
  refine W_fnO [36, 55] Tryd.func74 rfl (by kernel_rfl) (by kernel_rfl) (by kernel_rfl) (by kernel_rfl) ?_
  intro X hro hn
  unfold riddleref10_side at h
  refine WC.rg hn [] [2, 3, 4] [2, 3, 4] ⟨[(2, .ptr 2 0), (3, .ptr 3 0), (4, .ptr 4 0)], [(2, .box 28 (vV2 a0)), (3, .box 28 (vV2 a1)), (4, .box 28 [.p (.sl .nil 0 []), .p (i6 (0)), .p (.sl .nil 0 []), .p (i6 (0)), .p (.sl .nil 0 []), .p (.sl .nil 0 []), .p (bo (false))])], L0, []⟩ trivial ?_
  refine WX.seq ?_
  refine WX.seq ?_
  obtain ⟨t2_2, h2_1, h⟩ := bind_some h
  obtain ⟨m2_1, g2, h⟩ := bind_some h
  refine WC.via (α := Bool) (fun v2 => ⟨[(2, .ptr 2 0), (3, .ptr 3 0), (4, .ptr 4 0), (18, .p (bo (v2)))], [(2, .box 28 (vV2 a0)), (3, .box 28 (vV2 a1)), (4, .box 28 [.p (.sl .nil 0 []), .p (i6 (0)), .p (.sl .nil 0 []), .p (i6 (0)), .p (.sl .nil 0 []), .p (.sl .nil 0 []), .p (bo (false))])], L0, []⟩) m2_1 (fun hk => ?_) ?_
  · rcases if_or g2 with ⟨b2_3, g2⟩ | ⟨b2_3, g2⟩
    · exact WC.reg hn [(1, .resP (i6 (t2_2))), (3, .val (.p (bo (true))))] [2, 3, 4, 18] [2, 3, 4] ⟨[(2, .ptr 2 0), (3, .ptr 3 0), (4, .ptr 4 0), (18, .p (bo (true)))], [(2, .box 28 (vV2 a0)), (3, .box 28 (vV2 a1)), (4, .box 28 [.p (.sl .nil 0 []), .p (i6 (0)), .p (.sl .nil 0 []), .p (i6 (0)), .p (.sl .nil 0 []), .p (.sl .nil 0 []), .p (bo (false))])], L0, []⟩ (And.intro ((riddleref10_Check_ok h2_1)) (And.intro (Bl b2_3) (trivial))) (by kernel_rfl) (hk true (Option.some.inj g2))
    · obtain ⟨t2_4, h2_3, g2⟩ := bind_some g2
      exact WC.reg hn [(1, .resP (i6 (t2_2))), (3, .val (.p (bo (false)))), (5, .resP (i6 (t2_4)))] [2, 3, 4, 18] [2, 3, 4] ⟨[(2, .ptr 2 0), (3, .ptr 3 0), (4, .ptr 4 0), (18, .p (bo (((t2_4 != 0)))))], [(2, .box 28 (vV2 a0)), (3, .box 28 (vV2 a1)), (4, .box 28 [.p (.sl .nil 0 []), .p (i6 (0)), .p (.sl .nil 0 []), .p (i6 (0)), .p (.sl .nil 0 []), .p (.sl .nil 0 []), .p (bo (false))])], L0, []⟩ (And.intro ((riddleref10_Check_ok h2_1)) (And.intro (Bl b2_3) (And.intro ((riddleref10_Check_ok h2_3)) (trivial)))) (by kernel_rfl) (hk ((t2_4 != 0)) (Option.some.inj g2))
  rcases if_or h with ⟨c3, h⟩ | ⟨c3, h⟩
  · refine WC.condT c3 (by kernel_rfl) ?_
    refine WC.rg hn [] [4, 5] [4] ⟨[(4, .ptr 4 0), (5, .p (i6 (100)))], [(4, .box 28 [.p (.sl .nil 0 []), .p (i6 (0)), .p (.sl .nil 0 []), .p (i6 (0)), .p (.sl .nil 0 []), .p (.sl .nil 0 []), .p (bo (false))])], L0, []⟩ trivial ?_
    refine WX.ret ?_
    refine WC.nil hn [] (some (4, 0)) 36 75 4 (by kernel_rfl) [4, 5] [4, 36] (st' := ⟨[(4, .ptr 4 0), (5, .p (i6 (100)))], [(4, .box 28 [.own 36, .p (i6 (0)), .p (.sl .nil 0 []), .p (i6 (0)), .p (.sl .nil 0 []), .p (.sl .nil 0 []), .p (bo (false))]), (36, rowV 75 (e4 (eI .u64)) (([] : List (Arr4 Int))))], L0, []⟩) (by kernel_rfl) ?_
    refine WC.nil hn [] (some (4, 5)) 55 25 2 (by kernel_rfl) [4, 5] [4, 36, 55] (st' := ⟨[(4, .ptr 4 0), (5, .p (i6 (100)))], [(4, .box 28 [.own 36, .p (i6 (0)), .p (.sl .nil 0 []), .p (i6 (0)), .p (.sl .nil 0 []), .own 55, .p (bo (false))]), (36, rowV 75 (e4 (eI .u64)) (([] : List (Arr4 Int)))), (55, rowV 25 e_api_Bits (([] : List api_Bits)))], L0, []⟩) (by kernel_rfl) ?_
    exact WC.outO (by rw [← Option.some.inj h]; kernel_rfl)
  · refine WC.condF c3 (by kernel_rfl) ?_
    refine WX.skip ?_
    refine WC.rg hn [] [2, 3, 4, 6] [2, 3, 4] ⟨[(2, .ptr 2 0), (3, .ptr 3 0), (4, .ptr 4 0), (6, .p (i6 (((a0.Classes.length : Int)))))], [(2, .box 28 (vV2 a0)), (3, .box 28 (vV2 a1)), (4, .box 28 [.p (.sl .nil 0 []), .p (i6 (0)), .p (.sl .nil 0 []), .p (i6 (0)), .p (.sl .nil 0 []), .p (.sl .nil 0 []), .p (bo (false))])], L0, []⟩ trivial ?_
    refine WC.rg hn [] [2, 3, 4, 6, 7] [2, 3, 4] ⟨[(2, .ptr 2 0), (3, .ptr 3 0), (4, .ptr 4 0), (6, .p (i6 (((a0.Classes.length : Int))))), (7, .p (i6 (((IntKind.i64.wrap ((a0.Classes.length : Int) + (a1.Classes.length : Int)))))))], [(2, .box 28 (vV2 a0)), (3, .box 28 (vV2 a1)), (4, .box 28 [.p (.sl .nil 0 []), .p (i6 (0)), .p (.sl .nil 0 []), .p (i6 (0)), .p (.sl .nil 0 []), .p (.sl .nil 0 []), .p (bo (false))])], L0, []⟩ trivial ?_
    refine WX.seq ?_
    refine WC.rg hn [] [2, 3, 4, 6, 7, 29] [2, 3, 4] ⟨[(2, .ptr 2 0), (3, .ptr 3 0), (4, .ptr 4 0), (6, .p (i6 (((a0.Classes.length : Int))))), (7, .p (i6 (((IntKind.i64.wrap ((a0.Classes.length : Int) + (a1.Classes.length : Int))))))), (29, .p (bo (((decide ((IntKind.i64.wrap ((a0.Classes.length : Int) + (a1.Classes.length : Int))) > 512))))))], [(2, .box 28 (vV2 a0)), (3, .box 28 (vV2 a1)), (4, .box 28 [.p (.sl .nil 0 []), .p (i6 (0)), .p (.sl .nil 0 []), .p (i6 (0)), .p (.sl .nil 0 []), .p (.sl .nil 0 []), .p (bo (false))])], L0, []⟩ trivial ?_
    rcases if_or h with ⟨c8, h⟩ | ⟨c8, h⟩
    · refine WC.condT c8 (by kernel_rfl) ?_
      refine WC.rg hn [] [4, 5] [4] ⟨[(4, .ptr 4 0), (5, .p (i6 (90)))], [(4, .box 28 [.p (.sl .nil 0 []), .p (i6 (0)), .p (.sl .nil 0 []), .p (i6 (0)), .p (.sl .nil 0 []), .p (.sl .nil 0 []), .p (bo (false))])], L0, []⟩ trivial ?_
      refine WX.ret ?_
      refine WC.nil hn [] (some (4, 0)) 36 75 4 (by kernel_rfl) [4, 5] [4, 36] (st' := ⟨[(4, .ptr 4 0), (5, .p (i6 (90)))], [(4, .box 28 [.own 36, .p (i6 (0)), .p (.sl .nil 0 []), .p (i6 (0)), .p (.sl .nil 0 []), .p (.sl .nil 0 []), .p (bo (false))]), (36, rowV 75 (e4 (eI .u64)) (([] : List (Arr4 Int))))], L0, []⟩) (by kernel_rfl) ?_
      refine WC.nil hn [] (some (4, 5)) 55 25 2 (by kernel_rfl) [4, 5] [4, 36, 55] (st' := ⟨[(4, .ptr 4 0), (5, .p (i6 (90)))], [(4, .box 28 [.own 36, .p (i6 (0)), .p (.sl .nil 0 []), .p (i6 (0)), .p (.sl .nil 0 []), .own 55, .p (bo (false))]), (36, rowV 75 (e4 (eI .u64)) (([] : List (Arr4 Int)))), (55, rowV 25 e_api_Bits (([] : List api_Bits)))], L0, []⟩) (by kernel_rfl) ?_
      exact WC.outO (by rw [← Option.some.inj h]; kernel_rfl)
    · refine WC.condF c8 (by kernel_rfl) ?_
      refine WX.skip ?_
      refine WX.seq ?_
      obtain ⟨c10_1, h⟩ := if_some h
      obtain ⟨c10_2, h⟩ := if_some h
      have q10_2 := ApS (e4 (eI .u64)) none 75 32 ([] : List (Arr4 Int)) a0.Classes c10_1
      have q10_5 := ApS (e4 (eI .u64)) (some 33) 75 32 (([] : List (Arr4 Int)) ++ a0.Classes) a1.Classes c10_2
      refine WC.exp hn (by kernel_rfl) [(2, .app none (rowV 75 (e4 (eI .u64)) (([] : List (Arr4 Int)) ++ a0.Classes))), (5, .app (some 33) (rowV 75 (e4 (eI .u64)) ((([] : List (Arr4 Int)) ++ a0.Classes) ++ a1.Classes)))] [2, 3, 4, 6, 7, 8] [2, 3, 4, 8, 36] ⟨[(2, .ptr 2 0), (3, .ptr 3 0), (4, .ptr 4 0), (6, .p (i6 (((a0.Classes.length : Int))))), (7, .p (i6 (((IntKind.i64.wrap ((a0.Classes.length : Int) + (a1.Classes.length : Int))))))), (8, .ptr 8 0)], [(2, .box 28 (vV2 a0)), (3, .box 28 (vV2 a1)), (4, .box 28 [.p (.sl .nil 0 []), .p (i6 (0)), .p (.sl .nil 0 []), .p (i6 (0)), .p (.sl .nil 0 []), .p (.sl .nil 0 []), .p (bo (false))]), (8, .box 28 [.own 36, .p (i6 (0)), .p (.sl .nil 0 []), .p (i6 (0)), .p (.sl .nil 0 []), .p (.sl .nil 0 []), .p (bo (false))]), (36, rowV 75 (e4 (eI .u64)) ((([] : List (Arr4 Int)) ++ a0.Classes) ++ a1.Classes))], L0, []⟩ [0, 1, 3, 7, 8, 9, 11, 15, 24, 25, 27, 31, 63, 127, 128, 129, 131, 135, 136, 137, 139, 143, 152, 153, 155, 159, 191, 255, 511] 511 (by kernel_rfl) (by kernel_rfl) (by kernel_rfl) (And.intro q10_2 (And.intro q10_2 (And.intro q10_2 (And.intro q10_5 (And.intro q10_2 (And.intro q10_2 (And.intro q10_2 (And.intro q10_5 (trivial))))))))) (by kernel_rfl) (by kernel_rfl) ?_
      refine WX.seq ?_
      refine WC.rg hn [] [2, 3, 4, 6, 7, 8, 9] [2, 3, 4, 8, 36] ⟨[(2, .ptr 2 0), (3, .ptr 3 0), (4, .ptr 4 0), (6, .p (i6 (((a0.Classes.length : Int))))), (7, .p (i6 (((IntKind.i64.wrap ((a0.Classes.length : Int) + (a1.Classes.length : Int))))))), (8, .ptr 8 0), (9, .p (i6 (0)))], [(2, .box 28 (vV2 a0)), (3, .box 28 (vV2 a1)), (4, .box 28 [.p (.sl .nil 0 []), .p (i6 (0)), .p (.sl .nil 0 []), .p (i6 (0)), .p (.sl .nil 0 []), .p (.sl .nil 0 []), .p (bo (false))]), (8, .box 28 [.own 36, .p (i6 (0)), .p (.sl .nil 0 []), .p (i6 (0)), .p (.sl .nil 0 []), .p (.sl .nil 0 []), .p (bo (false))]), (36, rowV 75 (e4 (eI .u64)) ((([] : List (Arr4 Int)) ++ a0.Classes) ++ a1.Classes))], L0, []⟩ trivial ?_
      obtain ⟨J12, eJ12, h⟩ := jn_some h
      try dsimp only at h
      refine WC.join (α := List api_Bits) (fun v12 => ⟨[(3, .ptr 3 0), (4, .ptr 4 0), (6, .p (i6 (((a0.Classes.length : Int))))), (7, .p (i6 (((IntKind.i64.wrap ((a0.Classes.length : Int) + (a1.Classes.length : Int))))))), (8, .ptr 8 0)], [(3, .box 28 (vV2 a1)), (4, .box 28 [.p (.sl .nil 0 []), .p (i6 (0)), .p (.sl .nil 0 []), .p (i6 (0)), .p (.sl .nil 0 []), .p (.sl .nil 0 []), .p (bo (false))]), (8, .box 28 [.own 36, .p (i6 (0)), .p (.sl .nil 0 []), .p (i6 (0)), .p (.sl .nil 0 []), .own 55, .p (bo (false))]), (36, rowV 75 (e4 (eI .u64)) ((([] : List (Arr4 Int)) ++ a0.Classes) ++ a1.Classes)), (55, rowV 25 e_api_Bits v12)], L0, []⟩) (fun v12 => J12 v12 = some r) ?_ (fun hJ12 => ?_)
      · rintro y12_1 h
        rw [eJ12] at h
        try dsimp only at h
        refine WX.seq ?_
        refine WC.rg hn [] [3, 4, 6, 7, 8, 10] [3, 4, 8, 36, 55] ⟨[(3, .ptr 3 0), (4, .ptr 4 0), (6, .p (i6 (((a0.Classes.length : Int))))), (7, .p (i6 (((IntKind.i64.wrap ((a0.Classes.length : Int) + (a1.Classes.length : Int))))))), (8, .ptr 8 0), (10, .p (i6 (0)))], [(3, .box 28 (vV2 a1)), (4, .box 28 [.p (.sl .nil 0 []), .p (i6 (0)), .p (.sl .nil 0 []), .p (i6 (0)), .p (.sl .nil 0 []), .p (.sl .nil 0 []), .p (bo (false))]), (8, .box 28 [.own 36, .p (i6 (0)), .p (.sl .nil 0 []), .p (i6 (0)), .p (.sl .nil 0 []), .own 55, .p (bo (false))]), (36, rowV 75 (e4 (eI .u64)) ((([] : List (Arr4 Int)) ++ a0.Classes) ++ a1.Classes)), (55, rowV 25 e_api_Bits y12_1)], L0, []⟩ trivial ?_
        obtain ⟨J23, eJ23, h⟩ := jn_some h
        try dsimp only at h
        refine WC.join (α := List api_Bits) (fun v23 => ⟨[(4, .ptr 4 0), (8, .ptr 8 0)], [(4, .box 28 [.p (.sl .nil 0 []), .p (i6 (0)), .p (.sl .nil 0 []), .p (i6 (0)), .p (.sl .nil 0 []), .p (.sl .nil 0 []), .p (bo (false))]), (8, .box 28 [.own 36, .p (i6 (0)), .p (.sl .nil 0 []), .p (i6 (0)), .p (.sl .nil 0 []), .own 55, .p (bo (false))]), (36, rowV 75 (e4 (eI .u64)) ((([] : List (Arr4 Int)) ++ a0.Classes) ++ a1.Classes)), (55, rowV 25 e_api_Bits v23)], L0, []⟩) (fun v23 => J23 v23 = some r) ?_ (fun hJ23 => ?_)
        · rintro y23_1 h
          rw [eJ23] at h
          try dsimp only at h
          refine WC.rg hn [] [4, 5] [4, 36, 55] ⟨[(4, .ptr 4 0), (5, .p (i6 (0)))], [(4, .box 28 [.own 36, .p (i6 (0)), .p (.sl .nil 0 []), .p (i6 (0)), .p (.sl .nil 0 []), .own 55, .p (bo (false))]), (36, rowV 75 (e4 (eI .u64)) ((([] : List (Arr4 Int)) ++ a0.Classes) ++ a1.Classes)), (55, rowV 25 e_api_Bits y23_1)], L0, []⟩ trivial ?_
          refine WX.ret ?_
          exact WC.outO (by rw [← Option.some.inj h]; kernel_rfl)
        · replace hJ23 := fun y23_1 => hJ23 y23_1
          refine WX.block ?_
          refine WC.loop (V := Int × List api_Bits) (riddleref10_side_l0 a0 a1 J23) r (fun v34 => ⟨[(3, .ptr 3 0), (4, .ptr 4 0), (6, .p (i6 (((a0.Classes.length : Int))))), (7, .p (i6 (((IntKind.i64.wrap ((a0.Classes.length : Int) + (a1.Classes.length : Int))))))), (8, .ptr 8 0), (10, .p (i6 (v34.1)))], [(3, .box 28 (vV2 a1)), (4, .box 28 [.p (.sl .nil 0 []), .p (i6 (0)), .p (.sl .nil 0 []), .p (i6 (0)), .p (.sl .nil 0 []), .p (.sl .nil 0 []), .p (bo (false))]), (8, .box 28 [.own 36, .p (i6 (0)), .p (.sl .nil 0 []), .p (i6 (0)), .p (.sl .nil 0 []), .own 55, .p (bo (false))]), (36, rowV 75 (e4 (eI .u64)) ((([] : List (Arr4 Int)) ++ a0.Classes) ++ a1.Classes)), (55, rowV 25 e_api_Bits v34.2)], L0, []⟩) _ (0, y12_1) h (fun _ => rfl) [3, 4, 6, 7, 8, 10] [3, 4, 8, 36, 55] (by kernel_rfl) ?_
          clear h; rintro k ⟨x34_1_1, x34_1_2⟩ h K34 hnext34 hexit34
          rw [riddleref10_side_l0] at h
          refine WX.seq ?_
          refine WC.rg hn [] [3, 4, 6, 7, 8, 10, 61] [3, 4, 8, 36, 55] ⟨[(3, .ptr 3 0), (4, .ptr 4 0), (6, .p (i6 (((a0.Classes.length : Int))))), (7, .p (i6 (((IntKind.i64.wrap ((a0.Classes.length : Int) + (a1.Classes.length : Int))))))), (8, .ptr 8 0), (10, .p (i6 (x34_1_1))), (61, .p (bo (((decide (x34_1_1 < (a1.Follow.length : Int)))))))], [(3, .box 28 (vV2 a1)), (4, .box 28 [.p (.sl .nil 0 []), .p (i6 (0)), .p (.sl .nil 0 []), .p (i6 (0)), .p (.sl .nil 0 []), .p (.sl .nil 0 []), .p (bo (false))]), (8, .box 28 [.own 36, .p (i6 (0)), .p (.sl .nil 0 []), .p (i6 (0)), .p (.sl .nil 0 []), .own 55, .p (bo (false))]), (36, rowV 75 (e4 (eI .u64)) ((([] : List (Arr4 Int)) ++ a0.Classes) ++ a1.Classes)), (55, rowV 25 e_api_Bits x34_1_2)], L0, []⟩ trivial ?_
          rcases if_or h with ⟨c44, h⟩ | ⟨c44, h⟩
          · refine WC.condT c44 (by kernel_rfl) ?_
            refine WX.skip ?_
            refine WX.seq ?_
            refine WX.block ?_
            obtain ⟨t45_2, h45_1, h⟩ := bind_some h
            obtain ⟨t45_4, h45_3, h⟩ := bind_some h
            obtain ⟨c45_5, h⟩ := if_some h
            have q45_5 := Ix e_api_Bits h45_1
            have q45_9 := (riddleref10_moved_okP h45_3)
            have q45_11 := Ap e_api_Bits (some 55) 25 32 2 x34_1_2 ([t45_4]) c45_5
            refine WC.exp hn (by kernel_rfl) [(5, .val (.p (.rop (e_api_Bits.cells t45_2 ++ encL e_api_Bits (a1.Follow.drop (x34_1_1.toNat + 1)))))), (9, .resP (pP5 t45_4)), (11, .app (some 55) (rowV 25 e_api_Bits (x34_1_2 ++ ([t45_4]))))] [3, 4, 6, 7, 8, 10] [3, 4, 8, 36, 75] ⟨[(3, .ptr 3 0), (4, .ptr 4 0), (6, .p (i6 (((a0.Classes.length : Int))))), (7, .p (i6 (((IntKind.i64.wrap ((a0.Classes.length : Int) + (a1.Classes.length : Int))))))), (8, .ptr 8 0), (10, .p (i6 (x34_1_1)))], [(3, .box 28 (vV2 a1)), (4, .box 28 [.p (.sl .nil 0 []), .p (i6 (0)), .p (.sl .nil 0 []), .p (i6 (0)), .p (.sl .nil 0 []), .p (.sl .nil 0 []), .p (bo (false))]), (8, .box 28 [.own 36, .p (i6 (0)), .p (.sl .nil 0 []), .p (i6 (0)), .p (.sl .nil 0 []), .own 75, .p (bo (false))]), (36, rowV 75 (e4 (eI .u64)) ((([] : List (Arr4 Int)) ++ a0.Classes) ++ a1.Classes)), (75, rowV 25 e_api_Bits (x34_1_2 ++ ([t45_4])))], L0, []⟩ [0, 1, 3, 4, 5, 7, 12, 13, 15, 16, 17, 19, 20, 21, 23, 28, 29, 31, 60, 61, 63, 124, 125, 127, 128, 129, 131, 132, 133, 135, 140, 141, 143, 144, 145, 147, 148, 149, 151, 156, 157, 159, 188, 189, 191, 252, 253, 255, 256, 257, 259, 260, 261, 263, 268, 269, 271, 272, 273, 275, 276, 277, 279, 284, 285, 287, 316, 317, 319, 380, 381, 383, 384, 385, 387, 388, 389, 391, 396, 397, 399, 400, 401, 403, 404, 405, 407, 412, 413, 415, 444, 445, 447, 508, 509, 511, 1020, 1021, 1023, 2044, 2045, 2047, 4095, 8191, 16383] 16383 (by kernel_rfl) (by kernel_rfl) (by kernel_rfl) (And.intro q45_5 (And.intro q45_5 (And.intro q45_5 (And.intro q45_5 (And.intro q45_5 (And.intro q45_5 (And.intro q45_5 (And.intro q45_5 (And.intro q45_5 (And.intro q45_5 (And.intro q45_5 (And.intro q45_5 (And.intro q45_9 (And.intro q45_9 (And.intro q45_9 (And.intro q45_11 (trivial))))))))))))))))) (by kernel_rfl) (by kernel_rfl) ?_
            refine WX.popBlk ?_
            refine WC.r1 hn [] [3, 4, 6, 7, 8, 10] [3, 4, 8, 36, 75] ⟨[(3, .ptr 3 0), (4, .ptr 4 0), (6, .p (i6 (((a0.Classes.length : Int))))), (7, .p (i6 (((IntKind.i64.wrap ((a0.Classes.length : Int) + (a1.Classes.length : Int))))))), (8, .ptr 8 0), (10, .p (i6 (((IntKind.i64.wrap (x34_1_1 + 1))))))], [(3, .box 28 (vV2 a1)), (4, .box 28 [.p (.sl .nil 0 []), .p (i6 (0)), .p (.sl .nil 0 []), .p (i6 (0)), .p (.sl .nil 0 []), .p (.sl .nil 0 []), .p (bo (false))]), (8, .box 28 [.own 36, .p (i6 (0)), .p (.sl .nil 0 []), .p (i6 (0)), .p (.sl .nil 0 []), .own 75, .p (bo (false))]), (36, rowV 75 (e4 (eI .u64)) ((([] : List (Arr4 Int)) ++ a0.Classes) ++ a1.Classes)), (75, rowV 25 e_api_Bits (x34_1_2 ++ ([t45_4])))], L0, []⟩ trivial ?_
            refine WC.ren hn 75 55 (by kernel_rfl) [3, 4, 6, 7, 8, 10] [3, 4, 8, 36, 55] (st' := ⟨[(3, .ptr 3 0), (4, .ptr 4 0), (6, .p (i6 (((a0.Classes.length : Int))))), (7, .p (i6 (((IntKind.i64.wrap ((a0.Classes.length : Int) + (a1.Classes.length : Int))))))), (8, .ptr 8 0), (10, .p (i6 (((IntKind.i64.wrap (x34_1_1 + 1))))))], [(3, .box 28 (vV2 a1)), (4, .box 28 [.p (.sl .nil 0 []), .p (i6 (0)), .p (.sl .nil 0 []), .p (i6 (0)), .p (.sl .nil 0 []), .p (.sl .nil 0 []), .p (bo (false))]), (8, .box 28 [.own 36, .p (i6 (0)), .p (.sl .nil 0 []), .p (i6 (0)), .p (.sl .nil 0 []), .own 55, .p (bo (false))]), (36, rowV 75 (e4 (eI .u64)) ((([] : List (Arr4 Int)) ++ a0.Classes) ++ a1.Classes)), (55, rowV 25 e_api_Bits (x34_1_2 ++ ([t45_4])))], L0, []⟩) (by kernel_rfl) ?_
            exact WC.next [3, 4, 6, 7, 8, 10] [3, 4, 8, 36, 55] (by kernel_rfl) (hnext34 ((IntKind.i64.wrap (x34_1_1 + 1)), x34_1_2 ++ ([t45_4])) h)
          · refine WC.condF c44 (by kernel_rfl) ?_
            refine WX.exit ?_
            refine WX.popCodeExit ?_
            refine WC.exit_nil (hexit34 _ _ (by simp) ?_)
            refine WX.popBlkHit ?_
            exact WC.keep [4, 8] [4, 8, 36, 55] (by kernel_rfl) (hJ23 x34_1_2 h)
      · replace hJ12 := fun y12_1 => hJ12 y12_1
        refine WX.block ?_
        refine WC.nil hn [] (some (8, 5)) 55 25 2 (by kernel_rfl) [2, 3, 4, 6, 7, 8, 9] [2, 3, 4, 8, 36, 55] (st' := ⟨[(2, .ptr 2 0), (3, .ptr 3 0), (4, .ptr 4 0), (6, .p (i6 (((a0.Classes.length : Int))))), (7, .p (i6 (((IntKind.i64.wrap ((a0.Classes.length : Int) + (a1.Classes.length : Int))))))), (8, .ptr 8 0), (9, .p (i6 (0)))], [(2, .box 28 (vV2 a0)), (3, .box 28 (vV2 a1)), (4, .box 28 [.p (.sl .nil 0 []), .p (i6 (0)), .p (.sl .nil 0 []), .p (i6 (0)), .p (.sl .nil 0 []), .p (.sl .nil 0 []), .p (bo (false))]), (8, .box 28 [.own 36, .p (i6 (0)), .p (.sl .nil 0 []), .p (i6 (0)), .p (.sl .nil 0 []), .own 55, .p (bo (false))]), (36, rowV 75 (e4 (eI .u64)) ((([] : List (Arr4 Int)) ++ a0.Classes) ++ a1.Classes)), (55, rowV 25 e_api_Bits (([] : List api_Bits)))], L0, []⟩) (by kernel_rfl) ?_
        refine WC.loop (V := Int × List api_Bits) (riddleref10_side_l1 a0 a1 J12) r (fun v47 => ⟨[(2, .ptr 2 0), (3, .ptr 3 0), (4, .ptr 4 0), (6, .p (i6 (((a0.Classes.length : Int))))), (7, .p (i6 (((IntKind.i64.wrap ((a0.Classes.length : Int) + (a1.Classes.length : Int))))))), (8, .ptr 8 0), (9, .p (i6 (v47.1)))], [(2, .box 28 (vV2 a0)), (3, .box 28 (vV2 a1)), (4, .box 28 [.p (.sl .nil 0 []), .p (i6 (0)), .p (.sl .nil 0 []), .p (i6 (0)), .p (.sl .nil 0 []), .p (.sl .nil 0 []), .p (bo (false))]), (8, .box 28 [.own 36, .p (i6 (0)), .p (.sl .nil 0 []), .p (i6 (0)), .p (.sl .nil 0 []), .own 55, .p (bo (false))]), (36, rowV 75 (e4 (eI .u64)) ((([] : List (Arr4 Int)) ++ a0.Classes) ++ a1.Classes)), (55, rowV 25 e_api_Bits v47.2)], L0, []⟩) _ (0, ([] : List api_Bits)) h (fun _ => rfl) [2, 3, 4, 6, 7, 8, 9] [2, 3, 4, 8, 36, 55] (by kernel_rfl) ?_
        clear h; rintro k ⟨x47_1_1, x47_1_2⟩ h K47 hnext47 hexit47
        rw [riddleref10_side_l1] at h
        refine WX.seq ?_
        refine WC.rg hn [] [2, 3, 4, 6, 7, 8, 9, 42] [2, 3, 4, 8, 36, 55] ⟨[(2, .ptr 2 0), (3, .ptr 3 0), (4, .ptr 4 0), (6, .p (i6 (((a0.Classes.length : Int))))), (7, .p (i6 (((IntKind.i64.wrap ((a0.Classes.length : Int) + (a1.Classes.length : Int))))))), (8, .ptr 8 0), (9, .p (i6 (x47_1_1))), (42, .p (bo (((decide (x47_1_1 < (a0.Follow.length : Int)))))))], [(2, .box 28 (vV2 a0)), (3, .box 28 (vV2 a1)), (4, .box 28 [.p (.sl .nil 0 []), .p (i6 (0)), .p (.sl .nil 0 []), .p (i6 (0)), .p (.sl .nil 0 []), .p (.sl .nil 0 []), .p (bo (false))]), (8, .box 28 [.own 36, .p (i6 (0)), .p (.sl .nil 0 []), .p (i6 (0)), .p (.sl .nil 0 []), .own 55, .p (bo (false))]), (36, rowV 75 (e4 (eI .u64)) ((([] : List (Arr4 Int)) ++ a0.Classes) ++ a1.Classes)), (55, rowV 25 e_api_Bits x47_1_2)], L0, []⟩ trivial ?_
        rcases if_or h with ⟨c57, h⟩ | ⟨c57, h⟩
        · refine WC.condT c57 (by kernel_rfl) ?_
          refine WX.skip ?_
          refine WX.seq ?_
          refine WX.block ?_
          obtain ⟨t58_2, h58_1, h⟩ := bind_some h
          obtain ⟨t58_4, h58_3, h⟩ := bind_some h
          obtain ⟨c58_5, h⟩ := if_some h
          have q58_5 := Ix e_api_Bits h58_1
          have q58_8 := (riddleref10_moved_okP h58_3)
          have q58_10 := Ap e_api_Bits (some 55) 25 32 2 x47_1_2 ([t58_4]) c58_5
          refine WC.exp hn (by kernel_rfl) [(5, .val (.p (.rop (e_api_Bits.cells t58_2 ++ encL e_api_Bits (a0.Follow.drop (x47_1_1.toNat + 1)))))), (8, .resP (pP5 t58_4)), (10, .app (some 55) (rowV 25 e_api_Bits (x47_1_2 ++ ([t58_4]))))] [2, 3, 4, 6, 7, 8, 9] [2, 3, 4, 8, 36, 55] ⟨[(2, .ptr 2 0), (3, .ptr 3 0), (4, .ptr 4 0), (6, .p (i6 (((a0.Classes.length : Int))))), (7, .p (i6 (((IntKind.i64.wrap ((a0.Classes.length : Int) + (a1.Classes.length : Int))))))), (8, .ptr 8 0), (9, .p (i6 (x47_1_1)))], [(2, .box 28 (vV2 a0)), (3, .box 28 (vV2 a1)), (4, .box 28 [.p (.sl .nil 0 []), .p (i6 (0)), .p (.sl .nil 0 []), .p (i6 (0)), .p (.sl .nil 0 []), .p (.sl .nil 0 []), .p (bo (false))]), (8, .box 28 [.own 36, .p (i6 (0)), .p (.sl .nil 0 []), .p (i6 (0)), .p (.sl .nil 0 []), .own 55, .p (bo (false))]), (36, rowV 75 (e4 (eI .u64)) ((([] : List (Arr4 Int)) ++ a0.Classes) ++ a1.Classes)), (55, rowV 25 e_api_Bits (x47_1_2 ++ ([t58_4])))], L0, []⟩ [0, 1, 3, 4, 5, 7, 12, 13, 15, 16, 17, 19, 20, 21, 23, 28, 29, 31, 60, 61, 63, 124, 125, 127, 128, 129, 131, 132, 133, 135, 140, 141, 143, 144, 145, 147, 148, 149, 151, 156, 157, 159, 188, 189, 191, 252, 253, 255, 508, 509, 511, 1020, 1021, 1023, 2047, 4095, 8191] 8191 (by kernel_rfl) (by kernel_rfl) (by kernel_rfl) (And.intro q58_5 (And.intro q58_5 (And.intro q58_5 (And.intro q58_5 (And.intro q58_5 (And.intro q58_5 (And.intro q58_8 (And.intro q58_8 (And.intro q58_8 (And.intro q58_10 (trivial))))))))))) (by kernel_rfl) (by kernel_rfl) ?_
          refine WX.popBlk ?_
          refine WC.r1 hn [] [2, 3, 4, 6, 7, 8, 9] [2, 3, 4, 8, 36, 55] ⟨[(2, .ptr 2 0), (3, .ptr 3 0), (4, .ptr 4 0), (6, .p (i6 (((a0.Classes.length : Int))))), (7, .p (i6 (((IntKind.i64.wrap ((a0.Classes.length : Int) + (a1.Classes.length : Int))))))), (8, .ptr 8 0), (9, .p (i6 (((IntKind.i64.wrap (x47_1_1 + 1))))))], [(2, .box 28 (vV2 a0)), (3, .box 28 (vV2 a1)), (4, .box 28 [.p (.sl .nil 0 []), .p (i6 (0)), .p (.sl .nil 0 []), .p (i6 (0)), .p (.sl .nil 0 []), .p (.sl .nil 0 []), .p (bo (false))]), (8, .box 28 [.own 36, .p (i6 (0)), .p (.sl .nil 0 []), .p (i6 (0)), .p (.sl .nil 0 []), .own 55, .p (bo (false))]), (36, rowV 75 (e4 (eI .u64)) ((([] : List (Arr4 Int)) ++ a0.Classes) ++ a1.Classes)), (55, rowV 25 e_api_Bits (x47_1_2 ++ ([t58_4])))], L0, []⟩ trivial ?_
          exact WC.next [2, 3, 4, 6, 7, 8, 9] [2, 3, 4, 8, 36, 55] (by kernel_rfl) (hnext47 ((IntKind.i64.wrap (x47_1_1 + 1)), x47_1_2 ++ ([t58_4])) h)
        · refine WC.condF c57 (by kernel_rfl) ?_
          refine WX.exit ?_
          refine WX.popCodeExit ?_
          refine WC.exit_nil (hexit47 _ _ (by simp) ?_)
          refine WX.popBlkHit ?_
          exact WC.keep [3, 4, 6, 7, 8] [3, 4, 8, 36, 55] (by kernel_rfl) (hJ12 x47_1_2 h)
theorem riddleref10_side_okP {k : Nat} {a0 : api_Nfa} {a1 : api_Nfa} {r : api_Nfa × Int} (h : riddleref10_side k a0 a1 = some r) : Ans Tryd.prog 74 [pP2 a0, pP2 a1] (.tup [pP2 r.1, i6 (r.2)]) := AnsO.ans (args := [pP2 a0, pP2 a1]) (riddleref10_side_ok h) (by kernel_rfl)
def riddleref01_Or_l0 (a1 : api_Bits) (t2_2 : api_Bits) (J4 : List Int → Option (api_Bits)) : Nat → (Int × List Int) → Option (api_Bits)
  | 0, _ => none
  | k + 1, (x21_1_1, x21_1_2) => (if (decide (x21_1_1 < t2_2.N)) = true then (riddleref01_Has k a1 x21_1_1).bind fun t38_2 => (if t38_2 = true then (riddleref01_put ((api_Bits.mk t2_2.N x21_1_2)) x21_1_1).bind fun t40_2 => riddleref01_Or_l0 a1 t2_2 J4 k ((IntKind.i64.wrap (x21_1_1 + 1)), t40_2) else riddleref01_Or_l0 a1 t2_2 J4 k ((IntKind.i64.wrap (x21_1_1 + 1)), x21_1_2)) else J4 x21_1_2)
def riddleref01_Or (k : Nat) (a0 : api_Bits) (a1 : api_Bits) : Option (api_Bits) :=
  (riddleref01_Copy k a0).bind fun t2_2 => jn (fun (v4 : List Int) => some ((api_Bits.mk t2_2.N v4))) fun J4 => riddleref01_Or_l0 a1 t2_2 J4 k (0, t2_2.Words)
theorem riddleref01_Or_ok {k : Nat} {a0 : api_Bits} {a1 : api_Bits} {r : api_Bits} (h : riddleref01_Or k a0 a1 = some r) : AnsO Tryd.prog 76 [] [.p (pP5 a0), .p (pP5 a1)] [(8, rW 73 r.Words)] (.agg [.p (i6 (r.N)), .own 8]) := by
  refine W_fnO [8] Tryd.func76 rfl (by kernel_rfl) (by kernel_rfl) (by kernel_rfl) (by kernel_rfl) ?_
  intro X hro hn
  unfold riddleref01_Or at h
  refine WC.rg hn [] [2, 3, 4] [2, 3, 4] ⟨[(2, .ptr 2 0), (3, .ptr 3 0), (4, .ptr 4 0)], [(2, .box 25 (vV5 a0)), (3, .box 25 (vV5 a1)), (4, .box 25 [.p (i6 (0)), .p (.sl .nil 0 [])])], L0, []⟩ trivial ?_
  refine WX.seq ?_
  obtain ⟨t2_2, h2_1, h⟩ := bind_some h
  refine WC.r1 hn [(1, .co [] [] [] [(8, rW 73 t2_2.Words)] (.agg [.p (i6 (t2_2.N)), .own 8]))] [3, 4, 5] [3, 4, 5, 8] ⟨[(3, .ptr 3 0), (4, .ptr 4 0), (5, .ptr 5 0)], [(3, .box 25 (vV5 a1)), (4, .box 25 [.p (i6 (0)), .p (.sl .nil 0 [])]), (5, .box 25 [.p (i6 (t2_2.N)), .own 8]), (8, rW 73 t2_2.Words)], L0, []⟩ (And.intro (And.intro ((riddleref01_Copy_ok h2_1).ren 11 8 (by kernel_rfl)) (trivial)) (trivial)) ?_
  refine WX.seq ?_
  refine WC.rg hn [] [3, 4, 5, 6] [3, 4, 5, 8] ⟨[(3, .ptr 3 0), (4, .ptr 4 0), (5, .ptr 5 0), (6, .p (i6 (0)))], [(3, .box 25 (vV5 a1)), (4, .box 25 [.p (i6 (0)), .p (.sl .nil 0 [])]), (5, .box 25 [.p (i6 (t2_2.N)), .own 8]), (8, rW 73 t2_2.Words)], L0, []⟩ trivial ?_
  obtain ⟨J4, eJ4, h⟩ := jn_some h
  try dsimp only at h
  refine WC.join (α := List Int) (fun v4 => ⟨[(4, .ptr 4 0), (5, .ptr 5 0)], [(4, .box 25 [.p (i6 (0)), .p (.sl .nil 0 [])]), (5, .box 25 [.p (i6 (t2_2.N)), .own 8]), (8, rW 73 v4)], L0, []⟩) (fun v4 => J4 v4 = some r) ?_ (fun hJ4 => ?_)
  · rintro y4_1 h
    rw [eJ4] at h
    try dsimp only at h
    refine WC.rg hn [] [4] [4, 8] ⟨[(4, .ptr 4 0)], [(4, .box 25 [.p (i6 (t2_2.N)), .own 8]), (8, rW 73 y4_1)], L0, []⟩ trivial ?_
    refine WX.ret ?_
    exact WC.outO (by rw [← Option.some.inj h]; kernel_rfl)
  · replace hJ4 := fun y4_1 => hJ4 y4_1
    refine WX.block ?_
    refine WC.loop (V := Int × List Int) (riddleref01_Or_l0 a1 t2_2 J4) r (fun v21 => ⟨[(3, .ptr 3 0), (4, .ptr 4 0), (5, .ptr 5 0), (6, .p (i6 (v21.1)))], [(3, .box 25 (vV5 a1)), (4, .box 25 [.p (i6 (0)), .p (.sl .nil 0 [])]), (5, .box 25 [.p (i6 (t2_2.N)), .own 8]), (8, rW 73 v21.2)], L0, []⟩) _ (0, t2_2.Words) h (fun _ => rfl) [3, 4, 5, 6] [3, 4, 5, 8] (by kernel_rfl) ?_
    clear h; rintro k ⟨x21_1_1, x21_1_2⟩ h K21 hnext21 hexit21
    rw [riddleref01_Or_l0] at h
    refine WX.seq ?_
    refine WC.rg hn [] [3, 4, 5, 6, 12] [3, 4, 5, 8] ⟨[(3, .ptr 3 0), (4, .ptr 4 0), (5, .ptr 5 0), (6, .p (i6 (x21_1_1))), (12, .p (bo (((decide (x21_1_1 < t2_2.N))))))], [(3, .box 25 (vV5 a1)), (4, .box 25 [.p (i6 (0)), .p (.sl .nil 0 [])]), (5, .box 25 [.p (i6 (t2_2.N)), .own 8]), (8, rW 73 x21_1_2)], L0, []⟩ trivial ?_
    rcases if_or h with ⟨c37, h⟩ | ⟨c37, h⟩
    · refine WC.condT c37 (by kernel_rfl) ?_
      refine WX.skip ?_
      refine WX.seq ?_
      refine WX.block ?_
      refine WX.seq ?_
      obtain ⟨t38_2, h38_1, h⟩ := bind_some h
      refine WC.r1 hn [(2, .resP (bo (t38_2)))] [3, 4, 5, 6, 17] [3, 4, 5, 8] ⟨[(3, .ptr 3 0), (4, .ptr 4 0), (5, .ptr 5 0), (6, .p (i6 (x21_1_1))), (17, .p (bo (t38_2)))], [(3, .box 25 (vV5 a1)), (4, .box 25 [.p (i6 (0)), .p (.sl .nil 0 [])]), (5, .box 25 [.p (i6 (t2_2.N)), .own 8]), (8, rW 73 x21_1_2)], L0, []⟩ (And.intro ((riddleref01_Has_ok h38_1)) (trivial)) ?_
      rcases if_or h with ⟨c39, h⟩ | ⟨c39, h⟩
      · refine WC.condT c39 (by kernel_rfl) ?_
        obtain ⟨t40_2, h40_1, h⟩ := bind_some h
        refine WC.r1 hn [(2, .co [] [8] [] [(8, rW 73 t40_2)] (.tup []))] [3, 4, 5, 6] [3, 4, 5, 8] ⟨[(3, .ptr 3 0), (4, .ptr 4 0), (5, .ptr 5 0), (6, .p (i6 (x21_1_1)))], [(3, .box 25 (vV5 a1)), (4, .box 25 [.p (i6 (0)), .p (.sl .nil 0 [])]), (5, .box 25 [.p (i6 (t2_2.N)), .own 8]), (8, rW 73 t40_2)], L0, []⟩ (And.intro (And.intro ((riddleref01_put_ok h40_1).ren 1000 8 (by kernel_rfl)) (trivial)) (trivial)) ?_
        refine WX.popBlk ?_
        refine WC.r1 hn [] [3, 4, 5, 6] [3, 4, 5, 8] ⟨[(3, .ptr 3 0), (4, .ptr 4 0), (5, .ptr 5 0), (6, .p (i6 (((IntKind.i64.wrap (x21_1_1 + 1))))))], [(3, .box 25 (vV5 a1)), (4, .box 25 [.p (i6 (0)), .p (.sl .nil 0 [])]), (5, .box 25 [.p (i6 (t2_2.N)), .own 8]), (8, rW 73 t40_2)], L0, []⟩ trivial ?_
        exact WC.next [3, 4, 5, 6] [3, 4, 5, 8] (by kernel_rfl) (hnext21 ((IntKind.i64.wrap (x21_1_1 + 1)), t40_2) h)
      · refine WC.condF c39 (by kernel_rfl) ?_
        refine WX.skip ?_
        refine WX.popBlk ?_
        refine WC.r1 hn [] [3, 4, 5, 6] [3, 4, 5, 8] ⟨[(3, .ptr 3 0), (4, .ptr 4 0), (5, .ptr 5 0), (6, .p (i6 (((IntKind.i64.wrap (x21_1_1 + 1))))))], [(3, .box 25 (vV5 a1)), (4, .box 25 [.p (i6 (0)), .p (.sl .nil 0 [])]), (5, .box 25 [.p (i6 (t2_2.N)), .own 8]), (8, rW 73 x21_1_2)], L0, []⟩ trivial ?_
        exact WC.next [3, 4, 5, 6] [3, 4, 5, 8] (by kernel_rfl) (hnext21 ((IntKind.i64.wrap (x21_1_1 + 1)), x21_1_2) h)
    · refine WC.condF c37 (by kernel_rfl) ?_
      refine WX.exit ?_
      refine WX.popCodeExit ?_
      refine WC.exit_nil (hexit21 _ _ (by simp) ?_)
      refine WX.popBlkHit ?_
      exact WC.keep [4, 5] [4, 5, 8] (by kernel_rfl) (hJ4 x21_1_2 h)
theorem riddleref01_Or_okP {k : Nat} {a0 : api_Bits} {a1 : api_Bits} {r : api_Bits} (h : riddleref01_Or k a0 a1 = some r) : Ans Tryd.prog 76 [pP5 a0, pP5 a1] (pP5 r) := AnsO.ans (args := [pP5 a0, pP5 a1]) (riddleref01_Or_ok h) (by kernel_rfl)
def riddleref10_behind_l0 (a1 : api_Bits) (a2 : api_Bits) (J3 : List api_Bits → Option (api_Nfa)) : Nat → (Int × List api_Bits) → Option (api_Nfa)
  | 0, _ => none
  | k + 1, (x20_1_1, x20_1_2) => (if (decide (x20_1_1 < (x20_1_2.length : Int))) = true then (riddleref01_Has k a1 x20_1_1).bind fun t37_2 => (if t37_2 = true then (at_ x20_1_2 x20_1_1).bind fun t39_2 => (riddleref01_Or k t39_2 a2).bind fun t39_4 => riddleref10_behind_l0 a1 a2 J3 k ((IntKind.i64.wrap (x20_1_1 + 1)), x20_1_2.set x20_1_1.toNat t39_4) else riddleref10_behind_l0 a1 a2 J3 k ((IntKind.i64.wrap (x20_1_1 + 1)), x20_1_2)) else J3 x20_1_2)
def riddleref10_behind (k : Nat) (a0 : api_Nfa) (a1 : api_Bits) (a2 : api_Bits) : Option (api_Nfa) :=
  jn (fun (v3 : List api_Bits) => some ((api_Nfa.mk a0.Classes a0.First a0.Last v3 a0.Null))) fun J3 => riddleref10_behind_l0 a1 a2 J3 k (0, a0.Follow)
theorem riddleref10_behind_ok {k : Nat} {a0 : api_Nfa} {a1 : api_Bits} {a2 : api_Bits} {r : api_Nfa} (h : riddleref10_behind k a0 a1 a2 = some r) : AnsO Tryd.prog 77 [(1000, rowV 25 e_api_Bits a0.Follow)] [.agg [.p (sC a0.Classes), .p (i6 (a0.First.N)), .p (sW a0.First.Words), .p (i6 (a0.Last.N)), .p (sW a0.Last.Words), .own 1000, .p (bo (a0.Null))], .p (pP5 a1), .p (pP5 a2)] [(29, rowV 25 e_api_Bits r.Follow)] (.agg [.p (sC r.Classes), .p (i6 (r.First.N)), .p (sW r.First.Words), .p (i6 (r.Last.N)), .p (sW r.Last.Words), .own 29, .p (bo (r.Null))]) := by
  refine W_fnO [29] Tryd.func77 rfl (by kernel_rfl) (by kernel_rfl) (by kernel_rfl) (by kernel_rfl) ?_
  intro X hro hn
  unfold riddleref10_behind at h
  refine WC.rg hn [] [3, 4, 5, 6] [3, 4, 5, 6, 1000] ⟨[(3, .ptr 3 0), (4, .ptr 4 0), (5, .ptr 5 0), (6, .ptr 6 0)], [(3, .box 28 [.p (sC a0.Classes), .p (i6 (a0.First.N)), .p (sW a0.First.Words), .p (i6 (a0.Last.N)), .p (sW a0.Last.Words), .own 1000, .p (bo (a0.Null))]), (4, .box 25 (vV5 a1)), (5, .box 25 (vV5 a2)), (6, .box 28 [.p (.sl .nil 0 []), .p (i6 (0)), .p (.sl .nil 0 []), .p (i6 (0)), .p (.sl .nil 0 []), .p (.sl .nil 0 []), .p (bo (false))]), (1000, rowV 25 e_api_Bits a0.Follow)], L0, []⟩ trivial ?_
  refine WX.seq ?_
  refine WC.rg hn [] [3, 4, 5, 6, 7] [3, 4, 5, 6, 1000] ⟨[(3, .ptr 3 0), (4, .ptr 4 0), (5, .ptr 5 0), (6, .ptr 6 0), (7, .p (i6 (0)))], [(3, .box 28 [.p (sC a0.Classes), .p (i6 (a0.First.N)), .p (sW a0.First.Words), .p (i6 (a0.Last.N)), .p (sW a0.Last.Words), .own 1000, .p (bo (a0.Null))]), (4, .box 25 (vV5 a1)), (5, .box 25 (vV5 a2)), (6, .box 28 [.p (.sl .nil 0 []), .p (i6 (0)), .p (.sl .nil 0 []), .p (i6 (0)), .p (.sl .nil 0 []), .p (.sl .nil 0 []), .p (bo (false))]), (1000, rowV 25 e_api_Bits a0.Follow)], L0, []⟩ trivial ?_
  obtain ⟨J3, eJ3, h⟩ := jn_some h
  try dsimp only at h
  refine WC.join (α := List api_Bits) (fun v3 => ⟨[(3, .ptr 3 0), (6, .ptr 6 0)], [(3, .box 28 [.p (sC a0.Classes), .p (i6 (a0.First.N)), .p (sW a0.First.Words), .p (i6 (a0.Last.N)), .p (sW a0.Last.Words), .own 1000, .p (bo (a0.Null))]), (6, .box 28 [.p (.sl .nil 0 []), .p (i6 (0)), .p (.sl .nil 0 []), .p (i6 (0)), .p (.sl .nil 0 []), .p (.sl .nil 0 []), .p (bo (false))]), (1000, rowV 25 e_api_Bits v3)], L0, []⟩) (fun v3 => J3 v3 = some r) ?_ (fun hJ3 => ?_)
  · rintro y3_1 h
    rw [eJ3] at h
    try dsimp only at h
    refine WC.rg hn [] [6] [6, 1000] ⟨[(6, .ptr 6 0)], [(6, .box 28 [.p (sC a0.Classes), .p (i6 (a0.First.N)), .p (sW a0.First.Words), .p (i6 (a0.Last.N)), .p (sW a0.Last.Words), .own 1000, .p (bo (a0.Null))]), (1000, rowV 25 e_api_Bits y3_1)], L0, []⟩ trivial ?_
    refine WX.ret ?_
    refine WC.ren hn 1000 29 (by kernel_rfl) [6] [6, 29] (st' := ⟨[(6, .ptr 6 0)], [(6, .box 28 [.p (sC a0.Classes), .p (i6 (a0.First.N)), .p (sW a0.First.Words), .p (i6 (a0.Last.N)), .p (sW a0.Last.Words), .own 29, .p (bo (a0.Null))]), (29, rowV 25 e_api_Bits y3_1)], L0, []⟩) (by kernel_rfl) ?_
    exact WC.outO (by rw [← Option.some.inj h]; kernel_rfl)
  · replace hJ3 := fun y3_1 => hJ3 y3_1
    refine WX.block ?_
    refine WC.loop (V := Int × List api_Bits) (riddleref10_behind_l0 a1 a2 J3) r (fun v20 => ⟨[(3, .ptr 3 0), (4, .ptr 4 0), (5, .ptr 5 0), (6, .ptr 6 0), (7, .p (i6 (v20.1)))], [(3, .box 28 [.p (sC a0.Classes), .p (i6 (a0.First.N)), .p (sW a0.First.Words), .p (i6 (a0.Last.N)), .p (sW a0.Last.Words), .own 1000, .p (bo (a0.Null))]), (4, .box 25 (vV5 a1)), (5, .box 25 (vV5 a2)), (6, .box 28 [.p (.sl .nil 0 []), .p (i6 (0)), .p (.sl .nil 0 []), .p (i6 (0)), .p (.sl .nil 0 []), .p (.sl .nil 0 []), .p (bo (false))]), (1000, rowV 25 e_api_Bits v20.2)], L0, []⟩) _ (0, a0.Follow) h (fun _ => rfl) [3, 4, 5, 6, 7] [3, 4, 5, 6, 1000] (by kernel_rfl) ?_
    clear h; rintro k ⟨x20_1_1, x20_1_2⟩ h K20 hnext20 hexit20
    rw [riddleref10_behind_l0] at h
    refine WX.seq ?_
    refine WC.rg hn [] [3, 4, 5, 6, 7, 12] [3, 4, 5, 6, 1000] ⟨[(3, .ptr 3 0), (4, .ptr 4 0), (5, .ptr 5 0), (6, .ptr 6 0), (7, .p (i6 (x20_1_1))), (12, .p (bo (((decide (x20_1_1 < (x20_1_2.length : Int)))))))], [(3, .box 28 [.p (sC a0.Classes), .p (i6 (a0.First.N)), .p (sW a0.First.Words), .p (i6 (a0.Last.N)), .p (sW a0.Last.Words), .own 1000, .p (bo (a0.Null))]), (4, .box 25 (vV5 a1)), (5, .box 25 (vV5 a2)), (6, .box 28 [.p (.sl .nil 0 []), .p (i6 (0)), .p (.sl .nil 0 []), .p (i6 (0)), .p (.sl .nil 0 []), .p (.sl .nil 0 []), .p (bo (false))]), (1000, rowV 25 e_api_Bits x20_1_2)], L0, []⟩ trivial ?_
    rcases if_or h with ⟨c36, h⟩ | ⟨c36, h⟩
    · refine WC.condT c36 (by kernel_rfl) ?_
      refine WX.skip ?_
      refine WX.seq ?_
      refine WX.block ?_
      refine WX.seq ?_
      obtain ⟨t37_2, h37_1, h⟩ := bind_some h
      refine WC.r1 hn [(2, .resP (bo (t37_2)))] [3, 4, 5, 6, 7, 17] [3, 4, 5, 6, 1000] ⟨[(3, .ptr 3 0), (4, .ptr 4 0), (5, .ptr 5 0), (6, .ptr 6 0), (7, .p (i6 (x20_1_1))), (17, .p (bo (t37_2)))], [(3, .box 28 [.p (sC a0.Classes), .p (i6 (a0.First.N)), .p (sW a0.First.Words), .p (i6 (a0.Last.N)), .p (sW a0.Last.Words), .own 1000, .p (bo (a0.Null))]), (4, .box 25 (vV5 a1)), (5, .box 25 (vV5 a2)), (6, .box 28 [.p (.sl .nil 0 []), .p (i6 (0)), .p (.sl .nil 0 []), .p (i6 (0)), .p (.sl .nil 0 []), .p (.sl .nil 0 []), .p (bo (false))]), (1000, rowV 25 e_api_Bits x20_1_2)], L0, []⟩ (And.intro ((riddleref01_Has_ok h37_1)) (trivial)) ?_
      rcases if_or h with ⟨c38, h⟩ | ⟨c38, h⟩
      · refine WC.condT c38 (by kernel_rfl) ?_
        obtain ⟨t39_2, h39_1, h⟩ := bind_some h
        obtain ⟨t39_4, h39_3, h⟩ := bind_some h
        refine WC.drw hn [(11, [])] [] [(6, .val (.ptr 1000 (x20_1_1.toNat * 2))), (7, .val (.p (pP5 t39_2))), (9, .resP (pP5 t39_4)), (10, .val (.ptr 1000 (x20_1_1.toNat * 2))), (11, .sto 1000 (rowV 25 e_api_Bits (x20_1_2.set x20_1_1.toNat t39_4)))] [3, 4, 5, 6, 7] [3, 4, 5, 6, 1000] ⟨[(3, .ptr 3 0), (4, .ptr 4 0), (5, .ptr 5 0), (6, .ptr 6 0), (7, .p (i6 (x20_1_1)))], [(3, .box 28 [.p (sC a0.Classes), .p (i6 (a0.First.N)), .p (sW a0.First.Words), .p (i6 (a0.Last.N)), .p (sW a0.Last.Words), .own 1000, .p (bo (a0.Null))]), (4, .box 25 (vV5 a1)), (5, .box 25 (vV5 a2)), (6, .box 28 [.p (.sl .nil 0 []), .p (i6 (0)), .p (.sl .nil 0 []), .p (i6 (0)), .p (.sl .nil 0 []), .p (.sl .nil 0 []), .p (bo (false))]), (1000, rowV 25 e_api_Bits (x20_1_2.set x20_1_1.toNat t39_4))], L0, []⟩ (And.intro (IxO 1000 2 h39_1) (And.intro (LdO0 Tryd.prog e_api_Bits 25 h39_1) (And.intro ((riddleref01_Or_okP h39_3)) (And.intro (IxO 1000 2 h39_1) (And.intro (StO0 e_api_Bits 1000 25 2 2 [i6 (t39_4.N), sW t39_4.Words] t39_4 h39_1 rfl rfl (by decide)) (trivial)))))) (by kernel_rfl) (by kernel_rfl) (by kernel_rfl) (by kernel_rfl) ?_
        refine WX.popBlk ?_
        refine WC.r1 hn [] [3, 4, 5, 6, 7] [3, 4, 5, 6, 1000] ⟨[(3, .ptr 3 0), (4, .ptr 4 0), (5, .ptr 5 0), (6, .ptr 6 0), (7, .p (i6 (((IntKind.i64.wrap (x20_1_1 + 1))))))], [(3, .box 28 [.p (sC a0.Classes), .p (i6 (a0.First.N)), .p (sW a0.First.Words), .p (i6 (a0.Last.N)), .p (sW a0.Last.Words), .own 1000, .p (bo (a0.Null))]), (4, .box 25 (vV5 a1)), (5, .box 25 (vV5 a2)), (6, .box 28 [.p (.sl .nil 0 []), .p (i6 (0)), .p (.sl .nil 0 []), .p (i6 (0)), .p (.sl .nil 0 []), .p (.sl .nil 0 []), .p (bo (false))]), (1000, rowV 25 e_api_Bits (x20_1_2.set x20_1_1.toNat t39_4))], L0, []⟩ trivial ?_
        exact WC.next [3, 4, 5, 6, 7] [3, 4, 5, 6, 1000] (by kernel_rfl) (hnext20 ((IntKind.i64.wrap (x20_1_1 + 1)), x20_1_2.set x20_1_1.toNat t39_4) h)
      · refine WC.condF c38 (by kernel_rfl) ?_
        refine WX.skip ?_
        refine WX.popBlk ?_
        refine WC.r1 hn [] [3, 4, 5, 6, 7] [3, 4, 5, 6, 1000] ⟨[(3, .ptr 3 0), (4, .ptr 4 0), (5, .ptr 5 0), (6, .ptr 6 0), (7, .p (i6 (((IntKind.i64.wrap (x20_1_1 + 1))))))], [(3, .box 28 [.p (sC a0.Classes), .p (i6 (a0.First.N)), .p (sW a0.First.Words), .p (i6 (a0.Last.N)), .p (sW a0.Last.Words), .own 1000, .p (bo (a0.Null))]), (4, .box 25 (vV5 a1)), (5, .box 25 (vV5 a2)), (6, .box 28 [.p (.sl .nil 0 []), .p (i6 (0)), .p (.sl .nil 0 []), .p (i6 (0)), .p (.sl .nil 0 []), .p (.sl .nil 0 []), .p (bo (false))]), (1000, rowV 25 e_api_Bits x20_1_2)], L0, []⟩ trivial ?_
        exact WC.next [3, 4, 5, 6, 7] [3, 4, 5, 6, 1000] (by kernel_rfl) (hnext20 ((IntKind.i64.wrap (x20_1_1 + 1)), x20_1_2) h)
    · refine WC.condF c36 (by kernel_rfl) ?_
      refine WX.exit ?_
      refine WX.popCodeExit ?_
      refine WC.exit_nil (hexit20 _ _ (by simp) ?_)
      refine WX.popBlkHit ?_
      exact WC.keep [3, 6] [3, 6, 1000] (by kernel_rfl) (hJ3 x20_1_2 h)
def riddleref10_Cat (k : Nat) (a0 : api_Nfa) (a1 : api_Nfa) : Option (api_Nfa × Int) :=
  (riddleref10_side k a0 a1).bind fun t2_2 => (if (t2_2.2 != 0) = true then some ((api_Nfa.mk ([]) ((api_Bits.mk 0 ([]))) ((api_Bits.mk 0 ([]))) (([] : List api_Bits)) false), t2_2.2) else (riddleref10_moved k a0.First 0 ((t2_2.1.Classes.length : Int))).bind fun t8_2 => jn (fun (v10 : Int × List Int) => (riddleref10_moved k a1.Last ((a0.Classes.length : Int)) ((t2_2.1.Classes.length : Int))).bind fun t14_2 => jn (fun (v16 : Int × List Int) => (riddleref10_moved k a0.Last 0 ((t2_2.1.Classes.length : Int))).bind fun t22_2 => (riddleref10_moved k a1.First ((a0.Classes.length : Int)) ((t2_2.1.Classes.length : Int))).bind fun t22_4 => (riddleref10_behind k ((api_Nfa.mk t2_2.1.Classes ((api_Bits.mk v10.1 v10.2)) ((api_Bits.mk v16.1 v16.2)) t2_2.1.Follow ((a0.Null && a1.Null)))) t22_2 t22_4).bind fun t22_6 => some (t22_6, 0)) fun J16 => (if a1.Null = true then (riddleref10_moved k a0.Last 0 ((t2_2.1.Classes.length : Int))).bind fun t25_2 => (riddleref01_Or k t14_2 t25_2).bind fun t25_4 => J16 (t25_4.N, t25_4.Words) else J16 (t14_2.N, t14_2.Words))) fun J10 => (if a0.Null = true then (riddleref10_moved k a1.First ((a0.Classes.length : Int)) ((t2_2.1.Classes.length : Int))).bind fun t28_2 => (riddleref01_Or k t8_2 t28_2).bind fun t28_4 => J10 (t28_4.N, t28_4.Words) else J10 (t8_2.N, t8_2.Words)))
theorem riddleref10_Cat_ok {k : Nat} {a0 : api_Nfa} {a1 : api_Nfa} {r : api_Nfa × Int} (h : riddleref10_Cat k a0 a1 = some r) : AnsO Tryd.prog 42 [] [.p (pP2 a0), .p (pP2 a1)] [(74, rowV 25 e_api_Bits r.1.Follow)] (.tup [.agg [.p (sC r.1.Classes), .p (i6 (r.1.First.N)), .p (sW r.1.First.Words), .p (i6 (r.1.Last.N)), .p (sW r.1.Last.Words), .own 74, .p (bo (r.1.Null))], .p (i6 (r.2))]) := by
  refine W_fnO [74] Tryd.func42 rfl (by kernel_rfl) (by kernel_rfl) (by kernel_rfl) (by kernel_rfl) ?_
  intro X hro hn
  unfold riddleref10_Cat at h
  refine WC.rg hn [] [2, 3, 4] [2, 3, 4] ⟨[(2, .ptr 2 0), (3, .ptr 3 0), (4, .ptr 4 0)], [(2, .box 28 (vV2 a0)), (3, .box 28 (vV2 a1)), (4, .box 28 [.p (.sl .nil 0 []), .p (i6 (0)), .p (.sl .nil 0 []), .p (i6 (0)), .p (.sl .nil 0 []), .p (.sl .nil 0 []), .p (bo (false))])], L0, []⟩ trivial ?_
  refine WX.seq ?_
  obtain ⟨t2_2, h2_1, h⟩ := bind_some h
  refine WC.r1 hn [(2, .co [] [] [] [(13, rowV 75 (e4 (eI .u64)) t2_2.1.Classes), (75, rowV 25 e_api_Bits t2_2.1.Follow)] (.tup [.agg [.own 13, .p (i6 (t2_2.1.First.N)), .p (sW t2_2.1.First.Words), .p (i6 (t2_2.1.Last.N)), .p (sW t2_2.1.Last.Words), .own 75, .p (bo (t2_2.1.Null))], .p (i6 (t2_2.2))]))] [2, 3, 4, 6, 7] [2, 3, 4, 6, 13, 75] ⟨[(2, .ptr 2 0), (3, .ptr 3 0), (4, .ptr 4 0), (6, .ptr 6 0), (7, .p (i6 (t2_2.2)))], [(2, .box 28 (vV2 a0)), (3, .box 28 (vV2 a1)), (4, .box 28 [.p (.sl .nil 0 []), .p (i6 (0)), .p (.sl .nil 0 []), .p (i6 (0)), .p (.sl .nil 0 []), .p (.sl .nil 0 []), .p (bo (false))]), (6, .box 28 [.own 13, .p (i6 (t2_2.1.First.N)), .p (sW t2_2.1.First.Words), .p (i6 (t2_2.1.Last.N)), .p (sW t2_2.1.Last.Words), .own 75, .p (bo (t2_2.1.Null))]), (13, rowV 75 (e4 (eI .u64)) t2_2.1.Classes), (75, rowV 25 e_api_Bits t2_2.1.Follow)], L0, []⟩ (And.intro (And.intro (((riddleref10_side_ok h2_1).ren 36 13 (by kernel_rfl)).ren 55 75 (by kernel_rfl)) (trivial)) (trivial)) ?_
  refine WX.seq ?_
  refine WC.rg hn [] [2, 3, 4, 6, 7, 17] [2, 3, 4, 6, 13, 75] ⟨[(2, .ptr 2 0), (3, .ptr 3 0), (4, .ptr 4 0), (6, .ptr 6 0), (7, .p (i6 (t2_2.2))), (17, .p (bo (((t2_2.2 != 0)))))], [(2, .box 28 (vV2 a0)), (3, .box 28 (vV2 a1)), (4, .box 28 [.p (.sl .nil 0 []), .p (i6 (0)), .p (.sl .nil 0 []), .p (i6 (0)), .p (.sl .nil 0 []), .p (.sl .nil 0 []), .p (bo (false))]), (6, .box 28 [.own 13, .p (i6 (t2_2.1.First.N)), .p (sW t2_2.1.First.Words), .p (i6 (t2_2.1.Last.N)), .p (sW t2_2.1.Last.Words), .own 75, .p (bo (t2_2.1.Null))]), (13, rowV 75 (e4 (eI .u64)) t2_2.1.Classes), (75, rowV 25 e_api_Bits t2_2.1.Follow)], L0, []⟩ trivial ?_
  rcases if_or h with ⟨c4, h⟩ | ⟨c4, h⟩
  · refine WC.condT c4 (by kernel_rfl) ?_
    refine WC.rg hn [] [4, 5] [4] ⟨[(4, .ptr 4 0), (5, .p (i6 (t2_2.2)))], [(4, .box 28 [.p (.sl .nil 0 []), .p (i6 (0)), .p (.sl .nil 0 []), .p (i6 (0)), .p (.sl .nil 0 []), .p (.sl .nil 0 []), .p (bo (false))])], L0, []⟩ trivial ?_
    refine WX.ret ?_
    refine WC.nil hn [] (some (4, 5)) 74 25 2 (by kernel_rfl) [4, 5] [4, 74] (st' := ⟨[(4, .ptr 4 0), (5, .p (i6 (t2_2.2)))], [(4, .box 28 [.p (.sl .nil 0 []), .p (i6 (0)), .p (.sl .nil 0 []), .p (i6 (0)), .p (.sl .nil 0 []), .own 74, .p (bo (false))]), (74, rowV 25 e_api_Bits (([] : List api_Bits)))], L0, []⟩) (by kernel_rfl) ?_
    exact WC.outO (by rw [← Option.some.inj h]; kernel_rfl)
  · refine WC.condF c4 (by kernel_rfl) ?_
    refine WX.skip ?_
    refine WC.rg hn [] [2, 3, 4, 6, 8] [2, 3, 4, 6, 13, 75] ⟨[(2, .ptr 2 0), (3, .ptr 3 0), (4, .ptr 4 0), (6, .ptr 6 0), (8, .p (i6 (((a0.Classes.length : Int)))))], [(2, .box 28 (vV2 a0)), (3, .box 28 (vV2 a1)), (4, .box 28 [.p (.sl .nil 0 []), .p (i6 (0)), .p (.sl .nil 0 []), .p (i6 (0)), .p (.sl .nil 0 []), .p (.sl .nil 0 []), .p (bo (false))]), (6, .box 28 [.own 13, .p (i6 (t2_2.1.First.N)), .p (sW t2_2.1.First.Words), .p (i6 (t2_2.1.Last.N)), .p (sW t2_2.1.Last.Words), .own 75, .p (bo (t2_2.1.Null))]), (13, rowV 75 (e4 (eI .u64)) t2_2.1.Classes), (75, rowV 25 e_api_Bits t2_2.1.Follow)], L0, []⟩ trivial ?_
    refine WC.rg hn [] [2, 3, 4, 6, 8, 9] [2, 3, 4, 6, 13, 75] ⟨[(2, .ptr 2 0), (3, .ptr 3 0), (4, .ptr 4 0), (6, .ptr 6 0), (8, .p (i6 (((a0.Classes.length : Int))))), (9, .p (i6 (((t2_2.1.Classes.length : Int)))))], [(2, .box 28 (vV2 a0)), (3, .box 28 (vV2 a1)), (4, .box 28 [.p (.sl .nil 0 []), .p (i6 (0)), .p (.sl .nil 0 []), .p (i6 (0)), .p (.sl .nil 0 []), .p (.sl .nil 0 []), .p (bo (false))]), (6, .box 28 [.own 13, .p (i6 (t2_2.1.First.N)), .p (sW t2_2.1.First.Words), .p (i6 (t2_2.1.Last.N)), .p (sW t2_2.1.Last.Words), .own 75, .p (bo (t2_2.1.Null))]), (13, rowV 75 (e4 (eI .u64)) t2_2.1.Classes), (75, rowV 25 e_api_Bits t2_2.1.Follow)], L0, []⟩ trivial ?_
    refine WX.seq ?_
    obtain ⟨t8_2, h8_1, h⟩ := bind_some h
    refine WC.r1 hn [(3, .co [] [] [] [(29, rW 73 t8_2.Words)] (.agg [.p (i6 (t8_2.N)), .own 29]))] [2, 3, 4, 6, 8, 9] [2, 3, 4, 6, 13, 29, 75] ⟨[(2, .ptr 2 0), (3, .ptr 3 0), (4, .ptr 4 0), (6, .ptr 6 0), (8, .p (i6 (((a0.Classes.length : Int))))), (9, .p (i6 (((t2_2.1.Classes.length : Int)))))], [(2, .box 28 (vV2 a0)), (3, .box 28 (vV2 a1)), (4, .box 28 [.p (.sl .nil 0 []), .p (i6 (0)), .p (.sl .nil 0 []), .p (i6 (0)), .p (.sl .nil 0 []), .p (.sl .nil 0 []), .p (bo (false))]), (6, .box 28 [.own 13, .p (i6 (t8_2.N)), .own 29, .p (i6 (t2_2.1.Last.N)), .p (sW t2_2.1.Last.Words), .own 75, .p (bo (t2_2.1.Null))]), (13, rowV 75 (e4 (eI .u64)) t2_2.1.Classes), (29, rW 73 t8_2.Words), (75, rowV 25 e_api_Bits t2_2.1.Follow)], L0, []⟩ (And.intro (And.intro ((riddleref10_moved_ok h8_1).ren 10 29 (by kernel_rfl)) (trivial)) (trivial)) ?_
    refine WX.seq ?_
    refine WC.rg hn [] [2, 3, 4, 6, 8, 9, 32] [2, 3, 4, 6, 13, 29, 75] ⟨[(2, .ptr 2 0), (3, .ptr 3 0), (4, .ptr 4 0), (6, .ptr 6 0), (8, .p (i6 (((a0.Classes.length : Int))))), (9, .p (i6 (((t2_2.1.Classes.length : Int))))), (32, .p (bo (a0.Null)))], [(2, .box 28 (vV2 a0)), (3, .box 28 (vV2 a1)), (4, .box 28 [.p (.sl .nil 0 []), .p (i6 (0)), .p (.sl .nil 0 []), .p (i6 (0)), .p (.sl .nil 0 []), .p (.sl .nil 0 []), .p (bo (false))]), (6, .box 28 [.own 13, .p (i6 (t8_2.N)), .own 29, .p (i6 (t2_2.1.Last.N)), .p (sW t2_2.1.Last.Words), .own 75, .p (bo (t2_2.1.Null))]), (13, rowV 75 (e4 (eI .u64)) t2_2.1.Classes), (29, rW 73 t8_2.Words), (75, rowV 25 e_api_Bits t2_2.1.Follow)], L0, []⟩ trivial ?_
    obtain ⟨J10, eJ10, h⟩ := jn_some h
    try dsimp only at h
    refine WC.join (α := Int × List Int) (fun v10 => ⟨[(2, .ptr 2 0), (3, .ptr 3 0), (4, .ptr 4 0), (6, .ptr 6 0), (8, .p (i6 (((a0.Classes.length : Int))))), (9, .p (i6 (((t2_2.1.Classes.length : Int)))))], [(2, .box 28 (vV2 a0)), (3, .box 28 (vV2 a1)), (4, .box 28 [.p (.sl .nil 0 []), .p (i6 (0)), .p (.sl .nil 0 []), .p (i6 (0)), .p (.sl .nil 0 []), .p (.sl .nil 0 []), .p (bo (false))]), (6, .box 28 [.own 13, .p (i6 (v10.1)), .p (sW v10.2), .p (i6 (t2_2.1.Last.N)), .p (sW t2_2.1.Last.Words), .own 75, .p (bo (t2_2.1.Null))]), (13, rowV 75 (e4 (eI .u64)) t2_2.1.Classes), (75, rowV 25 e_api_Bits t2_2.1.Follow)], L0, []⟩) (fun v10 => J10 v10 = some r) ?_ (fun hJ10 => ?_)
    · rintro ⟨y10_1, y10_2⟩ h
      rw [eJ10] at h
      try dsimp only at h
      refine WX.seq ?_
      obtain ⟨t14_2, h14_1, h⟩ := bind_some h
      refine WC.r1 hn [(4, .co [] [] [] [(46, rW 73 t14_2.Words)] (.agg [.p (i6 (t14_2.N)), .own 46]))] [2, 3, 4, 6, 8, 9] [2, 3, 4, 6, 13, 46, 75] ⟨[(2, .ptr 2 0), (3, .ptr 3 0), (4, .ptr 4 0), (6, .ptr 6 0), (8, .p (i6 (((a0.Classes.length : Int))))), (9, .p (i6 (((t2_2.1.Classes.length : Int)))))], [(2, .box 28 (vV2 a0)), (3, .box 28 (vV2 a1)), (4, .box 28 [.p (.sl .nil 0 []), .p (i6 (0)), .p (.sl .nil 0 []), .p (i6 (0)), .p (.sl .nil 0 []), .p (.sl .nil 0 []), .p (bo (false))]), (6, .box 28 [.own 13, .p (i6 (y10_1)), .p (sW y10_2), .p (i6 (t14_2.N)), .own 46, .own 75, .p (bo (t2_2.1.Null))]), (13, rowV 75 (e4 (eI .u64)) t2_2.1.Classes), (46, rW 73 t14_2.Words), (75, rowV 25 e_api_Bits t2_2.1.Follow)], L0, []⟩ (And.intro (And.intro ((riddleref10_moved_ok h14_1).ren 10 46 (by kernel_rfl)) (trivial)) (trivial)) ?_
      refine WX.seq ?_
      refine WC.rg hn [] [2, 3, 4, 6, 8, 9, 49] [2, 3, 4, 6, 13, 46, 75] ⟨[(2, .ptr 2 0), (3, .ptr 3 0), (4, .ptr 4 0), (6, .ptr 6 0), (8, .p (i6 (((a0.Classes.length : Int))))), (9, .p (i6 (((t2_2.1.Classes.length : Int))))), (49, .p (bo (a1.Null)))], [(2, .box 28 (vV2 a0)), (3, .box 28 (vV2 a1)), (4, .box 28 [.p (.sl .nil 0 []), .p (i6 (0)), .p (.sl .nil 0 []), .p (i6 (0)), .p (.sl .nil 0 []), .p (.sl .nil 0 []), .p (bo (false))]), (6, .box 28 [.own 13, .p (i6 (y10_1)), .p (sW y10_2), .p (i6 (t14_2.N)), .own 46, .own 75, .p (bo (t2_2.1.Null))]), (13, rowV 75 (e4 (eI .u64)) t2_2.1.Classes), (46, rW 73 t14_2.Words), (75, rowV 25 e_api_Bits t2_2.1.Follow)], L0, []⟩ trivial ?_
      obtain ⟨J16, eJ16, h⟩ := jn_some h
      try dsimp only at h
      refine WC.join (α := Int × List Int) (fun v16 => ⟨[(2, .ptr 2 0), (3, .ptr 3 0), (4, .ptr 4 0), (6, .ptr 6 0), (8, .p (i6 (((a0.Classes.length : Int))))), (9, .p (i6 (((t2_2.1.Classes.length : Int)))))], [(2, .box 28 (vV2 a0)), (3, .box 28 (vV2 a1)), (4, .box 28 [.p (.sl .nil 0 []), .p (i6 (0)), .p (.sl .nil 0 []), .p (i6 (0)), .p (.sl .nil 0 []), .p (.sl .nil 0 []), .p (bo (false))]), (6, .box 28 [.own 13, .p (i6 (y10_1)), .p (sW y10_2), .p (i6 (v16.1)), .p (sW v16.2), .own 75, .p (bo (t2_2.1.Null))]), (13, rowV 75 (e4 (eI .u64)) t2_2.1.Classes), (75, rowV 25 e_api_Bits t2_2.1.Follow)], L0, []⟩) (fun v16 => J16 v16 = some r) ?_ (fun hJ16 => ?_)
      · rintro ⟨y16_1, y16_2⟩ h
        rw [eJ16] at h
        try dsimp only at h
        refine WX.seq ?_
        refine WC.via (α := Bool) (fun v20 => ⟨[(2, .ptr 2 0), (3, .ptr 3 0), (4, .ptr 4 0), (6, .ptr 6 0), (8, .p (i6 (((a0.Classes.length : Int))))), (9, .p (i6 (((t2_2.1.Classes.length : Int)))))], [(2, .box 28 (vV2 a0)), (3, .box 28 (vV2 a1)), (4, .box 28 [.p (.sl .nil 0 []), .p (i6 (0)), .p (.sl .nil 0 []), .p (i6 (0)), .p (.sl .nil 0 []), .p (.sl .nil 0 []), .p (bo (false))]), (6, .box 28 [.own 13, .p (i6 (y10_1)), .p (sW y10_2), .p (i6 (y16_1)), .p (sW y16_2), .own 75, .p (bo (v20))]), (13, rowV 75 (e4 (eI .u64)) t2_2.1.Classes), (75, rowV 25 e_api_Bits t2_2.1.Follow)], L0, []⟩) ((a0.Null && a1.Null)) (fun hk => ?_) ?_
        · rcases Bool.eq_false_or_eq_true a0.Null with b20_2 | b20_2
          · exact WC.reg hn [(2, .val (.p (bo (true))))] [2, 3, 4, 6, 8, 9] [2, 3, 4, 6, 13, 75] ⟨[(2, .ptr 2 0), (3, .ptr 3 0), (4, .ptr 4 0), (6, .ptr 6 0), (8, .p (i6 (((a0.Classes.length : Int))))), (9, .p (i6 (((t2_2.1.Classes.length : Int)))))], [(2, .box 28 (vV2 a0)), (3, .box 28 (vV2 a1)), (4, .box 28 [.p (.sl .nil 0 []), .p (i6 (0)), .p (.sl .nil 0 []), .p (i6 (0)), .p (.sl .nil 0 []), .p (.sl .nil 0 []), .p (bo (false))]), (6, .box 28 [.own 13, .p (i6 (y10_1)), .p (sW y10_2), .p (i6 (y16_1)), .p (sW y16_2), .own 75, .p (bo (a1.Null))]), (13, rowV 75 (e4 (eI .u64)) t2_2.1.Classes), (75, rowV 25 e_api_Bits t2_2.1.Follow)], L0, []⟩ (And.intro (Bl b20_2) (trivial)) (by kernel_rfl) (hk a1.Null (by first | (rw [b20_2]; rfl) | simp [b20_2]))
          · exact WC.reg hn [(2, .val (.p (bo (false))))] [2, 3, 4, 6, 8, 9] [2, 3, 4, 6, 13, 75] ⟨[(2, .ptr 2 0), (3, .ptr 3 0), (4, .ptr 4 0), (6, .ptr 6 0), (8, .p (i6 (((a0.Classes.length : Int))))), (9, .p (i6 (((t2_2.1.Classes.length : Int)))))], [(2, .box 28 (vV2 a0)), (3, .box 28 (vV2 a1)), (4, .box 28 [.p (.sl .nil 0 []), .p (i6 (0)), .p (.sl .nil 0 []), .p (i6 (0)), .p (.sl .nil 0 []), .p (.sl .nil 0 []), .p (bo (false))]), (6, .box 28 [.own 13, .p (i6 (y10_1)), .p (sW y10_2), .p (i6 (y16_1)), .p (sW y16_2), .own 75, .p (bo (false))]), (13, rowV 75 (e4 (eI .u64)) t2_2.1.Classes), (75, rowV 25 e_api_Bits t2_2.1.Follow)], L0, []⟩ (And.intro (Bl b20_2) (trivial)) (by kernel_rfl) (hk false (by first | (rw [b20_2]; rfl) | simp [b20_2]))
        refine WX.seq ?_
        refine WC.frz 13 (st' := ⟨[(2, .ptr 2 0), (3, .ptr 3 0), (4, .ptr 4 0), (6, .ptr 6 0), (8, .p (i6 (((a0.Classes.length : Int))))), (9, .p (i6 (((t2_2.1.Classes.length : Int)))))], [(2, .box 28 (vV2 a0)), (3, .box 28 (vV2 a1)), (4, .box 28 [.p (.sl .nil 0 []), .p (i6 (0)), .p (.sl .nil 0 []), .p (i6 (0)), .p (.sl .nil 0 []), .p (.sl .nil 0 []), .p (bo (false))]), (6, .box 28 [.p (sC t2_2.1.Classes), .p (i6 (y10_1)), .p (sW y10_2), .p (i6 (y16_1)), .p (sW y16_2), .own 75, .p (bo (((a0.Null && a1.Null))))]), (75, rowV 25 e_api_Bits t2_2.1.Follow)], L0, []⟩) (by kernel_rfl) ?_
        obtain ⟨t22_2, h22_1, h⟩ := bind_some h
        obtain ⟨t22_4, h22_3, h⟩ := bind_some h
        obtain ⟨t22_6, h22_5, h⟩ := bind_some h
        refine WC.drw hn [(10, []), (11, [])] [] [(4, .resP (pP5 t22_2)), (9, .resP (pP5 t22_4)), (10, .co [] [75] [] [(74, rowV 25 e_api_Bits t22_6.Follow)] (.agg [.p (sC t22_6.Classes), .p (i6 (t22_6.First.N)), .p (sW t22_6.First.Words), .p (i6 (t22_6.Last.N)), .p (sW t22_6.Last.Words), .own 74, .p (bo (t22_6.Null))]))] [4, 5] [4, 74] ⟨[(4, .ptr 4 0), (5, .p (i6 (0)))], [(4, .box 28 [.p (sC t22_6.Classes), .p (i6 (t22_6.First.N)), .p (sW t22_6.First.Words), .p (i6 (t22_6.Last.N)), .p (sW t22_6.Last.Words), .own 74, .p (bo (t22_6.Null))]), (74, rowV 25 e_api_Bits t22_6.Follow)], L0, []⟩ (And.intro ((riddleref10_moved_okP h22_1)) (And.intro ((riddleref10_moved_okP h22_3)) (And.intro (And.intro (((riddleref10_behind_ok h22_5).ren 1000 75 (by kernel_rfl)).ren 29 74 (by kernel_rfl)) (trivial)) (trivial)))) (by kernel_rfl) (by kernel_rfl) (by kernel_rfl) (by kernel_rfl) ?_
        refine WX.ret ?_
        exact WC.outO (by rw [← Option.some.inj h]; kernel_rfl)
      · replace hJ16 := fun y16_1 y16_2 => hJ16 (y16_1, y16_2)
        rcases if_or h with ⟨c23, h⟩ | ⟨c23, h⟩
        · refine WC.condT c23 (by kernel_rfl) ?_
          refine WC.frz 46 (st' := ⟨[(2, .ptr 2 0), (3, .ptr 3 0), (4, .ptr 4 0), (6, .ptr 6 0), (8, .p (i6 (((a0.Classes.length : Int))))), (9, .p (i6 (((t2_2.1.Classes.length : Int))))), (49, .p (bo (a1.Null)))], [(2, .box 28 (vV2 a0)), (3, .box 28 (vV2 a1)), (4, .box 28 [.p (.sl .nil 0 []), .p (i6 (0)), .p (.sl .nil 0 []), .p (i6 (0)), .p (.sl .nil 0 []), .p (.sl .nil 0 []), .p (bo (false))]), (6, .box 28 [.own 13, .p (i6 (y10_1)), .p (sW y10_2), .p (i6 (t14_2.N)), .p (sW t14_2.Words), .own 75, .p (bo (t2_2.1.Null))]), (13, rowV 75 (e4 (eI .u64)) t2_2.1.Classes), (75, rowV 25 e_api_Bits t2_2.1.Follow)], L0, []⟩) (by kernel_rfl) ?_
          obtain ⟨t25_2, h25_1, h⟩ := bind_some h
          obtain ⟨t25_4, h25_3, h⟩ := bind_some h
          refine WC.drw hn [(8, [])] [] [(5, .resP (pP5 t25_2)), (6, .resP (pP5 t25_4))] [2, 3, 4, 6, 8, 9] [2, 3, 4, 6, 13, 75] ⟨[(2, .ptr 2 0), (3, .ptr 3 0), (4, .ptr 4 0), (6, .ptr 6 0), (8, .p (i6 (((a0.Classes.length : Int))))), (9, .p (i6 (((t2_2.1.Classes.length : Int)))))], [(2, .box 28 (vV2 a0)), (3, .box 28 (vV2 a1)), (4, .box 28 [.p (.sl .nil 0 []), .p (i6 (0)), .p (.sl .nil 0 []), .p (i6 (0)), .p (.sl .nil 0 []), .p (.sl .nil 0 []), .p (bo (false))]), (6, .box 28 [.own 13, .p (i6 (y10_1)), .p (sW y10_2), .p (i6 (t25_4.N)), .p (sW t25_4.Words), .own 75, .p (bo (t2_2.1.Null))]), (13, rowV 75 (e4 (eI .u64)) t2_2.1.Classes), (75, rowV 25 e_api_Bits t2_2.1.Follow)], L0, []⟩ (And.intro ((riddleref10_moved_okP h25_1)) (And.intro ((riddleref01_Or_okP h25_3)) (trivial))) (by kernel_rfl) (by kernel_rfl) (by kernel_rfl) (by kernel_rfl) ?_
          exact WC.keep [2, 3, 4, 6, 8, 9] [2, 3, 4, 6, 13, 75] (by kernel_rfl) (hJ16 t25_4.N t25_4.Words h)
        · refine WC.condF c23 (by kernel_rfl) ?_
          refine WX.skip ?_
          refine WC.keep [2, 3, 4, 6, 8, 9] [2, 3, 4, 6, 13, 46, 75] (st' := ⟨[(2, .ptr 2 0), (3, .ptr 3 0), (4, .ptr 4 0), (6, .ptr 6 0), (8, .p (i6 (((a0.Classes.length : Int))))), (9, .p (i6 (((t2_2.1.Classes.length : Int)))))], [(2, .box 28 (vV2 a0)), (3, .box 28 (vV2 a1)), (4, .box 28 [.p (.sl .nil 0 []), .p (i6 (0)), .p (.sl .nil 0 []), .p (i6 (0)), .p (.sl .nil 0 []), .p (.sl .nil 0 []), .p (bo (false))]), (6, .box 28 [.own 13, .p (i6 (y10_1)), .p (sW y10_2), .p (i6 (t14_2.N)), .own 46, .own 75, .p (bo (t2_2.1.Null))]), (13, rowV 75 (e4 (eI .u64)) t2_2.1.Classes), (46, rW 73 t14_2.Words), (75, rowV 25 e_api_Bits t2_2.1.Follow)], L0, []⟩) (by kernel_rfl) ?_
          refine WC.frz 46 (st' := ⟨[(2, .ptr 2 0), (3, .ptr 3 0), (4, .ptr 4 0), (6, .ptr 6 0), (8, .p (i6 (((a0.Classes.length : Int))))), (9, .p (i6 (((t2_2.1.Classes.length : Int)))))], [(2, .box 28 (vV2 a0)), (3, .box 28 (vV2 a1)), (4, .box 28 [.p (.sl .nil 0 []), .p (i6 (0)), .p (.sl .nil 0 []), .p (i6 (0)), .p (.sl .nil 0 []), .p (.sl .nil 0 []), .p (bo (false))]), (6, .box 28 [.own 13, .p (i6 (y10_1)), .p (sW y10_2), .p (i6 (t14_2.N)), .p (sW t14_2.Words), .own 75, .p (bo (t2_2.1.Null))]), (13, rowV 75 (e4 (eI .u64)) t2_2.1.Classes), (75, rowV 25 e_api_Bits t2_2.1.Follow)], L0, []⟩) (by kernel_rfl) ?_
          exact WC.keep [2, 3, 4, 6, 8, 9] [2, 3, 4, 6, 13, 75] (by kernel_rfl) (hJ16 t14_2.N t14_2.Words h)
    · replace hJ10 := fun y10_1 y10_2 => hJ10 (y10_1, y10_2)
      rcases if_or h with ⟨c26, h⟩ | ⟨c26, h⟩
      · refine WC.condT c26 (by kernel_rfl) ?_
        refine WC.frz 29 (st' := ⟨[(2, .ptr 2 0), (3, .ptr 3 0), (4, .ptr 4 0), (6, .ptr 6 0), (8, .p (i6 (((a0.Classes.length : Int))))), (9, .p (i6 (((t2_2.1.Classes.length : Int))))), (32, .p (bo (a0.Null)))], [(2, .box 28 (vV2 a0)), (3, .box 28 (vV2 a1)), (4, .box 28 [.p (.sl .nil 0 []), .p (i6 (0)), .p (.sl .nil 0 []), .p (i6 (0)), .p (.sl .nil 0 []), .p (.sl .nil 0 []), .p (bo (false))]), (6, .box 28 [.own 13, .p (i6 (t8_2.N)), .p (sW t8_2.Words), .p (i6 (t2_2.1.Last.N)), .p (sW t2_2.1.Last.Words), .own 75, .p (bo (t2_2.1.Null))]), (13, rowV 75 (e4 (eI .u64)) t2_2.1.Classes), (75, rowV 25 e_api_Bits t2_2.1.Follow)], L0, []⟩) (by kernel_rfl) ?_
        obtain ⟨t28_2, h28_1, h⟩ := bind_some h
        obtain ⟨t28_4, h28_3, h⟩ := bind_some h
        refine WC.drw hn [(9, [])] [] [(6, .resP (pP5 t28_2)), (7, .resP (pP5 t28_4))] [2, 3, 4, 6, 8, 9] [2, 3, 4, 6, 13, 75] ⟨[(2, .ptr 2 0), (3, .ptr 3 0), (4, .ptr 4 0), (6, .ptr 6 0), (8, .p (i6 (((a0.Classes.length : Int))))), (9, .p (i6 (((t2_2.1.Classes.length : Int)))))], [(2, .box 28 (vV2 a0)), (3, .box 28 (vV2 a1)), (4, .box 28 [.p (.sl .nil 0 []), .p (i6 (0)), .p (.sl .nil 0 []), .p (i6 (0)), .p (.sl .nil 0 []), .p (.sl .nil 0 []), .p (bo (false))]), (6, .box 28 [.own 13, .p (i6 (t28_4.N)), .p (sW t28_4.Words), .p (i6 (t2_2.1.Last.N)), .p (sW t2_2.1.Last.Words), .own 75, .p (bo (t2_2.1.Null))]), (13, rowV 75 (e4 (eI .u64)) t2_2.1.Classes), (75, rowV 25 e_api_Bits t2_2.1.Follow)], L0, []⟩ (And.intro ((riddleref10_moved_okP h28_1)) (And.intro ((riddleref01_Or_okP h28_3)) (trivial))) (by kernel_rfl) (by kernel_rfl) (by kernel_rfl) (by kernel_rfl) ?_
        exact WC.keep [2, 3, 4, 6, 8, 9] [2, 3, 4, 6, 13, 75] (by kernel_rfl) (hJ10 t28_4.N t28_4.Words h)
      · refine WC.condF c26 (by kernel_rfl) ?_
        refine WX.skip ?_
        refine WC.keep [2, 3, 4, 6, 8, 9] [2, 3, 4, 6, 13, 29, 75] (st' := ⟨[(2, .ptr 2 0), (3, .ptr 3 0), (4, .ptr 4 0), (6, .ptr 6 0), (8, .p (i6 (((a0.Classes.length : Int))))), (9, .p (i6 (((t2_2.1.Classes.length : Int)))))], [(2, .box 28 (vV2 a0)), (3, .box 28 (vV2 a1)), (4, .box 28 [.p (.sl .nil 0 []), .p (i6 (0)), .p (.sl .nil 0 []), .p (i6 (0)), .p (.sl .nil 0 []), .p (.sl .nil 0 []), .p (bo (false))]), (6, .box 28 [.own 13, .p (i6 (t8_2.N)), .own 29, .p (i6 (t2_2.1.Last.N)), .p (sW t2_2.1.Last.Words), .own 75, .p (bo (t2_2.1.Null))]), (13, rowV 75 (e4 (eI .u64)) t2_2.1.Classes), (29, rW 73 t8_2.Words), (75, rowV 25 e_api_Bits t2_2.1.Follow)], L0, []⟩) (by kernel_rfl) ?_
        refine WC.frz 29 (st' := ⟨[(2, .ptr 2 0), (3, .ptr 3 0), (4, .ptr 4 0), (6, .ptr 6 0), (8, .p (i6 (((a0.Classes.length : Int))))), (9, .p (i6 (((t2_2.1.Classes.length : Int)))))], [(2, .box 28 (vV2 a0)), (3, .box 28 (vV2 a1)), (4, .box 28 [.p (.sl .nil 0 []), .p (i6 (0)), .p (.sl .nil 0 []), .p (i6 (0)), .p (.sl .nil 0 []), .p (.sl .nil 0 []), .p (bo (false))]), (6, .box 28 [.own 13, .p (i6 (t8_2.N)), .p (sW t8_2.Words), .p (i6 (t2_2.1.Last.N)), .p (sW t2_2.1.Last.Words), .own 75, .p (bo (t2_2.1.Null))]), (13, rowV 75 (e4 (eI .u64)) t2_2.1.Classes), (75, rowV 25 e_api_Bits t2_2.1.Follow)], L0, []⟩) (by kernel_rfl) ?_
        exact WC.keep [2, 3, 4, 6, 8, 9] [2, 3, 4, 6, 13, 75] (by kernel_rfl) (hJ10 t8_2.N t8_2.Words h)
theorem riddleref10_Cat_okP {k : Nat} {a0 : api_Nfa} {a1 : api_Nfa} {r : api_Nfa × Int} (h : riddleref10_Cat k a0 a1 = some r) : Ans Tryd.prog 42 [pP2 a0, pP2 a1] (.tup [pP2 r.1, i6 (r.2)]) := AnsO.ans (args := [pP2 a0, pP2 a1]) (riddleref10_Cat_ok h) (by kernel_rfl)
def riddleref10_Alt (k : Nat) (a0 : api_Nfa) (a1 : api_Nfa) : Option (api_Nfa × Int) :=
  (riddleref10_side k a0 a1).bind fun t2_2 => (if (t2_2.2 != 0) = true then some ((api_Nfa.mk (([] : List (Arr4 Int))) ((api_Bits.mk 0 ([]))) ((api_Bits.mk 0 ([]))) (([] : List api_Bits)) false), t2_2.2) else (riddleref10_moved k a0.First 0 ((t2_2.1.Classes.length : Int))).bind fun t8_2 => (riddleref10_moved k a1.First ((a0.Classes.length : Int)) ((t2_2.1.Classes.length : Int))).bind fun t8_4 => (riddleref01_Or k t8_2 t8_4).bind fun t8_6 => (riddleref10_moved k a0.Last 0 ((t2_2.1.Classes.length : Int))).bind fun t9_2 => (riddleref10_moved k a1.Last ((a0.Classes.length : Int)) ((t2_2.1.Classes.length : Int))).bind fun t9_4 => (riddleref01_Or k t9_2 t9_4).bind fun t9_6 => some ((api_Nfa.mk t2_2.1.Classes t8_6 t9_6 t2_2.1.Follow ((a0.Null || a1.Null))), 0))
theorem riddleref10_Alt_ok {k : Nat} {a0 : api_Nfa} {a1 : api_Nfa} {r : api_Nfa × Int} (h : riddleref10_Alt k a0 a1 = some r) : AnsO Tryd.prog 43 [] [.p (pP2 a0), .p (pP2 a1)] [(13, rowV 75 (e4 (eI .u64)) r.1.Classes), (55, rowV 25 e_api_Bits r.1.Follow)] (.tup [.agg [.own 13, .p (i6 (r.1.First.N)), .p (sW r.1.First.Words), .p (i6 (r.1.Last.N)), .p (sW r.1.Last.Words), .own 55, .p (bo (r.1.Null))], .p (i6 (r.2))]) := by
  refine W_fnO [13, 55] Tryd.func43 rfl (by kernel_rfl) (by kernel_rfl) (by kernel_rfl) (by kernel_rfl) ?_
  intro X hro hn
  unfold riddleref10_Alt at h
  refine WC.rg hn [] [2, 3, 4] [2, 3, 4] ⟨[(2, .ptr 2 0), (3, .ptr 3 0), (4, .ptr 4 0)], [(2, .box 28 (vV2 a0)), (3, .box 28 (vV2 a1)), (4, .box 28 [.p (.sl .nil 0 []), .p (i6 (0)), .p (.sl .nil 0 []), .p (i6 (0)), .p (.sl .nil 0 []), .p (.sl .nil 0 []), .p (bo (false))])], L0, []⟩ trivial ?_
  refine WX.seq ?_
  obtain ⟨t2_2, h2_1, h⟩ := bind_some h
  refine WC.r1 hn [(2, .co [] [] [] [(13, rowV 75 (e4 (eI .u64)) t2_2.1.Classes), (55, rowV 25 e_api_Bits t2_2.1.Follow)] (.tup [.agg [.own 13, .p (i6 (t2_2.1.First.N)), .p (sW t2_2.1.First.Words), .p (i6 (t2_2.1.Last.N)), .p (sW t2_2.1.Last.Words), .own 55, .p (bo (t2_2.1.Null))], .p (i6 (t2_2.2))]))] [2, 3, 4, 6, 7] [2, 3, 4, 6, 13, 55] ⟨[(2, .ptr 2 0), (3, .ptr 3 0), (4, .ptr 4 0), (6, .ptr 6 0), (7, .p (i6 (t2_2.2)))], [(2, .box 28 (vV2 a0)), (3, .box 28 (vV2 a1)), (4, .box 28 [.p (.sl .nil 0 []), .p (i6 (0)), .p (.sl .nil 0 []), .p (i6 (0)), .p (.sl .nil 0 []), .p (.sl .nil 0 []), .p (bo (false))]), (6, .box 28 [.own 13, .p (i6 (t2_2.1.First.N)), .p (sW t2_2.1.First.Words), .p (i6 (t2_2.1.Last.N)), .p (sW t2_2.1.Last.Words), .own 55, .p (bo (t2_2.1.Null))]), (13, rowV 75 (e4 (eI .u64)) t2_2.1.Classes), (55, rowV 25 e_api_Bits t2_2.1.Follow)], L0, []⟩ (And.intro (And.intro ((riddleref10_side_ok h2_1).ren 36 13 (by kernel_rfl)) (trivial)) (trivial)) ?_
  refine WX.seq ?_
  refine WC.rg hn [] [2, 3, 4, 6, 7, 17] [2, 3, 4, 6, 13, 55] ⟨[(2, .ptr 2 0), (3, .ptr 3 0), (4, .ptr 4 0), (6, .ptr 6 0), (7, .p (i6 (t2_2.2))), (17, .p (bo (((t2_2.2 != 0)))))], [(2, .box 28 (vV2 a0)), (3, .box 28 (vV2 a1)), (4, .box 28 [.p (.sl .nil 0 []), .p (i6 (0)), .p (.sl .nil 0 []), .p (i6 (0)), .p (.sl .nil 0 []), .p (.sl .nil 0 []), .p (bo (false))]), (6, .box 28 [.own 13, .p (i6 (t2_2.1.First.N)), .p (sW t2_2.1.First.Words), .p (i6 (t2_2.1.Last.N)), .p (sW t2_2.1.Last.Words), .own 55, .p (bo (t2_2.1.Null))]), (13, rowV 75 (e4 (eI .u64)) t2_2.1.Classes), (55, rowV 25 e_api_Bits t2_2.1.Follow)], L0, []⟩ trivial ?_
  rcases if_or h with ⟨c4, h⟩ | ⟨c4, h⟩
  · refine WC.condT c4 (by kernel_rfl) ?_
    refine WC.rg hn [] [4, 5] [4] ⟨[(4, .ptr 4 0), (5, .p (i6 (t2_2.2)))], [(4, .box 28 [.p (.sl .nil 0 []), .p (i6 (0)), .p (.sl .nil 0 []), .p (i6 (0)), .p (.sl .nil 0 []), .p (.sl .nil 0 []), .p (bo (false))])], L0, []⟩ trivial ?_
    refine WX.ret ?_
    refine WC.nil hn [] (some (4, 0)) 13 75 4 (by kernel_rfl) [4, 5] [4, 13] (st' := ⟨[(4, .ptr 4 0), (5, .p (i6 (t2_2.2)))], [(4, .box 28 [.own 13, .p (i6 (0)), .p (.sl .nil 0 []), .p (i6 (0)), .p (.sl .nil 0 []), .p (.sl .nil 0 []), .p (bo (false))]), (13, rowV 75 (e4 (eI .u64)) (([] : List (Arr4 Int))))], L0, []⟩) (by kernel_rfl) ?_
    refine WC.nil hn [] (some (4, 5)) 55 25 2 (by kernel_rfl) [4, 5] [4, 13, 55] (st' := ⟨[(4, .ptr 4 0), (5, .p (i6 (t2_2.2)))], [(4, .box 28 [.own 13, .p (i6 (0)), .p (.sl .nil 0 []), .p (i6 (0)), .p (.sl .nil 0 []), .own 55, .p (bo (false))]), (13, rowV 75 (e4 (eI .u64)) (([] : List (Arr4 Int)))), (55, rowV 25 e_api_Bits (([] : List api_Bits)))], L0, []⟩) (by kernel_rfl) ?_
    exact WC.outO (by rw [← Option.some.inj h]; kernel_rfl)
  · refine WC.condF c4 (by kernel_rfl) ?_
    refine WX.skip ?_
    refine WC.rg hn [] [2, 3, 4, 6, 8] [2, 3, 4, 6, 13, 55] ⟨[(2, .ptr 2 0), (3, .ptr 3 0), (4, .ptr 4 0), (6, .ptr 6 0), (8, .p (i6 (((a0.Classes.length : Int)))))], [(2, .box 28 (vV2 a0)), (3, .box 28 (vV2 a1)), (4, .box 28 [.p (.sl .nil 0 []), .p (i6 (0)), .p (.sl .nil 0 []), .p (i6 (0)), .p (.sl .nil 0 []), .p (.sl .nil 0 []), .p (bo (false))]), (6, .box 28 [.own 13, .p (i6 (t2_2.1.First.N)), .p (sW t2_2.1.First.Words), .p (i6 (t2_2.1.Last.N)), .p (sW t2_2.1.Last.Words), .own 55, .p (bo (t2_2.1.Null))]), (13, rowV 75 (e4 (eI .u64)) t2_2.1.Classes), (55, rowV 25 e_api_Bits t2_2.1.Follow)], L0, []⟩ trivial ?_
    refine WC.rg hn [] [2, 3, 4, 6, 8, 9] [2, 3, 4, 6, 13, 55] ⟨[(2, .ptr 2 0), (3, .ptr 3 0), (4, .ptr 4 0), (6, .ptr 6 0), (8, .p (i6 (((a0.Classes.length : Int))))), (9, .p (i6 (((t2_2.1.Classes.length : Int)))))], [(2, .box 28 (vV2 a0)), (3, .box 28 (vV2 a1)), (4, .box 28 [.p (.sl .nil 0 []), .p (i6 (0)), .p (.sl .nil 0 []), .p (i6 (0)), .p (.sl .nil 0 []), .p (.sl .nil 0 []), .p (bo (false))]), (6, .box 28 [.own 13, .p (i6 (t2_2.1.First.N)), .p (sW t2_2.1.First.Words), .p (i6 (t2_2.1.Last.N)), .p (sW t2_2.1.Last.Words), .own 55, .p (bo (t2_2.1.Null))]), (13, rowV 75 (e4 (eI .u64)) t2_2.1.Classes), (55, rowV 25 e_api_Bits t2_2.1.Follow)], L0, []⟩ trivial ?_
    refine WX.seq ?_
    obtain ⟨t8_2, h8_1, h⟩ := bind_some h
    obtain ⟨t8_4, h8_3, h⟩ := bind_some h
    obtain ⟨t8_6, h8_5, h⟩ := bind_some h
    refine WC.drw hn [(11, [])] [] [(3, .resP (pP5 t8_2)), (8, .resP (pP5 t8_4)), (9, .resP (pP5 t8_6))] [2, 3, 4, 6, 8, 9] [2, 3, 4, 6, 13, 55] ⟨[(2, .ptr 2 0), (3, .ptr 3 0), (4, .ptr 4 0), (6, .ptr 6 0), (8, .p (i6 (((a0.Classes.length : Int))))), (9, .p (i6 (((t2_2.1.Classes.length : Int)))))], [(2, .box 28 (vV2 a0)), (3, .box 28 (vV2 a1)), (4, .box 28 [.p (.sl .nil 0 []), .p (i6 (0)), .p (.sl .nil 0 []), .p (i6 (0)), .p (.sl .nil 0 []), .p (.sl .nil 0 []), .p (bo (false))]), (6, .box 28 [.own 13, .p (i6 (t8_6.N)), .p (sW t8_6.Words), .p (i6 (t2_2.1.Last.N)), .p (sW t2_2.1.Last.Words), .own 55, .p (bo (t2_2.1.Null))]), (13, rowV 75 (e4 (eI .u64)) t2_2.1.Classes), (55, rowV 25 e_api_Bits t2_2.1.Follow)], L0, []⟩ (And.intro ((riddleref10_moved_okP h8_1)) (And.intro ((riddleref10_moved_okP h8_3)) (And.intro ((riddleref01_Or_okP h8_5)) (trivial)))) (by kernel_rfl) (by kernel_rfl) (by kernel_rfl) (by kernel_rfl) ?_
    refine WX.seq ?_
    obtain ⟨t9_2, h9_1, h⟩ := bind_some h
    obtain ⟨t9_4, h9_3, h⟩ := bind_some h
    obtain ⟨t9_6, h9_5, h⟩ := bind_some h
    refine WC.drw hn [(11, [])] [] [(3, .resP (pP5 t9_2)), (8, .resP (pP5 t9_4)), (9, .resP (pP5 t9_6))] [2, 3, 4, 6] [2, 3, 4, 6, 13, 55] ⟨[(2, .ptr 2 0), (3, .ptr 3 0), (4, .ptr 4 0), (6, .ptr 6 0)], [(2, .box 28 (vV2 a0)), (3, .box 28 (vV2 a1)), (4, .box 28 [.p (.sl .nil 0 []), .p (i6 (0)), .p (.sl .nil 0 []), .p (i6 (0)), .p (.sl .nil 0 []), .p (.sl .nil 0 []), .p (bo (false))]), (6, .box 28 [.own 13, .p (i6 (t8_6.N)), .p (sW t8_6.Words), .p (i6 (t9_6.N)), .p (sW t9_6.Words), .own 55, .p (bo (t2_2.1.Null))]), (13, rowV 75 (e4 (eI .u64)) t2_2.1.Classes), (55, rowV 25 e_api_Bits t2_2.1.Follow)], L0, []⟩ (And.intro ((riddleref10_moved_okP h9_1)) (And.intro ((riddleref10_moved_okP h9_3)) (And.intro ((riddleref01_Or_okP h9_5)) (trivial)))) (by kernel_rfl) (by kernel_rfl) (by kernel_rfl) (by kernel_rfl) ?_
    refine WX.seq ?_
    refine WC.via (α := Bool) (fun v10 => ⟨[(4, .ptr 4 0), (6, .ptr 6 0)], [(4, .box 28 [.p (.sl .nil 0 []), .p (i6 (0)), .p (.sl .nil 0 []), .p (i6 (0)), .p (.sl .nil 0 []), .p (.sl .nil 0 []), .p (bo (false))]), (6, .box 28 [.own 13, .p (i6 (t8_6.N)), .p (sW t8_6.Words), .p (i6 (t9_6.N)), .p (sW t9_6.Words), .own 55, .p (bo (v10))]), (13, rowV 75 (e4 (eI .u64)) t2_2.1.Classes), (55, rowV 25 e_api_Bits t2_2.1.Follow)], L0, []⟩) ((a0.Null || a1.Null)) (fun hk => ?_) ?_
    · rcases Bool.eq_false_or_eq_true a0.Null with b10_2 | b10_2
      · exact WC.reg hn [(2, .val (.p (bo (true))))] [4, 6] [4, 6, 13, 55] ⟨[(4, .ptr 4 0), (6, .ptr 6 0)], [(4, .box 28 [.p (.sl .nil 0 []), .p (i6 (0)), .p (.sl .nil 0 []), .p (i6 (0)), .p (.sl .nil 0 []), .p (.sl .nil 0 []), .p (bo (false))]), (6, .box 28 [.own 13, .p (i6 (t8_6.N)), .p (sW t8_6.Words), .p (i6 (t9_6.N)), .p (sW t9_6.Words), .own 55, .p (bo (true))]), (13, rowV 75 (e4 (eI .u64)) t2_2.1.Classes), (55, rowV 25 e_api_Bits t2_2.1.Follow)], L0, []⟩ (And.intro (Bl b10_2) (trivial)) (by kernel_rfl) (hk true (by first | (rw [b10_2]; rfl) | simp [b10_2]))
      · exact WC.reg hn [(2, .val (.p (bo (false))))] [4, 6] [4, 6, 13, 55] ⟨[(4, .ptr 4 0), (6, .ptr 6 0)], [(4, .box 28 [.p (.sl .nil 0 []), .p (i6 (0)), .p (.sl .nil 0 []), .p (i6 (0)), .p (.sl .nil 0 []), .p (.sl .nil 0 []), .p (bo (false))]), (6, .box 28 [.own 13, .p (i6 (t8_6.N)), .p (sW t8_6.Words), .p (i6 (t9_6.N)), .p (sW t9_6.Words), .own 55, .p (bo (a1.Null))]), (13, rowV 75 (e4 (eI .u64)) t2_2.1.Classes), (55, rowV 25 e_api_Bits t2_2.1.Follow)], L0, []⟩ (And.intro (Bl b10_2) (trivial)) (by kernel_rfl) (hk a1.Null (by first | (rw [b10_2]; rfl) | simp [b10_2]))
    refine WC.rg hn [] [4, 5] [4, 13, 55] ⟨[(4, .ptr 4 0), (5, .p (i6 (0)))], [(4, .box 28 [.own 13, .p (i6 (t8_6.N)), .p (sW t8_6.Words), .p (i6 (t9_6.N)), .p (sW t9_6.Words), .own 55, .p (bo (((a0.Null || a1.Null))))]), (13, rowV 75 (e4 (eI .u64)) t2_2.1.Classes), (55, rowV 25 e_api_Bits t2_2.1.Follow)], L0, []⟩ trivial ?_
    refine WX.ret ?_
    exact WC.outO (by rw [← Option.some.inj h]; kernel_rfl)
theorem riddleref10_Alt_okP {k : Nat} {a0 : api_Nfa} {a1 : api_Nfa} {r : api_Nfa × Int} (h : riddleref10_Alt k a0 a1 = some r) : Ans Tryd.prog 43 [pP2 a0, pP2 a1] (.tup [pP2 r.1, i6 (r.2)]) := AnsO.ans (args := [pP2 a0, pP2 a1]) (riddleref10_Alt_ok h) (by kernel_rfl)
def riddleref10_Star (k : Nat) (a0 : api_Nfa) : Option (api_Nfa × Int) :=
  (riddleref10_Empty k).bind fun t2_2 => (riddleref10_side k a0 t2_2).bind fun t2_4 => (if (t2_4.2 != 0) = true then some ((api_Nfa.mk ([]) ((api_Bits.mk 0 ([]))) ((api_Bits.mk 0 ([]))) (([] : List api_Bits)) false), t2_4.2) else (riddleref10_behind k ((api_Nfa.mk t2_4.1.Classes a0.First a0.Last t2_4.1.Follow true)) a0.Last a0.First).bind fun t10_2 => some (t10_2, 0))
theorem riddleref10_Star_ok {k : Nat} {a0 : api_Nfa} {r : api_Nfa × Int} (h : riddleref10_Star k a0 = some r) : AnsO Tryd.prog 44 [] [.p (pP2 a0)] [(27, rowV 25 e_api_Bits r.1.Follow)] (.tup [.agg [.p (sC r.1.Classes), .p (i6 (r.1.First.N)), .p (sW r.1.First.Words), .p (i6 (r.1.Last.N)), .p (sW r.1.Last.Words), .own 27, .p (bo (r.1.Null))], .p (i6 (r.2))]) := by
  refine W_fnO [27] Tryd.func44 rfl (by kernel_rfl) (by kernel_rfl) (by kernel_rfl) (by kernel_rfl) ?_
  intro X hro hn
  unfold riddleref10_Star at h
  refine WC.rg hn [] [1, 2] [1, 2] ⟨[(1, .ptr 1 0), (2, .ptr 2 0)], [(1, .box 28 (vV2 a0)), (2, .box 28 [.p (.sl .nil 0 []), .p (i6 (0)), .p (.sl .nil 0 []), .p (i6 (0)), .p (.sl .nil 0 []), .p (.sl .nil 0 []), .p (bo (false))])], L0, []⟩ trivial ?_
  refine WX.seq ?_
  obtain ⟨t2_2, h2_1, h⟩ := bind_some h
  obtain ⟨t2_4, h2_3, h⟩ := bind_some h
  have q2_1 := (riddleref10_Empty_okP h2_1)
  have q2_2 := And.intro (((riddleref10_side_ok h2_3).ren 36 9 (by kernel_rfl)).ren 55 28 (by kernel_rfl)) (trivial)
  refine WC.exp hn (by kernel_rfl) [(1, .resP (pP2 t2_2)), (2, .co [] [] [] [(9, rowV 75 (e4 (eI .u64)) t2_4.1.Classes), (28, rowV 25 e_api_Bits t2_4.1.Follow)] (.tup [.agg [.own 9, .p (i6 (t2_4.1.First.N)), .p (sW t2_4.1.First.Words), .p (i6 (t2_4.1.Last.N)), .p (sW t2_4.1.Last.Words), .own 28, .p (bo (t2_4.1.Null))], .p (i6 (t2_4.2))]))] [1, 2, 4, 5] [1, 2, 4, 9, 28] ⟨[(1, .ptr 1 0), (2, .ptr 2 0), (4, .ptr 4 0), (5, .p (i6 (t2_4.2)))], [(1, .box 28 (vV2 a0)), (2, .box 28 [.p (.sl .nil 0 []), .p (i6 (0)), .p (.sl .nil 0 []), .p (i6 (0)), .p (.sl .nil 0 []), .p (.sl .nil 0 []), .p (bo (false))]), (4, .box 28 [.own 9, .p (i6 (t2_4.1.First.N)), .p (sW t2_4.1.First.Words), .p (i6 (t2_4.1.Last.N)), .p (sW t2_4.1.Last.Words), .own 28, .p (bo (t2_4.1.Null))]), (9, rowV 75 (e4 (eI .u64)) t2_4.1.Classes), (28, rowV 25 e_api_Bits t2_4.1.Follow)], L0, []⟩ [0, 1, 2, 3, 7, 15, 31, 47, 63, 64, 65, 66, 67, 71, 79, 95, 111, 127, 223, 255, 511] 511 (by kernel_rfl) (by kernel_rfl) (by kernel_rfl) (And.intro q2_1 (And.intro q2_1 (And.intro q2_2 (And.intro q2_1 (And.intro q2_1 (And.intro q2_2 (trivial))))))) (by kernel_rfl) (by kernel_rfl) ?_
  refine WX.seq ?_
  refine WC.rg hn [] [1, 2, 4, 5, 13] [1, 2, 4, 9, 28] ⟨[(1, .ptr 1 0), (2, .ptr 2 0), (4, .ptr 4 0), (5, .p (i6 (t2_4.2))), (13, .p (bo (((t2_4.2 != 0)))))], [(1, .box 28 (vV2 a0)), (2, .box 28 [.p (.sl .nil 0 []), .p (i6 (0)), .p (.sl .nil 0 []), .p (i6 (0)), .p (.sl .nil 0 []), .p (.sl .nil 0 []), .p (bo (false))]), (4, .box 28 [.own 9, .p (i6 (t2_4.1.First.N)), .p (sW t2_4.1.First.Words), .p (i6 (t2_4.1.Last.N)), .p (sW t2_4.1.Last.Words), .own 28, .p (bo (t2_4.1.Null))]), (9, rowV 75 (e4 (eI .u64)) t2_4.1.Classes), (28, rowV 25 e_api_Bits t2_4.1.Follow)], L0, []⟩ trivial ?_
  rcases if_or h with ⟨c4, h⟩ | ⟨c4, h⟩
  · refine WC.condT c4 (by kernel_rfl) ?_
    refine WC.rg hn [] [2, 3] [2] ⟨[(2, .ptr 2 0), (3, .p (i6 (t2_4.2)))], [(2, .box 28 [.p (.sl .nil 0 []), .p (i6 (0)), .p (.sl .nil 0 []), .p (i6 (0)), .p (.sl .nil 0 []), .p (.sl .nil 0 []), .p (bo (false))])], L0, []⟩ trivial ?_
    refine WX.ret ?_
    refine WC.nil hn [] (some (2, 5)) 27 25 2 (by kernel_rfl) [2, 3] [2, 27] (st' := ⟨[(2, .ptr 2 0), (3, .p (i6 (t2_4.2)))], [(2, .box 28 [.p (.sl .nil 0 []), .p (i6 (0)), .p (.sl .nil 0 []), .p (i6 (0)), .p (.sl .nil 0 []), .own 27, .p (bo (false))]), (27, rowV 25 e_api_Bits (([] : List api_Bits)))], L0, []⟩) (by kernel_rfl) ?_
    exact WC.outO (by rw [← Option.some.inj h]; kernel_rfl)
  · refine WC.condF c4 (by kernel_rfl) ?_
    refine WX.skip ?_
    refine WC.rg hn [] [1, 2, 4] [1, 2, 4, 9, 28] ⟨[(1, .ptr 1 0), (2, .ptr 2 0), (4, .ptr 4 0)], [(1, .box 28 (vV2 a0)), (2, .box 28 [.p (.sl .nil 0 []), .p (i6 (0)), .p (.sl .nil 0 []), .p (i6 (0)), .p (.sl .nil 0 []), .p (.sl .nil 0 []), .p (bo (false))]), (4, .box 28 [.own 9, .p (i6 (a0.First.N)), .p (sW a0.First.Words), .p (i6 (t2_4.1.Last.N)), .p (sW t2_4.1.Last.Words), .own 28, .p (bo (t2_4.1.Null))]), (9, rowV 75 (e4 (eI .u64)) t2_4.1.Classes), (28, rowV 25 e_api_Bits t2_4.1.Follow)], L0, []⟩ trivial ?_
    refine WC.rg hn [] [1, 2, 4] [1, 2, 4, 9, 28] ⟨[(1, .ptr 1 0), (2, .ptr 2 0), (4, .ptr 4 0)], [(1, .box 28 (vV2 a0)), (2, .box 28 [.p (.sl .nil 0 []), .p (i6 (0)), .p (.sl .nil 0 []), .p (i6 (0)), .p (.sl .nil 0 []), .p (.sl .nil 0 []), .p (bo (false))]), (4, .box 28 [.own 9, .p (i6 (a0.First.N)), .p (sW a0.First.Words), .p (i6 (a0.Last.N)), .p (sW a0.Last.Words), .own 28, .p (bo (t2_4.1.Null))]), (9, rowV 75 (e4 (eI .u64)) t2_4.1.Classes), (28, rowV 25 e_api_Bits t2_4.1.Follow)], L0, []⟩ trivial ?_
    refine WC.rg hn [] [1, 2, 4] [1, 2, 4, 9, 28] ⟨[(1, .ptr 1 0), (2, .ptr 2 0), (4, .ptr 4 0)], [(1, .box 28 (vV2 a0)), (2, .box 28 [.p (.sl .nil 0 []), .p (i6 (0)), .p (.sl .nil 0 []), .p (i6 (0)), .p (.sl .nil 0 []), .p (.sl .nil 0 []), .p (bo (false))]), (4, .box 28 [.own 9, .p (i6 (a0.First.N)), .p (sW a0.First.Words), .p (i6 (a0.Last.N)), .p (sW a0.Last.Words), .own 28, .p (bo (true))]), (9, rowV 75 (e4 (eI .u64)) t2_4.1.Classes), (28, rowV 25 e_api_Bits t2_4.1.Follow)], L0, []⟩ trivial ?_
    refine WX.seq ?_
    refine WC.frz 9 (st' := ⟨[(1, .ptr 1 0), (2, .ptr 2 0), (4, .ptr 4 0)], [(1, .box 28 (vV2 a0)), (2, .box 28 [.p (.sl .nil 0 []), .p (i6 (0)), .p (.sl .nil 0 []), .p (i6 (0)), .p (.sl .nil 0 []), .p (.sl .nil 0 []), .p (bo (false))]), (4, .box 28 [.p (sC t2_4.1.Classes), .p (i6 (a0.First.N)), .p (sW a0.First.Words), .p (i6 (a0.Last.N)), .p (sW a0.Last.Words), .own 28, .p (bo (true))]), (28, rowV 25 e_api_Bits t2_4.1.Follow)], L0, []⟩) (by kernel_rfl) ?_
    obtain ⟨t10_2, h10_1, h⟩ := bind_some h
    refine WC.r1 hn [(5, .co [] [28] [] [(27, rowV 25 e_api_Bits t10_2.Follow)] (.agg [.p (sC t10_2.Classes), .p (i6 (t10_2.First.N)), .p (sW t10_2.First.Words), .p (i6 (t10_2.Last.N)), .p (sW t10_2.Last.Words), .own 27, .p (bo (t10_2.Null))]))] [2, 3] [2, 27] ⟨[(2, .ptr 2 0), (3, .p (i6 (0)))], [(2, .box 28 [.p (sC t10_2.Classes), .p (i6 (t10_2.First.N)), .p (sW t10_2.First.Words), .p (i6 (t10_2.Last.N)), .p (sW t10_2.Last.Words), .own 27, .p (bo (t10_2.Null))]), (27, rowV 25 e_api_Bits t10_2.Follow)], L0, []⟩ (And.intro (And.intro (((riddleref10_behind_ok h10_1).ren 1000 28 (by kernel_rfl)).ren 29 27 (by kernel_rfl)) (trivial)) (trivial)) ?_
    refine WX.ret ?_
    exact WC.outO (by rw [← Option.some.inj h]; kernel_rfl)
theorem riddleref10_Star_okP {k : Nat} {a0 : api_Nfa} {r : api_Nfa × Int} (h : riddleref10_Star k a0 = some r) : Ans Tryd.prog 44 [pP2 a0] (.tup [pP2 r.1, i6 (r.2)]) := AnsO.ans (args := [pP2 a0]) (riddleref10_Star_ok h) (by kernel_rfl)
end Go.Proofs.YtpifpjeeijhhdaaDoor
