/- YthmobmginjblhaaDoorGb: a part of the proof; see the last text for what is proved. -/
import Derived.Test.YthmobmginjblhaaDoorGa
import Derived.Test.YthmobmginjblhaaDoorProg
import Derived.KernelRfl
set_option maxRecDepth 100000
set_option linter.unusedVariables false
set_option linter.unusedSimpArgs false
namespace Go.Proofs.YthmobmginjblhaaDoor
open Go.AE
def riddleref13_Ends_l0 (a0 : api_Ring) (a1 : (List Int)) (a2 : (List Int)) (J5 : List Int → Option ((List Int))) : Nat → (List Int × Int × Int × List Int) → Option ((List Int))
  | 0, _ => none
  | k + 1, (x51_1_1, x51_1_2, x51_1_3, x51_2_1) => (if (decide (x51_1_2 ≤ (a2.length : Int))) = true then jn (fun (v98 : Int × List Int) => (riddleref13_has k a1 x51_1_2).bind fun t101_2 => jn (fun (v102 : Int × List Int) => (riddleref13_Accepts k a0 ((api_Bits.mk v102.1 v102.2))).bind fun t105_2 => (if t105_2 = true then (if okApp 8 (x51_1_1.length + ([x51_1_2]).length) then riddleref13_Ends_l0 a0 a1 a2 J5 k (x51_1_1 ++ ([x51_1_2]), (IntKind.i64.wrap (x51_1_2 + 1)), v102.1, v102.2) else none) else riddleref13_Ends_l0 a0 a1 a2 J5 k (x51_1_1, (IntKind.i64.wrap (x51_1_2 + 1)), v102.1, v102.2))) fun J102 => (if t101_2 = true then (riddleref13_Trigger k a0 ((api_Bits.mk v98.1 v98.2))).bind fun t111_2 => J102 (t111_2.N, t111_2.Words) else J102 (v98.1, v98.2))) fun J98 => (if (decide (x51_1_2 > 0)) = true then (at_ a2 ((IntKind.i64.wrap (x51_1_2 - 1)))).bind fun t113_2 => (riddleref13_Next k a0 ((api_Bits.mk x51_1_3 x51_2_1)) t113_2).bind fun t113_4 => J98 (t113_4.N, t113_4.Words) else J98 (x51_1_3, x51_2_1)) else J5 x51_1_1)
def riddleref13_Ends (k : Nat) (a0 : api_Ring) (a1 : (List Int)) (a2 : (List Int)) : Option ((List Int)) :=
  (riddleref13_None a0).bind fun t3_2 => jn (fun (v5 : List Int) => some v5) fun J5 => riddleref13_Ends_l0 a0 a1 a2 J5 k (([] : List Int), 0, t3_2.N, t3_2.Words)
theorem riddleref13_Ends_ok {k : Nat} {a0 : api_Ring} {a1 : (List Int)} {a2 : (List Int)} {r : (List Int)} (h : riddleref13_Ends k a0 a1 a2 = some r) : AnsO Tryd.prog 10 [] [.p (.agg [.s (.int .u64 a0.Class.a0), .s (.int .u64 a0.Class.a1), .s (.int .u64 a0.Class.a2), .s (.int .u64 a0.Class.a3), .s (.int .i64 a0.Least), .s (.int .i64 a0.Most)]), .p (slV (eI .i64) a1), .p (slV (eI .u8) a2)] [(40, rowV 3 (eI .i64) r)] (.own 40) := by
  refine W_fnO [40] Tryd.func10 rfl (by kernel_rfl) (by kernel_rfl) (by kernel_rfl) (by kernel_rfl) ?_
  intro X hro hn
  unfold riddleref13_Ends at h
  refine WX.seq ?_
  refine WC.reg (n := 42) (by assumption) [] [1, 2, 3] [3] ⟨[(1, .p (slV (eI .i64) a1)), (2, .p (slV (eI .u8) a2)), (3, .ptr 3 0)], [(3, .box 26 [.p (.s (.int .u64 a0.Class.a0)), .p (.s (.int .u64 a0.Class.a1)), .p (.s (.int .u64 a0.Class.a2)), .p (.s (.int .u64 a0.Class.a3)), .p (.s (.int .i64 a0.Least)), .p (.s (.int .i64 a0.Most))])], ⟨[], false⟩, []⟩ trivial (by kernel_rfl) ?_
  refine WX.seq ?_
  refine WC.reg (n := 42) (by assumption) [] [1, 2, 3, 7] [3] ⟨[(1, .p (slV (eI .i64) a1)), (2, .p (slV (eI .u8) a2)), (3, .ptr 3 0), (7, .p (.sl .nil 0 []))], [(3, .box 26 [.p (.s (.int .u64 a0.Class.a0)), .p (.s (.int .u64 a0.Class.a1)), .p (.s (.int .u64 a0.Class.a2)), .p (.s (.int .u64 a0.Class.a3)), .p (.s (.int .i64 a0.Least)), .p (.s (.int .i64 a0.Most))])], ⟨[], false⟩, []⟩ trivial (by kernel_rfl) ?_
  refine WX.seq ?_
  obtain ⟨t3_2, h3_1, h⟩ := bind_some h
  refine WC.reg (n := 42) (by assumption) [(1, .co [] [] [] [(11, rowV 22 (eI .u64) t3_2.Words)] (.agg [.p (.s (.int .i64 t3_2.N)), .own 11]))] [1, 2, 3, 7, 8] [3, 8, 11] ⟨[(1, .p (slV (eI .i64) a1)), (2, .p (slV (eI .u8) a2)), (3, .ptr 3 0), (7, .p (.sl .nil 0 [])), (8, .ptr 8 0)], [(3, .box 26 [.p (.s (.int .u64 a0.Class.a0)), .p (.s (.int .u64 a0.Class.a1)), .p (.s (.int .u64 a0.Class.a2)), .p (.s (.int .u64 a0.Class.a3)), .p (.s (.int .i64 a0.Least)), .p (.s (.int .i64 a0.Most))]), (8, .box 39 [.p (.s (.int .i64 t3_2.N)), .own 11]), (11, rowV 22 (eI .u64) t3_2.Words)], ⟨[], false⟩, []⟩ (And.intro (And.intro ((riddleref13_None_ok h3_1).ren 7 11 (by kernel_rfl)) (trivial)) (trivial)) (by kernel_rfl) ?_
  refine WX.seq ?_
  refine WX.seq ?_
  refine WC.reg (n := 42) (by assumption) [] [1, 2, 3, 7, 8, 9] [3, 8, 11] ⟨[(1, .p (slV (eI .i64) a1)), (2, .p (slV (eI .u8) a2)), (3, .ptr 3 0), (7, .p (.sl .nil 0 [])), (8, .ptr 8 0), (9, .p (.s (.int .i64 0)))], [(3, .box 26 [.p (.s (.int .u64 a0.Class.a0)), .p (.s (.int .u64 a0.Class.a1)), .p (.s (.int .u64 a0.Class.a2)), .p (.s (.int .u64 a0.Class.a3)), .p (.s (.int .i64 a0.Least)), .p (.s (.int .i64 a0.Most))]), (8, .box 39 [.p (.s (.int .i64 t3_2.N)), .own 11]), (11, rowV 22 (eI .u64) t3_2.Words)], ⟨[], false⟩, []⟩ trivial (by kernel_rfl) ?_
  obtain ⟨J5, eJ5, h⟩ := jn_some h
  try dsimp only at h
  refine WC.join (α := List Int) (fun v5 => ⟨[(7, .own 40)], [(40, rowV 3 (eI .i64) v5)], ⟨[], false⟩, []⟩) (fun v5 => J5 v5 = some r) ?_ (fun hJ5 => ?_)
  · rintro y5_1 h
    rw [eJ5] at h
    try dsimp only at h
    refine WX.seq ?_
    refine WC.reg (n := 42) (by assumption) [] [6] [40] ⟨[(6, .own 40)], [(40, rowV 3 (eI .i64) y5_1)], ⟨[], false⟩, []⟩ trivial (by kernel_rfl) ?_
    refine WX.ret ?_
    exact WC.outO (by rw [← Option.some.inj h]; kernel_rfl)
  · replace hJ5 := fun y5_1 => hJ5 y5_1
    refine WX.block ?_
    refine WC.nil (n := 42) (by assumption) [7] none 40 3 1 (by kernel_rfl) [1, 2, 3, 7, 8, 9] [3, 8, 11, 40] (st' := ⟨[(1, .p (slV (eI .i64) a1)), (2, .p (slV (eI .u8) a2)), (3, .ptr 3 0), (7, .own 40), (8, .ptr 8 0), (9, .p (.s (.int .i64 0)))], [(3, .box 26 [.p (.s (.int .u64 a0.Class.a0)), .p (.s (.int .u64 a0.Class.a1)), .p (.s (.int .u64 a0.Class.a2)), .p (.s (.int .u64 a0.Class.a3)), .p (.s (.int .i64 a0.Least)), .p (.s (.int .i64 a0.Most))]), (8, .box 39 [.p (.s (.int .i64 t3_2.N)), .own 11]), (11, rowV 22 (eI .u64) t3_2.Words), (40, rowV 3 (eI .i64) (([] : List Int)))], ⟨[], false⟩, []⟩) (by kernel_rfl) ?_
    refine WC.frz 11 (st' := ⟨[(1, .p (slV (eI .i64) a1)), (2, .p (slV (eI .u8) a2)), (3, .ptr 3 0), (7, .own 40), (8, .ptr 8 0), (9, .p (.s (.int .i64 0)))], [(3, .box 26 [.p (.s (.int .u64 a0.Class.a0)), .p (.s (.int .u64 a0.Class.a1)), .p (.s (.int .u64 a0.Class.a2)), .p (.s (.int .u64 a0.Class.a3)), .p (.s (.int .i64 a0.Least)), .p (.s (.int .i64 a0.Most))]), (8, .box 39 [.p (.s (.int .i64 t3_2.N)), .p (slV (eI .u64) t3_2.Words)]), (40, rowV 3 (eI .i64) (([] : List Int)))], ⟨[], false⟩, []⟩) (by kernel_rfl) ?_
    refine WC.loop (V := List Int × Int × Int × List Int) (riddleref13_Ends_l0 a0 a1 a2 J5) r (fun v51 => ⟨[(1, .p (slV (eI .i64) a1)), (2, .p (slV (eI .u8) a2)), (3, .ptr 3 0), (7, .own 40), (8, .ptr 8 0), (9, .p (.s (.int .i64 v51.2.1)))], [(3, .box 26 [.p (.s (.int .u64 a0.Class.a0)), .p (.s (.int .u64 a0.Class.a1)), .p (.s (.int .u64 a0.Class.a2)), .p (.s (.int .u64 a0.Class.a3)), .p (.s (.int .i64 a0.Least)), .p (.s (.int .i64 a0.Most))]), (8, .box 39 [.p (.s (.int .i64 v51.2.2.1)), .p (slV (eI .u64) v51.2.2.2)]), (40, rowV 3 (eI .i64) v51.1)], ⟨[], false⟩, []⟩) _ (([] : List Int), 0, t3_2.N, t3_2.Words) h (fun _ => rfl) [1, 2, 3, 7, 8, 9] [3, 8, 40] (by kernel_rfl) ?_
    clear h; rintro k ⟨x51_1_1, x51_1_2, x51_1_3, x51_2_1⟩ h K51 hnext51 hexit51
    rw [riddleref13_Ends_l0] at h
    refine WX.seq ?_
    refine WX.seq ?_
    refine WC.reg (n := 42) (by assumption) [] [1, 2, 3, 7, 8, 9, 15] [3, 8, 40] ⟨[(1, .p (slV (eI .i64) a1)), (2, .p (slV (eI .u8) a2)), (3, .ptr 3 0), (7, .own 40), (8, .ptr 8 0), (9, .p (.s (.int .i64 x51_1_2))), (15, .p (.s (.bool ((decide (x51_1_2 ≤ (a2.length : Int)))))))], [(3, .box 26 [.p (.s (.int .u64 a0.Class.a0)), .p (.s (.int .u64 a0.Class.a1)), .p (.s (.int .u64 a0.Class.a2)), .p (.s (.int .u64 a0.Class.a3)), .p (.s (.int .i64 a0.Least)), .p (.s (.int .i64 a0.Most))]), (8, .box 39 [.p (.s (.int .i64 x51_1_3)), .p (slV (eI .u64) x51_2_1)]), (40, rowV 3 (eI .i64) x51_1_1)], ⟨[], false⟩, []⟩ trivial (by kernel_rfl) ?_
    rcases if_or h with ⟨c96, h⟩ | ⟨c96, h⟩
    · refine WC.condT c96 (by kernel_rfl) ?_
      refine WX.skip ?_
      refine WX.seq ?_
      refine WX.block ?_
      refine WX.seq ?_
      refine WX.seq ?_
      refine WC.reg (n := 42) (by assumption) [] [1, 2, 3, 7, 8, 9, 19] [3, 8, 40] ⟨[(1, .p (slV (eI .i64) a1)), (2, .p (slV (eI .u8) a2)), (3, .ptr 3 0), (7, .own 40), (8, .ptr 8 0), (9, .p (.s (.int .i64 x51_1_2))), (19, .p (.s (.bool ((decide (x51_1_2 > 0))))))], [(3, .box 26 [.p (.s (.int .u64 a0.Class.a0)), .p (.s (.int .u64 a0.Class.a1)), .p (.s (.int .u64 a0.Class.a2)), .p (.s (.int .u64 a0.Class.a3)), .p (.s (.int .i64 a0.Least)), .p (.s (.int .i64 a0.Most))]), (8, .box 39 [.p (.s (.int .i64 x51_1_3)), .p (slV (eI .u64) x51_2_1)]), (40, rowV 3 (eI .i64) x51_1_1)], ⟨[], false⟩, []⟩ trivial (by kernel_rfl) ?_
      obtain ⟨J98, eJ98, h⟩ := jn_some h
      try dsimp only at h
      refine WC.join (α := Int × List Int) (fun v98 => ⟨[(1, .p (slV (eI .i64) a1)), (2, .p (slV (eI .u8) a2)), (3, .ptr 3 0), (7, .own 40), (8, .ptr 8 0), (9, .p (.s (.int .i64 x51_1_2)))], [(3, .box 26 [.p (.s (.int .u64 a0.Class.a0)), .p (.s (.int .u64 a0.Class.a1)), .p (.s (.int .u64 a0.Class.a2)), .p (.s (.int .u64 a0.Class.a3)), .p (.s (.int .i64 a0.Least)), .p (.s (.int .i64 a0.Most))]), (8, .box 39 [.p (.s (.int .i64 v98.1)), .p (slV (eI .u64) v98.2)]), (40, rowV 3 (eI .i64) x51_1_1)], ⟨[], false⟩, []⟩) (fun v98 => J98 v98 = some r) ?_ (fun hJ98 => ?_)
      · rintro ⟨y98_1, y98_2⟩ h
        rw [eJ98] at h
        try dsimp only at h
        refine WX.seq ?_
        refine WX.seq ?_
        obtain ⟨t101_2, h101_1, h⟩ := bind_some h
        refine WC.reg (n := 42) (by assumption) [(2, .resP (.s (.bool t101_2)))] [1, 2, 3, 7, 8, 9, 30] [3, 8, 40] ⟨[(1, .p (slV (eI .i64) a1)), (2, .p (slV (eI .u8) a2)), (3, .ptr 3 0), (7, .own 40), (8, .ptr 8 0), (9, .p (.s (.int .i64 x51_1_2))), (30, .p (.s (.bool t101_2)))], [(3, .box 26 [.p (.s (.int .u64 a0.Class.a0)), .p (.s (.int .u64 a0.Class.a1)), .p (.s (.int .u64 a0.Class.a2)), .p (.s (.int .u64 a0.Class.a3)), .p (.s (.int .i64 a0.Least)), .p (.s (.int .i64 a0.Most))]), (8, .box 39 [.p (.s (.int .i64 y98_1)), .p (slV (eI .u64) y98_2)]), (40, rowV 3 (eI .i64) x51_1_1)], ⟨[], false⟩, []⟩ (And.intro ((riddleref13_has_ok h101_1)) (trivial)) (by kernel_rfl) ?_
        obtain ⟨J102, eJ102, h⟩ := jn_some h
        try dsimp only at h
        refine WC.join (α := Int × List Int) (fun v102 => ⟨[(1, .p (slV (eI .i64) a1)), (2, .p (slV (eI .u8) a2)), (3, .ptr 3 0), (7, .own 40), (8, .ptr 8 0), (9, .p (.s (.int .i64 x51_1_2)))], [(3, .box 26 [.p (.s (.int .u64 a0.Class.a0)), .p (.s (.int .u64 a0.Class.a1)), .p (.s (.int .u64 a0.Class.a2)), .p (.s (.int .u64 a0.Class.a3)), .p (.s (.int .i64 a0.Least)), .p (.s (.int .i64 a0.Most))]), (8, .box 39 [.p (.s (.int .i64 v102.1)), .p (slV (eI .u64) v102.2)]), (40, rowV 3 (eI .i64) x51_1_1)], ⟨[], false⟩, []⟩) (fun v102 => J102 v102 = some r) ?_ (fun hJ102 => ?_)
        · rintro ⟨y102_1, y102_2⟩ h
          rw [eJ102] at h
          try dsimp only at h
          refine WX.seq ?_
          obtain ⟨t105_2, h105_1, h⟩ := bind_some h
          refine WC.reg (n := 42) (by assumption) [(2, .resP (.s (.bool t105_2)))] [1, 2, 3, 7, 8, 9, 36] [3, 8, 40] ⟨[(1, .p (slV (eI .i64) a1)), (2, .p (slV (eI .u8) a2)), (3, .ptr 3 0), (7, .own 40), (8, .ptr 8 0), (9, .p (.s (.int .i64 x51_1_2))), (36, .p (.s (.bool t105_2)))], [(3, .box 26 [.p (.s (.int .u64 a0.Class.a0)), .p (.s (.int .u64 a0.Class.a1)), .p (.s (.int .u64 a0.Class.a2)), .p (.s (.int .u64 a0.Class.a3)), .p (.s (.int .i64 a0.Least)), .p (.s (.int .i64 a0.Most))]), (8, .box 39 [.p (.s (.int .i64 y102_1)), .p (slV (eI .u64) y102_2)]), (40, rowV 3 (eI .i64) x51_1_1)], ⟨[], false⟩, []⟩ (And.intro ((riddleref13_Accepts_ok h105_1)) (trivial)) (by kernel_rfl) ?_
          rcases if_or h with ⟨c106, h⟩ | ⟨c106, h⟩
          · refine WC.condT c106 (by kernel_rfl) ?_
            obtain ⟨c107_1, h⟩ := if_some h
            refine WC.reg (n := 42) (by assumption) [(3, .app (some 40) (rowV 3 (eI .i64) (x51_1_1 ++ ([x51_1_2]))))] [1, 2, 3, 7, 8, 9] [3, 8, 40] ⟨[(1, .p (slV (eI .i64) a1)), (2, .p (slV (eI .u8) a2)), (3, .ptr 3 0), (7, .own 40), (8, .ptr 8 0), (9, .p (.s (.int .i64 x51_1_2)))], [(3, .box 26 [.p (.s (.int .u64 a0.Class.a0)), .p (.s (.int .u64 a0.Class.a1)), .p (.s (.int .u64 a0.Class.a2)), .p (.s (.int .u64 a0.Class.a3)), .p (.s (.int .i64 a0.Least)), .p (.s (.int .i64 a0.Most))]), (8, .box 39 [.p (.s (.int .i64 y102_1)), .p (slV (eI .u64) y102_2)]), (40, rowV 3 (eI .i64) (x51_1_1 ++ ([x51_1_2])))], ⟨[], false⟩, []⟩ (And.intro (Ap (eI .i64) (some 40) 3 8 1 x51_1_1 ([x51_1_2]) c107_1) (trivial)) (by kernel_rfl) ?_
            refine WX.popBlk ?_
            refine WC.reg (n := 42) (by assumption) [] [1, 2, 3, 7, 8, 9] [3, 8, 40] ⟨[(1, .p (slV (eI .i64) a1)), (2, .p (slV (eI .u8) a2)), (3, .ptr 3 0), (7, .own 40), (8, .ptr 8 0), (9, .p (.s (.int .i64 ((IntKind.i64.wrap (x51_1_2 + 1))))))], [(3, .box 26 [.p (.s (.int .u64 a0.Class.a0)), .p (.s (.int .u64 a0.Class.a1)), .p (.s (.int .u64 a0.Class.a2)), .p (.s (.int .u64 a0.Class.a3)), .p (.s (.int .i64 a0.Least)), .p (.s (.int .i64 a0.Most))]), (8, .box 39 [.p (.s (.int .i64 y102_1)), .p (slV (eI .u64) y102_2)]), (40, rowV 3 (eI .i64) (x51_1_1 ++ ([x51_1_2])))], ⟨[], false⟩, []⟩ trivial (by kernel_rfl) ?_
            exact WC.next [1, 2, 3, 7, 8, 9] [3, 8, 40] (by kernel_rfl) (hnext51 (x51_1_1 ++ ([x51_1_2]), (IntKind.i64.wrap (x51_1_2 + 1)), y102_1, y102_2) h)
          · refine WC.condF c106 (by kernel_rfl) ?_
            refine WX.skip ?_
            refine WX.popBlk ?_
            refine WC.reg (n := 42) (by assumption) [] [1, 2, 3, 7, 8, 9] [3, 8, 40] ⟨[(1, .p (slV (eI .i64) a1)), (2, .p (slV (eI .u8) a2)), (3, .ptr 3 0), (7, .own 40), (8, .ptr 8 0), (9, .p (.s (.int .i64 ((IntKind.i64.wrap (x51_1_2 + 1))))))], [(3, .box 26 [.p (.s (.int .u64 a0.Class.a0)), .p (.s (.int .u64 a0.Class.a1)), .p (.s (.int .u64 a0.Class.a2)), .p (.s (.int .u64 a0.Class.a3)), .p (.s (.int .i64 a0.Least)), .p (.s (.int .i64 a0.Most))]), (8, .box 39 [.p (.s (.int .i64 y102_1)), .p (slV (eI .u64) y102_2)]), (40, rowV 3 (eI .i64) x51_1_1)], ⟨[], false⟩, []⟩ trivial (by kernel_rfl) ?_
            exact WC.next [1, 2, 3, 7, 8, 9] [3, 8, 40] (by kernel_rfl) (hnext51 (x51_1_1, (IntKind.i64.wrap (x51_1_2 + 1)), y102_1, y102_2) h)
        · replace hJ102 := fun y102_1 y102_2 => hJ102 (y102_1, y102_2)
          rcases if_or h with ⟨c110, h⟩ | ⟨c110, h⟩
          · refine WC.condT c110 (by kernel_rfl) ?_
            obtain ⟨t111_2, h111_1, h⟩ := bind_some h
            refine WC.reg (n := 42) (by assumption) [(2, .co [] [] [] [(33, rowV 22 (eI .u64) t111_2.Words)] (.agg [.p (.s (.int .i64 t111_2.N)), .own 33]))] [1, 2, 3, 7, 8, 9] [3, 8, 33, 40] ⟨[(1, .p (slV (eI .i64) a1)), (2, .p (slV (eI .u8) a2)), (3, .ptr 3 0), (7, .own 40), (8, .ptr 8 0), (9, .p (.s (.int .i64 x51_1_2)))], [(3, .box 26 [.p (.s (.int .u64 a0.Class.a0)), .p (.s (.int .u64 a0.Class.a1)), .p (.s (.int .u64 a0.Class.a2)), .p (.s (.int .u64 a0.Class.a3)), .p (.s (.int .i64 a0.Least)), .p (.s (.int .i64 a0.Most))]), (8, .box 39 [.p (.s (.int .i64 t111_2.N)), .own 33]), (33, rowV 22 (eI .u64) t111_2.Words), (40, rowV 3 (eI .i64) x51_1_1)], ⟨[], false⟩, []⟩ (And.intro (And.intro ((riddleref13_Trigger_ok h111_1).ren 8 33 (by kernel_rfl)) (trivial)) (trivial)) (by kernel_rfl) ?_
            refine WC.frz 33 (st' := ⟨[(1, .p (slV (eI .i64) a1)), (2, .p (slV (eI .u8) a2)), (3, .ptr 3 0), (7, .own 40), (8, .ptr 8 0), (9, .p (.s (.int .i64 x51_1_2)))], [(3, .box 26 [.p (.s (.int .u64 a0.Class.a0)), .p (.s (.int .u64 a0.Class.a1)), .p (.s (.int .u64 a0.Class.a2)), .p (.s (.int .u64 a0.Class.a3)), .p (.s (.int .i64 a0.Least)), .p (.s (.int .i64 a0.Most))]), (8, .box 39 [.p (.s (.int .i64 t111_2.N)), .p (slV (eI .u64) t111_2.Words)]), (40, rowV 3 (eI .i64) x51_1_1)], ⟨[], false⟩, []⟩) (by kernel_rfl) ?_
            exact WC.keep [1, 2, 3, 7, 8, 9] [3, 8, 40] (by kernel_rfl) (hJ102 t111_2.N t111_2.Words h)
          · refine WC.condF c110 (by kernel_rfl) ?_
            refine WX.skip ?_
            exact WC.keep [1, 2, 3, 7, 8, 9] [3, 8, 40] (by kernel_rfl) (hJ102 y98_1 y98_2 h)
      · replace hJ98 := fun y98_1 y98_2 => hJ98 (y98_1, y98_2)
        rcases if_or h with ⟨c112, h⟩ | ⟨c112, h⟩
        · refine WC.condT c112 (by kernel_rfl) ?_
          obtain ⟨t113_2, h113_1, h⟩ := bind_some h
          obtain ⟨t113_4, h113_3, h⟩ := bind_some h
          refine WC.drw (n := 42) (by assumption) [(8, [])] [] [(5, .val (.p (.rop ((eI .u8).cells t113_2 ++ encL (eI .u8) (a2.drop (((IntKind.i64.wrap (x51_1_2 - 1))).toNat + 1)))))), (7, .resP (.agg [.s (.int .i64 t113_4.N), slV (eI .u64) t113_4.Words]))] [1, 2, 3, 7, 8, 9] [3, 8, 40] ⟨[(1, .p (slV (eI .i64) a1)), (2, .p (slV (eI .u8) a2)), (3, .ptr 3 0), (7, .own 40), (8, .ptr 8 0), (9, .p (.s (.int .i64 x51_1_2)))], [(3, .box 26 [.p (.s (.int .u64 a0.Class.a0)), .p (.s (.int .u64 a0.Class.a1)), .p (.s (.int .u64 a0.Class.a2)), .p (.s (.int .u64 a0.Class.a3)), .p (.s (.int .i64 a0.Least)), .p (.s (.int .i64 a0.Most))]), (8, .box 39 [.p (.s (.int .i64 t113_4.N)), .p (slV (eI .u64) t113_4.Words)]), (40, rowV 3 (eI .i64) x51_1_1)], ⟨[], false⟩, []⟩ (And.intro (Ix (eI .u8) h113_1) (And.intro ((riddleref13_Next_okP h113_3)) (trivial))) (by kernel_rfl) (by kernel_rfl) (by kernel_rfl) (by kernel_rfl) ?_
          exact WC.keep [1, 2, 3, 7, 8, 9] [3, 8, 40] (by kernel_rfl) (hJ98 t113_4.N t113_4.Words h)
        · refine WC.condF c112 (by kernel_rfl) ?_
          refine WX.skip ?_
          exact WC.keep [1, 2, 3, 7, 8, 9] [3, 8, 40] (by kernel_rfl) (hJ98 x51_1_3 x51_2_1 h)
    · refine WC.condF c96 (by kernel_rfl) ?_
      refine WX.exit ?_
      refine WX.popCodeExit ?_
      refine WC.exit_nil (hexit51 _ _ (by simp) ?_)
      refine WX.popBlkHit ?_
      exact WC.keep [7] [40] (by kernel_rfl) (hJ5 x51_1_1 h)
theorem riddleref13_Ends_okP {k : Nat} {a0 : api_Ring} {a1 : (List Int)} {a2 : (List Int)} {r : (List Int)} (h : riddleref13_Ends k a0 a1 a2 = some r) : Ans Tryd.prog 10 [.agg [.s (.int .u64 a0.Class.a0), .s (.int .u64 a0.Class.a1), .s (.int .u64 a0.Class.a2), .s (.int .u64 a0.Class.a3), .s (.int .i64 a0.Least), .s (.int .i64 a0.Most)], slV (eI .i64) a1, slV (eI .u8) a2] (slV (eI .i64) r) := AnsO.ans (args := [.agg [.s (.int .u64 a0.Class.a0), .s (.int .u64 a0.Class.a1), .s (.int .u64 a0.Class.a2), .s (.int .u64 a0.Class.a3), .s (.int .i64 a0.Least), .s (.int .i64 a0.Most)], slV (eI .i64) a1, slV (eI .u8) a2]) (riddleref13_Ends_ok h) (by kernel_rfl)
def riddlelaw13_RingEnds (k : Nat) (a0 : api_Ring) (a1 : (List Int)) (a2 : (List Int)) : Option (Bool) :=
  (riddlelaw13_live k).bind fun t2_2 => (if (!t2_2) = true then some false else (if (0 : Int) ≤ 0 ∧ 0 ≤ (minI ((a2.length : Int)) 60) ∧ (minI ((a2.length : Int)) 60) ≤ (a2.length : Nat) then (riddlelaw13_ends k a0 a1 (sub_ a2 0 ((minI ((a2.length : Int)) 60)))).bind fun t6_2 => (riddleref13_Ends k a0 a1 (sub_ a2 0 ((minI ((a2.length : Int)) 60)))).bind fun t6_4 => (slices_Equal_int_int k t6_2 t6_4).bind fun t6_6 => some t6_6 else none))
theorem riddlelaw13_RingEnds_ok {k : Nat} {a0 : api_Ring} {a1 : (List Int)} {a2 : (List Int)} {r : Bool} (h : riddlelaw13_RingEnds k a0 a1 a2 = some r) : Ans Tryd.prog 3 [.agg [.s (.int .u64 a0.Class.a0), .s (.int .u64 a0.Class.a1), .s (.int .u64 a0.Class.a2), .s (.int .u64 a0.Class.a3), .s (.int .i64 a0.Least), .s (.int .i64 a0.Most)], slV (eI .i64) a1, slV (eI .u8) a2] (.s (.bool r)) := by
  refine W_fn Tryd.func3 rfl (by kernel_rfl) (by kernel_rfl) ?_
  intro X hro hn
  unfold riddlelaw13_RingEnds at h
  refine WX.seq ?_
  refine WC.reg (n := 23) (by assumption) [] [1, 2, 3] [3] ⟨[(1, .p (slV (eI .i64) a1)), (2, .p (slV (eI .u8) a2)), (3, .ptr 3 0)], [(3, .box 26 [.p (.s (.int .u64 a0.Class.a0)), .p (.s (.int .u64 a0.Class.a1)), .p (.s (.int .u64 a0.Class.a2)), .p (.s (.int .u64 a0.Class.a3)), .p (.s (.int .i64 a0.Least)), .p (.s (.int .i64 a0.Most))])], ⟨[], false⟩, []⟩ trivial (by kernel_rfl) ?_
  refine WX.seq ?_
  refine WX.seq ?_
  obtain ⟨t2_2, h2_1, h⟩ := bind_some h
  refine WC.reg (n := 23) (by assumption) [(0, .resP (.s (.bool t2_2)))] [1, 2, 3, 8] [3] ⟨[(1, .p (slV (eI .i64) a1)), (2, .p (slV (eI .u8) a2)), (3, .ptr 3 0), (8, .p (.s (.bool ((!t2_2)))))], [(3, .box 26 [.p (.s (.int .u64 a0.Class.a0)), .p (.s (.int .u64 a0.Class.a1)), .p (.s (.int .u64 a0.Class.a2)), .p (.s (.int .u64 a0.Class.a3)), .p (.s (.int .i64 a0.Least)), .p (.s (.int .i64 a0.Most))])], ⟨[], false⟩, []⟩ (And.intro ((riddlelaw13_live_ok h2_1)) (trivial)) (by kernel_rfl) ?_
  rcases if_or h with ⟨c3, h⟩ | ⟨c3, h⟩
  · refine WC.condT c3 (by kernel_rfl) ?_
    refine WX.seq ?_
    refine WC.reg (n := 23) (by assumption) [] [6] [] ⟨[(6, .p (.s (.bool false)))], [], ⟨[], false⟩, []⟩ trivial (by kernel_rfl) ?_
    refine WX.ret ?_
    exact WC.outP (by rw [← Option.some.inj h]; kernel_rfl)
  · refine WC.condF c3 (by kernel_rfl) ?_
    refine WX.skip ?_
    refine WX.seq ?_
    obtain ⟨c5_1, h⟩ := if_some h
    refine WC.reg (n := 23) (by assumption) [(4, .val (.p (slV (eI .u8) (sub_ a2 0 ((minI ((a2.length : Int)) 60))))))] [1, 2, 3] [3] ⟨[(1, .p (slV (eI .i64) a1)), (2, .p (slV (eI .u8) (sub_ a2 0 ((minI ((a2.length : Int)) 60))))), (3, .ptr 3 0)], [(3, .box 26 [.p (.s (.int .u64 a0.Class.a0)), .p (.s (.int .u64 a0.Class.a1)), .p (.s (.int .u64 a0.Class.a2)), .p (.s (.int .u64 a0.Class.a3)), .p (.s (.int .i64 a0.Least)), .p (.s (.int .i64 a0.Most))])], ⟨[], false⟩, []⟩ (And.intro (Sl (eI .u8) a2 0 ((minI ((a2.length : Int)) 60)) c5_1) (trivial)) (by kernel_rfl) ?_
    refine WX.seq ?_
    obtain ⟨t6_2, h6_1, h⟩ := bind_some h
    obtain ⟨t6_4, h6_3, h⟩ := bind_some h
    obtain ⟨t6_6, h6_5, h⟩ := bind_some h
    refine WC.drw (n := 23) (by assumption) [] [] [(3, .resP (slV (eI .i64) t6_2)), (7, .resP (slV (eI .i64) t6_4)), (8, .resP (.s (.bool t6_6)))] [6] [] ⟨[(6, .p (.s (.bool t6_6)))], [], ⟨[], false⟩, []⟩ (And.intro ((riddlelaw13_ends_okP h6_1)) (And.intro ((riddleref13_Ends_okP h6_3)) (And.intro ((slices_Equal_int_int_ok h6_5)) (trivial)))) (by kernel_rfl) (by kernel_rfl) (by kernel_rfl) (by kernel_rfl) ?_
    refine WX.ret ?_
    exact WC.outP (by rw [← Option.some.inj h]; kernel_rfl)
def riddlelaw13_RingIs_l1 (a0 : api_Ring) (a1 : (List Int)) (a2 : (List Int)) (x57_1_1 : Int) (J107 : Bool → Option (Bool)) : Nat → (Bool × Bool × Int) → Option (Bool)
  | 0, _ => none
  | k + 1, (x123_1_1, x123_1_2, x123_1_3) => (if (((decide (x123_1_3 ≥ 0))) && x123_1_2) = true then ((if x123_1_1 = true then some true else (if (decide ((IntKind.i64.wrap (x57_1_1 - x123_1_3)) ≥ a0.Least)) = true then (if (decide ((IntKind.i64.wrap (x57_1_1 - x123_1_3)) ≤ a0.Most)) = true then (slices_Contains_int_int k a1 x123_1_3).bind fun t136_2 => some t136_2 else some false) else some false)) : Option (Bool)).bind fun v136 => ((if (decide (x123_1_3 > 0)) = true then (at_ (sub_ a2 0 ((minI ((a2.length : Int)) 60))) ((IntKind.i64.wrap (x123_1_3 - 1)))).bind fun t137_2 => (riddleref02_Has a0.Class t137_2).bind fun t137_4 => some t137_4 else some false) : Option (Bool)).bind fun v137 => riddlelaw13_RingIs_l1 a0 a1 a2 x57_1_1 J107 k (v136, v137, (IntKind.i64.wrap (x123_1_3 - 1))) else J107 x123_1_1)
def riddlelaw13_RingIs_l0 (a0 : api_Ring) (a1 : (List Int)) (a2 : (List Int)) (t9_2 : (List Int)) (J11 : Unit → Option (Bool)) : Nat → Int → Option (Bool)
  | 0, _ => none
  | k + 1, x57_1_1 => (if (decide (x57_1_1 < (IntKind.i64.wrap (((sub_ a2 0 ((minI ((a2.length : Int)) 60))).length : Int) + 1)))) = true then jn (fun (v107 : Bool) => (slices_Contains_int_int k t9_2 x57_1_1).bind fun t119_2 => (if (v107 != t119_2) = true then some false else riddlelaw13_RingIs_l0 a0 a1 a2 t9_2 J11 k ((IntKind.i64.wrap (x57_1_1 + 1))))) fun J107 => riddlelaw13_RingIs_l1 a0 a1 a2 x57_1_1 J107 k (false, true, x57_1_1) else J11 ())
def riddlelaw13_RingIs (k : Nat) (a0 : api_Ring) (a1 : (List Int)) (a2 : (List Int)) : Option (Bool) :=
  (riddlelaw13_live k).bind fun t2_2 => (if (!t2_2) = true then some false else (ring_Check a0).bind fun t5_2 => (if (t5_2 != 0) = true then some true else (if (0 : Int) ≤ 0 ∧ 0 ≤ (minI ((a2.length : Int)) 60) ∧ (minI ((a2.length : Int)) 60) ≤ (a2.length : Nat) then (riddlelaw13_ends k a0 a1 (sub_ a2 0 ((minI ((a2.length : Int)) 60)))).bind fun t9_2 => jn (fun (v11 : Unit) => some true) fun J11 => riddlelaw13_RingIs_l0 a0 a1 a2 t9_2 J11 k 0 else none)))
theorem riddlelaw13_RingIs_ok {k : Nat} {a0 : api_Ring} {a1 : (List Int)} {a2 : (List Int)} {r : Bool} (h : riddlelaw13_RingIs k a0 a1 a2 = some r) : Ans Tryd.prog 4 [.agg [.s (.int .u64 a0.Class.a0), .s (.int .u64 a0.Class.a1), .s (.int .u64 a0.Class.a2), .s (.int .u64 a0.Class.a3), .s (.int .i64 a0.Least), .s (.int .i64 a0.Most)], slV (eI .i64) a1, slV (eI .u8) a2] (.s (.bool r)) := by
  refine W_fn Tryd.func4 rfl (by kernel_rfl) (by kernel_rfl) ?_
  intro X hro hn
  unfold riddlelaw13_RingIs at h
  refine WX.seq ?_
  refine WC.reg (n := 80) (by assumption) [] [1, 2, 3] [3] ⟨[(1, .p (slV (eI .i64) a1)), (2, .p (slV (eI .u8) a2)), (3, .ptr 3 0)], [(3, .box 26 [.p (.s (.int .u64 a0.Class.a0)), .p (.s (.int .u64 a0.Class.a1)), .p (.s (.int .u64 a0.Class.a2)), .p (.s (.int .u64 a0.Class.a3)), .p (.s (.int .i64 a0.Least)), .p (.s (.int .i64 a0.Most))])], ⟨[], false⟩, []⟩ trivial (by kernel_rfl) ?_
  refine WX.seq ?_
  refine WX.seq ?_
  obtain ⟨t2_2, h2_1, h⟩ := bind_some h
  refine WC.reg (n := 80) (by assumption) [(0, .resP (.s (.bool t2_2)))] [1, 2, 3, 13] [3] ⟨[(1, .p (slV (eI .i64) a1)), (2, .p (slV (eI .u8) a2)), (3, .ptr 3 0), (13, .p (.s (.bool ((!t2_2)))))], [(3, .box 26 [.p (.s (.int .u64 a0.Class.a0)), .p (.s (.int .u64 a0.Class.a1)), .p (.s (.int .u64 a0.Class.a2)), .p (.s (.int .u64 a0.Class.a3)), .p (.s (.int .i64 a0.Least)), .p (.s (.int .i64 a0.Most))])], ⟨[], false⟩, []⟩ (And.intro ((riddlelaw13_live_ok h2_1)) (trivial)) (by kernel_rfl) ?_
  rcases if_or h with ⟨c3, h⟩ | ⟨c3, h⟩
  · refine WC.condT c3 (by kernel_rfl) ?_
    refine WX.seq ?_
    refine WC.reg (n := 80) (by assumption) [] [6] [] ⟨[(6, .p (.s (.bool false)))], [], ⟨[], false⟩, []⟩ trivial (by kernel_rfl) ?_
    refine WX.ret ?_
    exact WC.outP (by rw [← Option.some.inj h]; kernel_rfl)
  · refine WC.condF c3 (by kernel_rfl) ?_
    refine WX.skip ?_
    refine WX.seq ?_
    refine WX.seq ?_
    obtain ⟨t5_2, h5_1, h⟩ := bind_some h
    refine WC.reg (n := 80) (by assumption) [(1, .resP (.s (.int .i64 t5_2)))] [1, 2, 3, 16] [3] ⟨[(1, .p (slV (eI .i64) a1)), (2, .p (slV (eI .u8) a2)), (3, .ptr 3 0), (16, .p (.s (.bool ((t5_2 != 0)))))], [(3, .box 26 [.p (.s (.int .u64 a0.Class.a0)), .p (.s (.int .u64 a0.Class.a1)), .p (.s (.int .u64 a0.Class.a2)), .p (.s (.int .u64 a0.Class.a3)), .p (.s (.int .i64 a0.Least)), .p (.s (.int .i64 a0.Most))])], ⟨[], false⟩, []⟩ (And.intro ((ring_Check_ok h5_1)) (trivial)) (by kernel_rfl) ?_
    rcases if_or h with ⟨c6, h⟩ | ⟨c6, h⟩
    · refine WC.condT c6 (by kernel_rfl) ?_
      refine WX.seq ?_
      refine WC.reg (n := 80) (by assumption) [] [6] [] ⟨[(6, .p (.s (.bool true)))], [], ⟨[], false⟩, []⟩ trivial (by kernel_rfl) ?_
      refine WX.ret ?_
      exact WC.outP (by rw [← Option.some.inj h]; kernel_rfl)
    · refine WC.condF c6 (by kernel_rfl) ?_
      refine WX.skip ?_
      refine WX.seq ?_
      obtain ⟨c8_1, h⟩ := if_some h
      refine WC.reg (n := 80) (by assumption) [(4, .val (.p (slV (eI .u8) (sub_ a2 0 ((minI ((a2.length : Int)) 60))))))] [1, 2, 3] [3] ⟨[(1, .p (slV (eI .i64) a1)), (2, .p (slV (eI .u8) (sub_ a2 0 ((minI ((a2.length : Int)) 60))))), (3, .ptr 3 0)], [(3, .box 26 [.p (.s (.int .u64 a0.Class.a0)), .p (.s (.int .u64 a0.Class.a1)), .p (.s (.int .u64 a0.Class.a2)), .p (.s (.int .u64 a0.Class.a3)), .p (.s (.int .i64 a0.Least)), .p (.s (.int .i64 a0.Most))])], ⟨[], false⟩, []⟩ (And.intro (Sl (eI .u8) a2 0 ((minI ((a2.length : Int)) 60)) c8_1) (trivial)) (by kernel_rfl) ?_
      refine WX.seq ?_
      obtain ⟨t9_2, h9_1, h⟩ := bind_some h
      refine WC.reg (n := 80) (by assumption) [(3, .co [] [] [] [(25, rowV 3 (eI .i64) t9_2)] (.own 25))] [1, 2, 3, 7] [3, 25] ⟨[(1, .p (slV (eI .i64) a1)), (2, .p (slV (eI .u8) (sub_ a2 0 ((minI ((a2.length : Int)) 60))))), (3, .ptr 3 0), (7, .own 25)], [(3, .box 26 [.p (.s (.int .u64 a0.Class.a0)), .p (.s (.int .u64 a0.Class.a1)), .p (.s (.int .u64 a0.Class.a2)), .p (.s (.int .u64 a0.Class.a3)), .p (.s (.int .i64 a0.Least)), .p (.s (.int .i64 a0.Most))]), (25, rowV 3 (eI .i64) t9_2)], ⟨[], false⟩, []⟩ (And.intro (And.intro ((riddlelaw13_ends_ok h9_1).ren 21 25 (by kernel_rfl)) (trivial)) (trivial)) (by kernel_rfl) ?_
      refine WX.seq ?_
      refine WX.seq ?_
      refine WC.reg (n := 80) (by assumption) [] [1, 2, 3, 7, 28, 29] [3, 25] ⟨[(1, .p (slV (eI .i64) a1)), (2, .p (slV (eI .u8) (sub_ a2 0 ((minI ((a2.length : Int)) 60))))), (3, .ptr 3 0), (7, .own 25), (28, .p (.s (.int .i64 ((IntKind.i64.wrap (((sub_ a2 0 ((minI ((a2.length : Int)) 60))).length : Int) + 1)))))), (29, .p (.s (.int .i64 0)))], [(3, .box 26 [.p (.s (.int .u64 a0.Class.a0)), .p (.s (.int .u64 a0.Class.a1)), .p (.s (.int .u64 a0.Class.a2)), .p (.s (.int .u64 a0.Class.a3)), .p (.s (.int .i64 a0.Least)), .p (.s (.int .i64 a0.Most))]), (25, rowV 3 (eI .i64) t9_2)], ⟨[], false⟩, []⟩ trivial (by kernel_rfl) ?_
      obtain ⟨J11, eJ11, h⟩ := jn_some h
      try dsimp only at h
      refine WC.join (α := Unit) (fun v11 => ⟨[], [], ⟨[], false⟩, []⟩) (fun v11 => J11 v11 = some r) ?_ (fun hJ11 => ?_)
      · rintro _ h
        rw [eJ11] at h
        try dsimp only at h
        refine WX.seq ?_
        refine WC.reg (n := 80) (by assumption) [] [6] [] ⟨[(6, .p (.s (.bool true)))], [], ⟨[], false⟩, []⟩ trivial (by kernel_rfl) ?_
        refine WX.ret ?_
        exact WC.outP (by rw [← Option.some.inj h]; kernel_rfl)
      · skip
        refine WX.block ?_
        refine WC.loop (V := Int) (riddlelaw13_RingIs_l0 a0 a1 a2 t9_2 J11) r (fun v57 => ⟨[(1, .p (slV (eI .i64) a1)), (2, .p (slV (eI .u8) (sub_ a2 0 ((minI ((a2.length : Int)) 60))))), (3, .ptr 3 0), (7, .own 25), (28, .p (.s (.int .i64 ((IntKind.i64.wrap (((sub_ a2 0 ((minI ((a2.length : Int)) 60))).length : Int) + 1)))))), (29, .p (.s (.int .i64 v57)))], [(3, .box 26 [.p (.s (.int .u64 a0.Class.a0)), .p (.s (.int .u64 a0.Class.a1)), .p (.s (.int .u64 a0.Class.a2)), .p (.s (.int .u64 a0.Class.a3)), .p (.s (.int .i64 a0.Least)), .p (.s (.int .i64 a0.Most))]), (25, rowV 3 (eI .i64) t9_2)], ⟨[], false⟩, []⟩) _ 0 h (fun _ => rfl) [1, 2, 3, 7, 28, 29] [3, 25] (by kernel_rfl) ?_
        clear h; rintro k x57_1_1 h K57 hnext57 hexit57
        rw [riddlelaw13_RingIs_l0] at h
        refine WX.seq ?_
        refine WC.reg (n := 80) (by assumption) [] [1, 2, 3, 7, 28, 29, 30] [3, 25] ⟨[(1, .p (slV (eI .i64) a1)), (2, .p (slV (eI .u8) (sub_ a2 0 ((minI ((a2.length : Int)) 60))))), (3, .ptr 3 0), (7, .own 25), (28, .p (.s (.int .i64 ((IntKind.i64.wrap (((sub_ a2 0 ((minI ((a2.length : Int)) 60))).length : Int) + 1)))))), (29, .p (.s (.int .i64 x57_1_1))), (30, .p (.s (.bool ((decide (x57_1_1 < (IntKind.i64.wrap (((sub_ a2 0 ((minI ((a2.length : Int)) 60))).length : Int) + 1))))))))], [(3, .box 26 [.p (.s (.int .u64 a0.Class.a0)), .p (.s (.int .u64 a0.Class.a1)), .p (.s (.int .u64 a0.Class.a2)), .p (.s (.int .u64 a0.Class.a3)), .p (.s (.int .i64 a0.Least)), .p (.s (.int .i64 a0.Most))]), (25, rowV 3 (eI .i64) t9_2)], ⟨[], false⟩, []⟩ trivial (by kernel_rfl) ?_
        refine WX.seq ?_
        rcases if_or h with ⟨c102, h⟩ | ⟨c102, h⟩
        · refine WC.condT c102 (by kernel_rfl) ?_
          refine WX.skip ?_
          refine WX.seq ?_
          refine WX.block ?_
          refine WX.seq ?_
          refine WC.reg (n := 80) (by assumption) [] [1, 2, 3, 7, 8, 28, 29] [3, 25] ⟨[(1, .p (slV (eI .i64) a1)), (2, .p (slV (eI .u8) (sub_ a2 0 ((minI ((a2.length : Int)) 60))))), (3, .ptr 3 0), (7, .own 25), (8, .p (.s (.int .i64 x57_1_1))), (28, .p (.s (.int .i64 ((IntKind.i64.wrap (((sub_ a2 0 ((minI ((a2.length : Int)) 60))).length : Int) + 1)))))), (29, .p (.s (.int .i64 x57_1_1)))], [(3, .box 26 [.p (.s (.int .u64 a0.Class.a0)), .p (.s (.int .u64 a0.Class.a1)), .p (.s (.int .u64 a0.Class.a2)), .p (.s (.int .u64 a0.Class.a3)), .p (.s (.int .i64 a0.Least)), .p (.s (.int .i64 a0.Most))]), (25, rowV 3 (eI .i64) t9_2)], ⟨[], false⟩, []⟩ trivial (by kernel_rfl) ?_
          refine WX.seq ?_
          refine WC.reg (n := 80) (by assumption) [] [1, 2, 3, 7, 8, 9, 28, 29] [3, 25] ⟨[(1, .p (slV (eI .i64) a1)), (2, .p (slV (eI .u8) (sub_ a2 0 ((minI ((a2.length : Int)) 60))))), (3, .ptr 3 0), (7, .own 25), (8, .p (.s (.int .i64 x57_1_1))), (9, .p (.s (.bool false))), (28, .p (.s (.int .i64 ((IntKind.i64.wrap (((sub_ a2 0 ((minI ((a2.length : Int)) 60))).length : Int) + 1)))))), (29, .p (.s (.int .i64 x57_1_1)))], [(3, .box 26 [.p (.s (.int .u64 a0.Class.a0)), .p (.s (.int .u64 a0.Class.a1)), .p (.s (.int .u64 a0.Class.a2)), .p (.s (.int .u64 a0.Class.a3)), .p (.s (.int .i64 a0.Least)), .p (.s (.int .i64 a0.Most))]), (25, rowV 3 (eI .i64) t9_2)], ⟨[], false⟩, []⟩ trivial (by kernel_rfl) ?_
          refine WX.seq ?_
          refine WC.reg (n := 80) (by assumption) [] [1, 2, 3, 7, 8, 9, 10, 28, 29] [3, 25] ⟨[(1, .p (slV (eI .i64) a1)), (2, .p (slV (eI .u8) (sub_ a2 0 ((minI ((a2.length : Int)) 60))))), (3, .ptr 3 0), (7, .own 25), (8, .p (.s (.int .i64 x57_1_1))), (9, .p (.s (.bool false))), (10, .p (.s (.bool true))), (28, .p (.s (.int .i64 ((IntKind.i64.wrap (((sub_ a2 0 ((minI ((a2.length : Int)) 60))).length : Int) + 1)))))), (29, .p (.s (.int .i64 x57_1_1)))], [(3, .box 26 [.p (.s (.int .u64 a0.Class.a0)), .p (.s (.int .u64 a0.Class.a1)), .p (.s (.int .u64 a0.Class.a2)), .p (.s (.int .u64 a0.Class.a3)), .p (.s (.int .i64 a0.Least)), .p (.s (.int .i64 a0.Most))]), (25, rowV 3 (eI .i64) t9_2)], ⟨[], false⟩, []⟩ trivial (by kernel_rfl) ?_
          refine WX.seq ?_
          refine WX.seq ?_
          refine WC.reg (n := 80) (by assumption) [] [1, 2, 3, 7, 8, 9, 10, 11, 28, 29] [3, 25] ⟨[(1, .p (slV (eI .i64) a1)), (2, .p (slV (eI .u8) (sub_ a2 0 ((minI ((a2.length : Int)) 60))))), (3, .ptr 3 0), (7, .own 25), (8, .p (.s (.int .i64 x57_1_1))), (9, .p (.s (.bool false))), (10, .p (.s (.bool true))), (11, .p (.s (.int .i64 x57_1_1))), (28, .p (.s (.int .i64 ((IntKind.i64.wrap (((sub_ a2 0 ((minI ((a2.length : Int)) 60))).length : Int) + 1)))))), (29, .p (.s (.int .i64 x57_1_1)))], [(3, .box 26 [.p (.s (.int .u64 a0.Class.a0)), .p (.s (.int .u64 a0.Class.a1)), .p (.s (.int .u64 a0.Class.a2)), .p (.s (.int .u64 a0.Class.a3)), .p (.s (.int .i64 a0.Least)), .p (.s (.int .i64 a0.Most))]), (25, rowV 3 (eI .i64) t9_2)], ⟨[], false⟩, []⟩ trivial (by kernel_rfl) ?_
          obtain ⟨J107, eJ107, h⟩ := jn_some h
          try dsimp only at h
          refine WC.join (α := Bool) (fun v107 => ⟨[(1, .p (slV (eI .i64) a1)), (2, .p (slV (eI .u8) (sub_ a2 0 ((minI ((a2.length : Int)) 60))))), (3, .ptr 3 0), (7, .own 25), (8, .p (.s (.int .i64 x57_1_1))), (9, .p (.s (.bool v107))), (28, .p (.s (.int .i64 ((IntKind.i64.wrap (((sub_ a2 0 ((minI ((a2.length : Int)) 60))).length : Int) + 1)))))), (29, .p (.s (.int .i64 x57_1_1)))], [(3, .box 26 [.p (.s (.int .u64 a0.Class.a0)), .p (.s (.int .u64 a0.Class.a1)), .p (.s (.int .u64 a0.Class.a2)), .p (.s (.int .u64 a0.Class.a3)), .p (.s (.int .i64 a0.Least)), .p (.s (.int .i64 a0.Most))]), (25, rowV 3 (eI .i64) t9_2)], ⟨[], false⟩, []⟩) (fun v107 => J107 v107 = some r) ?_ (fun hJ107 => ?_)
          · rintro y107_1 h
            rw [eJ107] at h
            try dsimp only at h
            refine WX.seq ?_
            obtain ⟨t119_2, h119_1, h⟩ := bind_some h
            refine WC.reg (n := 80) (by assumption) [(3, .res (.s (.bool t119_2)))] [1, 2, 3, 7, 28, 29, 78] [3, 25] ⟨[(1, .p (slV (eI .i64) a1)), (2, .p (slV (eI .u8) (sub_ a2 0 ((minI ((a2.length : Int)) 60))))), (3, .ptr 3 0), (7, .own 25), (28, .p (.s (.int .i64 ((IntKind.i64.wrap (((sub_ a2 0 ((minI ((a2.length : Int)) 60))).length : Int) + 1)))))), (29, .p (.s (.int .i64 x57_1_1))), (78, .p (.s (.bool ((y107_1 != t119_2)))))], [(3, .box 26 [.p (.s (.int .u64 a0.Class.a0)), .p (.s (.int .u64 a0.Class.a1)), .p (.s (.int .u64 a0.Class.a2)), .p (.s (.int .u64 a0.Class.a3)), .p (.s (.int .i64 a0.Least)), .p (.s (.int .i64 a0.Most))]), (25, rowV 3 (eI .i64) t9_2)], ⟨[], false⟩, []⟩ (And.intro (And.intro (slices_Contains_int_int_ok h119_1) (rfl : (.s (.bool t119_2) : PV).flat = true)) (trivial)) (by kernel_rfl) ?_
            rcases if_or h with ⟨c120, h⟩ | ⟨c120, h⟩
            · refine WC.condT c120 (by kernel_rfl) ?_
              refine WX.seq ?_
              refine WC.reg (n := 80) (by assumption) [] [6] [] ⟨[(6, .p (.s (.bool false)))], [], ⟨[], false⟩, []⟩ trivial (by kernel_rfl) ?_
              refine WX.ret ?_
              refine WC.ret_all (hexit57 _ _ (by simp) ?_)
              exact WC.outP (by rw [← Option.some.inj h]; kernel_rfl)
            · refine WC.condF c120 (by kernel_rfl) ?_
              refine WX.skip ?_
              refine WX.popBlk ?_
              refine WC.reg (n := 80) (by assumption) [] [1, 2, 3, 7, 28, 29] [3, 25] ⟨[(1, .p (slV (eI .i64) a1)), (2, .p (slV (eI .u8) (sub_ a2 0 ((minI ((a2.length : Int)) 60))))), (3, .ptr 3 0), (7, .own 25), (28, .p (.s (.int .i64 ((IntKind.i64.wrap (((sub_ a2 0 ((minI ((a2.length : Int)) 60))).length : Int) + 1)))))), (29, .p (.s (.int .i64 ((IntKind.i64.wrap (x57_1_1 + 1))))))], [(3, .box 26 [.p (.s (.int .u64 a0.Class.a0)), .p (.s (.int .u64 a0.Class.a1)), .p (.s (.int .u64 a0.Class.a2)), .p (.s (.int .u64 a0.Class.a3)), .p (.s (.int .i64 a0.Least)), .p (.s (.int .i64 a0.Most))]), (25, rowV 3 (eI .i64) t9_2)], ⟨[], false⟩, []⟩ trivial (by kernel_rfl) ?_
              exact WC.next [1, 2, 3, 7, 28, 29] [3, 25] (by kernel_rfl) (hnext57 ((IntKind.i64.wrap (x57_1_1 + 1))) h)
          · replace hJ107 := fun y107_1 => hJ107 y107_1
            refine WX.block ?_
            refine WC.loop (V := Bool × Bool × Int) (riddlelaw13_RingIs_l1 a0 a1 a2 x57_1_1 J107) r (fun v123 => ⟨[(1, .p (slV (eI .i64) a1)), (2, .p (slV (eI .u8) (sub_ a2 0 ((minI ((a2.length : Int)) 60))))), (3, .ptr 3 0), (7, .own 25), (8, .p (.s (.int .i64 x57_1_1))), (9, .p (.s (.bool v123.1))), (10, .p (.s (.bool v123.2.1))), (11, .p (.s (.int .i64 v123.2.2))), (28, .p (.s (.int .i64 ((IntKind.i64.wrap (((sub_ a2 0 ((minI ((a2.length : Int)) 60))).length : Int) + 1)))))), (29, .p (.s (.int .i64 x57_1_1)))], [(3, .box 26 [.p (.s (.int .u64 a0.Class.a0)), .p (.s (.int .u64 a0.Class.a1)), .p (.s (.int .u64 a0.Class.a2)), .p (.s (.int .u64 a0.Class.a3)), .p (.s (.int .i64 a0.Least)), .p (.s (.int .i64 a0.Most))]), (25, rowV 3 (eI .i64) t9_2)], ⟨[], false⟩, []⟩) _ (false, true, x57_1_1) h (fun _ => rfl) [1, 2, 3, 7, 8, 9, 10, 11, 28, 29] [3, 25] (by kernel_rfl) ?_
            clear h; rintro k ⟨x123_1_1, x123_1_2, x123_1_3⟩ h K123 hnext123 hexit123
            rw [riddlelaw13_RingIs_l1] at h
            refine WX.seq ?_
            refine WX.seq ?_
            refine WC.via (α := Bool) (fun v134 => ⟨[(1, .p (slV (eI .i64) a1)), (2, .p (slV (eI .u8) (sub_ a2 0 ((minI ((a2.length : Int)) 60))))), (3, .ptr 3 0), (7, .own 25), (8, .p (.s (.int .i64 x57_1_1))), (9, .p (.s (.bool x123_1_1))), (11, .p (.s (.int .i64 x123_1_3))), (28, .p (.s (.int .i64 ((IntKind.i64.wrap (((sub_ a2 0 ((minI ((a2.length : Int)) 60))).length : Int) + 1)))))), (29, .p (.s (.int .i64 x57_1_1))), (37, .p (.s (.bool v134)))], [(3, .box 26 [.p (.s (.int .u64 a0.Class.a0)), .p (.s (.int .u64 a0.Class.a1)), .p (.s (.int .u64 a0.Class.a2)), .p (.s (.int .u64 a0.Class.a3)), .p (.s (.int .i64 a0.Least)), .p (.s (.int .i64 a0.Most))]), (25, rowV 3 (eI .i64) t9_2)], ⟨[], false⟩, []⟩) ((((decide (x123_1_3 ≥ 0))) && x123_1_2)) (fun hk => ?_) ?_
            · rcases Bool.eq_false_or_eq_true ((decide (x123_1_3 ≥ 0))) with b134_2 | b134_2
              · exact WC.reg (n := 80) (by assumption) [(2, .val (.p (.s (.bool true))))] [1, 2, 3, 7, 8, 9, 11, 28, 29, 37] [3, 25] ⟨[(1, .p (slV (eI .i64) a1)), (2, .p (slV (eI .u8) (sub_ a2 0 ((minI ((a2.length : Int)) 60))))), (3, .ptr 3 0), (7, .own 25), (8, .p (.s (.int .i64 x57_1_1))), (9, .p (.s (.bool x123_1_1))), (11, .p (.s (.int .i64 x123_1_3))), (28, .p (.s (.int .i64 ((IntKind.i64.wrap (((sub_ a2 0 ((minI ((a2.length : Int)) 60))).length : Int) + 1)))))), (29, .p (.s (.int .i64 x57_1_1))), (37, .p (.s (.bool x123_1_2)))], [(3, .box 26 [.p (.s (.int .u64 a0.Class.a0)), .p (.s (.int .u64 a0.Class.a1)), .p (.s (.int .u64 a0.Class.a2)), .p (.s (.int .u64 a0.Class.a3)), .p (.s (.int .i64 a0.Least)), .p (.s (.int .i64 a0.Most))]), (25, rowV 3 (eI .i64) t9_2)], ⟨[], false⟩, []⟩ (And.intro (Bl b134_2) (trivial)) (by kernel_rfl) (hk x123_1_2 (by first | (rw [b134_2]; rfl) | simp [b134_2]))
              · exact WC.reg (n := 80) (by assumption) [(2, .val (.p (.s (.bool false))))] [1, 2, 3, 7, 8, 9, 11, 28, 29, 37] [3, 25] ⟨[(1, .p (slV (eI .i64) a1)), (2, .p (slV (eI .u8) (sub_ a2 0 ((minI ((a2.length : Int)) 60))))), (3, .ptr 3 0), (7, .own 25), (8, .p (.s (.int .i64 x57_1_1))), (9, .p (.s (.bool x123_1_1))), (11, .p (.s (.int .i64 x123_1_3))), (28, .p (.s (.int .i64 ((IntKind.i64.wrap (((sub_ a2 0 ((minI ((a2.length : Int)) 60))).length : Int) + 1)))))), (29, .p (.s (.int .i64 x57_1_1))), (37, .p (.s (.bool false)))], [(3, .box 26 [.p (.s (.int .u64 a0.Class.a0)), .p (.s (.int .u64 a0.Class.a1)), .p (.s (.int .u64 a0.Class.a2)), .p (.s (.int .u64 a0.Class.a3)), .p (.s (.int .i64 a0.Least)), .p (.s (.int .i64 a0.Most))]), (25, rowV 3 (eI .i64) t9_2)], ⟨[], false⟩, []⟩ (And.intro (Bl b134_2) (trivial)) (by kernel_rfl) (hk false (by first | (rw [b134_2]; rfl) | simp [b134_2]))
            rcases if_or h with ⟨c135, h⟩ | ⟨c135, h⟩
            · refine WC.condT c135 (by kernel_rfl) ?_
              refine WX.skip ?_
              refine WX.seq ?_
              refine WX.block ?_
              refine WX.seq ?_
              obtain ⟨m136_1, g136, h⟩ := bind_some h
              refine WC.via (α := Bool) (fun v136 => ⟨[(1, .p (slV (eI .i64) a1)), (2, .p (slV (eI .u8) (sub_ a2 0 ((minI ((a2.length : Int)) 60))))), (3, .ptr 3 0), (7, .own 25), (8, .p (.s (.int .i64 x57_1_1))), (9, .p (.s (.bool v136))), (11, .p (.s (.int .i64 x123_1_3))), (28, .p (.s (.int .i64 ((IntKind.i64.wrap (((sub_ a2 0 ((minI ((a2.length : Int)) 60))).length : Int) + 1)))))), (29, .p (.s (.int .i64 x57_1_1)))], [(3, .box 26 [.p (.s (.int .u64 a0.Class.a0)), .p (.s (.int .u64 a0.Class.a1)), .p (.s (.int .u64 a0.Class.a2)), .p (.s (.int .u64 a0.Class.a3)), .p (.s (.int .i64 a0.Least)), .p (.s (.int .i64 a0.Most))]), (25, rowV 3 (eI .i64) t9_2)], ⟨[], false⟩, []⟩) m136_1 (fun hk => ?_) ?_
              · rcases if_or g136 with ⟨b136_1, g136⟩ | ⟨b136_1, g136⟩
                · exact WC.reg (n := 80) (by assumption) [(1, .val (.p (.s (.bool true))))] [1, 2, 3, 7, 8, 9, 11, 28, 29] [3, 25] ⟨[(1, .p (slV (eI .i64) a1)), (2, .p (slV (eI .u8) (sub_ a2 0 ((minI ((a2.length : Int)) 60))))), (3, .ptr 3 0), (7, .own 25), (8, .p (.s (.int .i64 x57_1_1))), (9, .p (.s (.bool true))), (11, .p (.s (.int .i64 x123_1_3))), (28, .p (.s (.int .i64 ((IntKind.i64.wrap (((sub_ a2 0 ((minI ((a2.length : Int)) 60))).length : Int) + 1)))))), (29, .p (.s (.int .i64 x57_1_1)))], [(3, .box 26 [.p (.s (.int .u64 a0.Class.a0)), .p (.s (.int .u64 a0.Class.a1)), .p (.s (.int .u64 a0.Class.a2)), .p (.s (.int .u64 a0.Class.a3)), .p (.s (.int .i64 a0.Least)), .p (.s (.int .i64 a0.Most))]), (25, rowV 3 (eI .i64) t9_2)], ⟨[], false⟩, []⟩ (And.intro (Bl b136_1) (trivial)) (by kernel_rfl) (hk true (Option.some.inj g136))
                · rcases if_or g136 with ⟨b136_8, g136⟩ | ⟨b136_8, g136⟩
                  · rcases if_or g136 with ⟨b136_16, g136⟩ | ⟨b136_16, g136⟩
                    · obtain ⟨t136_2, h136_1, g136⟩ := bind_some g136
                      exact WC.reg (n := 80) (by assumption) [(1, .val (.p (.s (.bool false)))), (8, .val (.p (.s (.bool true)))), (16, .val (.p (.s (.bool true)))), (19, .resP (.s (.bool t136_2)))] [1, 2, 3, 7, 8, 9, 11, 28, 29] [3, 25] ⟨[(1, .p (slV (eI .i64) a1)), (2, .p (slV (eI .u8) (sub_ a2 0 ((minI ((a2.length : Int)) 60))))), (3, .ptr 3 0), (7, .own 25), (8, .p (.s (.int .i64 x57_1_1))), (9, .p (.s (.bool t136_2))), (11, .p (.s (.int .i64 x123_1_3))), (28, .p (.s (.int .i64 ((IntKind.i64.wrap (((sub_ a2 0 ((minI ((a2.length : Int)) 60))).length : Int) + 1)))))), (29, .p (.s (.int .i64 x57_1_1)))], [(3, .box 26 [.p (.s (.int .u64 a0.Class.a0)), .p (.s (.int .u64 a0.Class.a1)), .p (.s (.int .u64 a0.Class.a2)), .p (.s (.int .u64 a0.Class.a3)), .p (.s (.int .i64 a0.Least)), .p (.s (.int .i64 a0.Most))]), (25, rowV 3 (eI .i64) t9_2)], ⟨[], false⟩, []⟩ (And.intro (Bl b136_1) (And.intro (Bl b136_8) (And.intro (Bl b136_16) (And.intro ((slices_Contains_int_int_ok h136_1)) (trivial))))) (by kernel_rfl) (hk t136_2 (Option.some.inj g136))
                    · exact WC.reg (n := 80) (by assumption) [(1, .val (.p (.s (.bool false)))), (8, .val (.p (.s (.bool true)))), (16, .val (.p (.s (.bool false))))] [1, 2, 3, 7, 8, 9, 11, 28, 29] [3, 25] ⟨[(1, .p (slV (eI .i64) a1)), (2, .p (slV (eI .u8) (sub_ a2 0 ((minI ((a2.length : Int)) 60))))), (3, .ptr 3 0), (7, .own 25), (8, .p (.s (.int .i64 x57_1_1))), (9, .p (.s (.bool false))), (11, .p (.s (.int .i64 x123_1_3))), (28, .p (.s (.int .i64 ((IntKind.i64.wrap (((sub_ a2 0 ((minI ((a2.length : Int)) 60))).length : Int) + 1)))))), (29, .p (.s (.int .i64 x57_1_1)))], [(3, .box 26 [.p (.s (.int .u64 a0.Class.a0)), .p (.s (.int .u64 a0.Class.a1)), .p (.s (.int .u64 a0.Class.a2)), .p (.s (.int .u64 a0.Class.a3)), .p (.s (.int .i64 a0.Least)), .p (.s (.int .i64 a0.Most))]), (25, rowV 3 (eI .i64) t9_2)], ⟨[], false⟩, []⟩ (And.intro (Bl b136_1) (And.intro (Bl b136_8) (And.intro (Bl b136_16) (trivial)))) (by kernel_rfl) (hk false (Option.some.inj g136))
                  · exact WC.reg (n := 80) (by assumption) [(1, .val (.p (.s (.bool false)))), (8, .val (.p (.s (.bool false))))] [1, 2, 3, 7, 8, 9, 11, 28, 29] [3, 25] ⟨[(1, .p (slV (eI .i64) a1)), (2, .p (slV (eI .u8) (sub_ a2 0 ((minI ((a2.length : Int)) 60))))), (3, .ptr 3 0), (7, .own 25), (8, .p (.s (.int .i64 x57_1_1))), (9, .p (.s (.bool false))), (11, .p (.s (.int .i64 x123_1_3))), (28, .p (.s (.int .i64 ((IntKind.i64.wrap (((sub_ a2 0 ((minI ((a2.length : Int)) 60))).length : Int) + 1)))))), (29, .p (.s (.int .i64 x57_1_1)))], [(3, .box 26 [.p (.s (.int .u64 a0.Class.a0)), .p (.s (.int .u64 a0.Class.a1)), .p (.s (.int .u64 a0.Class.a2)), .p (.s (.int .u64 a0.Class.a3)), .p (.s (.int .i64 a0.Least)), .p (.s (.int .i64 a0.Most))]), (25, rowV 3 (eI .i64) t9_2)], ⟨[], false⟩, []⟩ (And.intro (Bl b136_1) (And.intro (Bl b136_8) (trivial))) (by kernel_rfl) (hk false (Option.some.inj g136))
              obtain ⟨m137_1, g137, h⟩ := bind_some h
              refine WC.via (α := Bool) (fun v137 => ⟨[(1, .p (slV (eI .i64) a1)), (2, .p (slV (eI .u8) (sub_ a2 0 ((minI ((a2.length : Int)) 60))))), (3, .ptr 3 0), (7, .own 25), (8, .p (.s (.int .i64 x57_1_1))), (9, .p (.s (.bool m136_1))), (10, .p (.s (.bool v137))), (11, .p (.s (.int .i64 x123_1_3))), (28, .p (.s (.int .i64 ((IntKind.i64.wrap (((sub_ a2 0 ((minI ((a2.length : Int)) 60))).length : Int) + 1)))))), (29, .p (.s (.int .i64 x57_1_1)))], [(3, .box 26 [.p (.s (.int .u64 a0.Class.a0)), .p (.s (.int .u64 a0.Class.a1)), .p (.s (.int .u64 a0.Class.a2)), .p (.s (.int .u64 a0.Class.a3)), .p (.s (.int .i64 a0.Least)), .p (.s (.int .i64 a0.Most))]), (25, rowV 3 (eI .i64) t9_2)], ⟨[], false⟩, []⟩) m137_1 (fun hk => ?_) ?_
              · rcases if_or g137 with ⟨b137_2, g137⟩ | ⟨b137_2, g137⟩
                · obtain ⟨t137_2, h137_1, g137⟩ := bind_some g137
                  obtain ⟨t137_4, h137_3, g137⟩ := bind_some g137
                  exact WC.drw (n := 80) (by assumption) [] [] [(2, .val (.p (.s (.bool true)))), (8, .val (.p (.rop ((eI .u8).cells t137_2 ++ encL (eI .u8) ((sub_ a2 0 ((minI ((a2.length : Int)) 60))).drop (((IntKind.i64.wrap (x123_1_3 - 1))).toNat + 1)))))), (10, .resP (.s (.bool t137_4)))] [1, 2, 3, 7, 8, 9, 10, 11, 28, 29] [3, 25] ⟨[(1, .p (slV (eI .i64) a1)), (2, .p (slV (eI .u8) (sub_ a2 0 ((minI ((a2.length : Int)) 60))))), (3, .ptr 3 0), (7, .own 25), (8, .p (.s (.int .i64 x57_1_1))), (9, .p (.s (.bool m136_1))), (10, .p (.s (.bool t137_4))), (11, .p (.s (.int .i64 x123_1_3))), (28, .p (.s (.int .i64 ((IntKind.i64.wrap (((sub_ a2 0 ((minI ((a2.length : Int)) 60))).length : Int) + 1)))))), (29, .p (.s (.int .i64 x57_1_1)))], [(3, .box 26 [.p (.s (.int .u64 a0.Class.a0)), .p (.s (.int .u64 a0.Class.a1)), .p (.s (.int .u64 a0.Class.a2)), .p (.s (.int .u64 a0.Class.a3)), .p (.s (.int .i64 a0.Least)), .p (.s (.int .i64 a0.Most))]), (25, rowV 3 (eI .i64) t9_2)], ⟨[], false⟩, []⟩ (And.intro (Bl b137_2) (And.intro (Ix (eI .u8) h137_1) (And.intro ((riddleref02_Has_ok h137_3)) (trivial)))) (by kernel_rfl) (by kernel_rfl) (by kernel_rfl) (by kernel_rfl) (hk t137_4 (Option.some.inj g137))
                · exact WC.drw (n := 80) (by assumption) [] [] [(2, .val (.p (.s (.bool false))))] [1, 2, 3, 7, 8, 9, 10, 11, 28, 29] [3, 25] ⟨[(1, .p (slV (eI .i64) a1)), (2, .p (slV (eI .u8) (sub_ a2 0 ((minI ((a2.length : Int)) 60))))), (3, .ptr 3 0), (7, .own 25), (8, .p (.s (.int .i64 x57_1_1))), (9, .p (.s (.bool m136_1))), (10, .p (.s (.bool false))), (11, .p (.s (.int .i64 x123_1_3))), (28, .p (.s (.int .i64 ((IntKind.i64.wrap (((sub_ a2 0 ((minI ((a2.length : Int)) 60))).length : Int) + 1)))))), (29, .p (.s (.int .i64 x57_1_1)))], [(3, .box 26 [.p (.s (.int .u64 a0.Class.a0)), .p (.s (.int .u64 a0.Class.a1)), .p (.s (.int .u64 a0.Class.a2)), .p (.s (.int .u64 a0.Class.a3)), .p (.s (.int .i64 a0.Least)), .p (.s (.int .i64 a0.Most))]), (25, rowV 3 (eI .i64) t9_2)], ⟨[], false⟩, []⟩ (And.intro (Bl b137_2) (trivial)) (by kernel_rfl) (by kernel_rfl) (by kernel_rfl) (by kernel_rfl) (hk false (Option.some.inj g137))
              refine WX.popBlk ?_
              refine WC.reg (n := 80) (by assumption) [] [1, 2, 3, 7, 8, 9, 10, 11, 28, 29] [3, 25] ⟨[(1, .p (slV (eI .i64) a1)), (2, .p (slV (eI .u8) (sub_ a2 0 ((minI ((a2.length : Int)) 60))))), (3, .ptr 3 0), (7, .own 25), (8, .p (.s (.int .i64 x57_1_1))), (9, .p (.s (.bool m136_1))), (10, .p (.s (.bool m137_1))), (11, .p (.s (.int .i64 ((IntKind.i64.wrap (x123_1_3 - 1)))))), (28, .p (.s (.int .i64 ((IntKind.i64.wrap (((sub_ a2 0 ((minI ((a2.length : Int)) 60))).length : Int) + 1)))))), (29, .p (.s (.int .i64 x57_1_1)))], [(3, .box 26 [.p (.s (.int .u64 a0.Class.a0)), .p (.s (.int .u64 a0.Class.a1)), .p (.s (.int .u64 a0.Class.a2)), .p (.s (.int .u64 a0.Class.a3)), .p (.s (.int .i64 a0.Least)), .p (.s (.int .i64 a0.Most))]), (25, rowV 3 (eI .i64) t9_2)], ⟨[], false⟩, []⟩ trivial (by kernel_rfl) ?_
              exact WC.next [1, 2, 3, 7, 8, 9, 10, 11, 28, 29] [3, 25] (by kernel_rfl) (hnext123 (m136_1, m137_1, (IntKind.i64.wrap (x123_1_3 - 1))) h)
            · refine WC.condF c135 (by kernel_rfl) ?_
              refine WX.exit ?_
              refine WX.popCodeExit ?_
              refine WC.exit_nil (hexit123 _ _ (by simp) ?_)
              refine WX.popBlkHit ?_
              exact WC.keep [1, 2, 3, 7, 8, 9, 28, 29] [3, 25] (by kernel_rfl) (hJ107 x123_1_1 h)
        · refine WC.condF c102 (by kernel_rfl) ?_
          refine WX.exit ?_
          refine WX.popCodeExit ?_
          refine WC.exit_nil (hexit57 _ _ (by simp) ?_)
          refine WX.popBlkHit ?_
          exact WC.keep [] [] (by kernel_rfl) (hJ11 () h)
def ring_Run_l0 (a2 : (List Int)) (t2_2 : api_Ring) (J5 : (Int × List Int) → Option (api_Bits)) : Nat → (Int × Int × List Int) → Option (api_Bits)
  | 0, _ => none
  | k + 1, (x18_1_1, x18_1_2, x18_1_3) => (if (decide (x18_1_1 < (a2.length : Int))) = true then (at_ a2 x18_1_1).bind fun t31_2 => (ring_Next k t2_2 ((api_Bits.mk x18_1_2 x18_1_3)) t31_2).bind fun t32_2 => ring_Run_l0 a2 t2_2 J5 k ((IntKind.i64.wrap (x18_1_1 + 1)), t32_2.N, t32_2.Words) else J5 (x18_1_2, x18_1_3))
def ring_Run (k : Nat) (a0 : api_Ring) (a1 : api_Bits) (a2 : (List Int)) : Option (api_Bits) :=
  (ring_may a0).bind fun t2_2 => (ring_state k t2_2 a1).bind fun t3_2 => jn (fun (v5 : Int × List Int) => some ((api_Bits.mk v5.1 v5.2))) fun J5 => ring_Run_l0 a2 t2_2 J5 k (0, t3_2.N, t3_2.Words)
theorem ring_Run_ok {k : Nat} {a0 : api_Ring} {a1 : api_Bits} {a2 : (List Int)} {r : api_Bits} (h : ring_Run k a0 a1 a2 = some r) : Ans Tryd.prog 14 [.agg [.s (.int .u64 a0.Class.a0), .s (.int .u64 a0.Class.a1), .s (.int .u64 a0.Class.a2), .s (.int .u64 a0.Class.a3), .s (.int .i64 a0.Least), .s (.int .i64 a0.Most)], .agg [.s (.int .i64 a1.N), slV (eI .u64) a1.Words], slV (eI .u8) a2] (.agg [.s (.int .i64 r.N), slV (eI .u64) r.Words]) := by
  refine W_fn Tryd.func14 rfl (by kernel_rfl) (by kernel_rfl) ?_
  intro X hro hn
  unfold ring_Run at h
  refine WX.seq ?_
  refine WC.reg (n := 26) (by assumption) [] [2, 3, 4, 6] [3, 4, 6] ⟨[(2, .p (slV (eI .u8) a2)), (3, .ptr 3 0), (4, .ptr 4 0), (6, .ptr 6 0)], [(3, .box 26 [.p (.s (.int .u64 a0.Class.a0)), .p (.s (.int .u64 a0.Class.a1)), .p (.s (.int .u64 a0.Class.a2)), .p (.s (.int .u64 a0.Class.a3)), .p (.s (.int .i64 a0.Least)), .p (.s (.int .i64 a0.Most))]), (4, .box 39 [.p (.s (.int .i64 a1.N)), .p (slV (eI .u64) a1.Words)]), (6, .box 39 [.p (.s (.int .i64 0)), .p (.sl .nil 0 [])])], ⟨[], false⟩, []⟩ trivial (by kernel_rfl) ?_
  refine WX.seq ?_
  obtain ⟨t2_2, h2_1, h⟩ := bind_some h
  refine WC.reg (n := 26) (by assumption) [(1, .resP (.agg [.s (.int .u64 t2_2.Class.a0), .s (.int .u64 t2_2.Class.a1), .s (.int .u64 t2_2.Class.a2), .s (.int .u64 t2_2.Class.a3), .s (.int .i64 t2_2.Least), .s (.int .i64 t2_2.Most)]))] [2, 3, 4, 6] [3, 4, 6] ⟨[(2, .p (slV (eI .u8) a2)), (3, .ptr 3 0), (4, .ptr 4 0), (6, .ptr 6 0)], [(3, .box 26 [.p (.s (.int .u64 t2_2.Class.a0)), .p (.s (.int .u64 t2_2.Class.a1)), .p (.s (.int .u64 t2_2.Class.a2)), .p (.s (.int .u64 t2_2.Class.a3)), .p (.s (.int .i64 t2_2.Least)), .p (.s (.int .i64 t2_2.Most))]), (4, .box 39 [.p (.s (.int .i64 a1.N)), .p (slV (eI .u64) a1.Words)]), (6, .box 39 [.p (.s (.int .i64 0)), .p (.sl .nil 0 [])])], ⟨[], false⟩, []⟩ (And.intro ((ring_may_ok h2_1)) (trivial)) (by kernel_rfl) ?_
  refine WX.seq ?_
  obtain ⟨t3_2, h3_1, h⟩ := bind_some h
  refine WC.reg (n := 26) (by assumption) [(2, .resP (.agg [.s (.int .i64 t3_2.N), slV (eI .u64) t3_2.Words]))] [2, 3, 4, 6] [3, 4, 6] ⟨[(2, .p (slV (eI .u8) a2)), (3, .ptr 3 0), (4, .ptr 4 0), (6, .ptr 6 0)], [(3, .box 26 [.p (.s (.int .u64 t2_2.Class.a0)), .p (.s (.int .u64 t2_2.Class.a1)), .p (.s (.int .u64 t2_2.Class.a2)), .p (.s (.int .u64 t2_2.Class.a3)), .p (.s (.int .i64 t2_2.Least)), .p (.s (.int .i64 t2_2.Most))]), (4, .box 39 [.p (.s (.int .i64 t3_2.N)), .p (slV (eI .u64) t3_2.Words)]), (6, .box 39 [.p (.s (.int .i64 0)), .p (.sl .nil 0 [])])], ⟨[], false⟩, []⟩ (And.intro ((ring_state_ok h3_1)) (trivial)) (by kernel_rfl) ?_
  refine WX.seq ?_
  refine WX.seq ?_
  refine WC.reg (n := 26) (by assumption) [] [3, 4, 6, 14, 15, 16] [3, 4, 6] ⟨[(3, .ptr 3 0), (4, .ptr 4 0), (6, .ptr 6 0), (14, .p (slV (eI .u8) a2)), (15, .p (.s (.int .i64 ((a2.length : Int))))), (16, .p (.s (.int .i64 0)))], [(3, .box 26 [.p (.s (.int .u64 t2_2.Class.a0)), .p (.s (.int .u64 t2_2.Class.a1)), .p (.s (.int .u64 t2_2.Class.a2)), .p (.s (.int .u64 t2_2.Class.a3)), .p (.s (.int .i64 t2_2.Least)), .p (.s (.int .i64 t2_2.Most))]), (4, .box 39 [.p (.s (.int .i64 t3_2.N)), .p (slV (eI .u64) t3_2.Words)]), (6, .box 39 [.p (.s (.int .i64 0)), .p (.sl .nil 0 [])])], ⟨[], false⟩, []⟩ trivial (by kernel_rfl) ?_
  obtain ⟨J5, eJ5, h⟩ := jn_some h
  try dsimp only at h
  refine WC.join (α := Int × List Int) (fun v5 => ⟨[(4, .ptr 4 0), (6, .ptr 6 0)], [(4, .box 39 [.p (.s (.int .i64 v5.1)), .p (slV (eI .u64) v5.2)]), (6, .box 39 [.p (.s (.int .i64 0)), .p (.sl .nil 0 [])])], ⟨[], false⟩, []⟩) (fun v5 => J5 v5 = some r) ?_ (fun hJ5 => ?_)
  · rintro ⟨y5_1, y5_2⟩ h
    rw [eJ5] at h
    try dsimp only at h
    refine WX.seq ?_
    refine WC.reg (n := 26) (by assumption) [] [6] [6] ⟨[(6, .ptr 6 0)], [(6, .box 39 [.p (.s (.int .i64 y5_1)), .p (slV (eI .u64) y5_2)])], ⟨[], false⟩, []⟩ trivial (by kernel_rfl) ?_
    refine WX.ret ?_
    exact WC.outP (by rw [← Option.some.inj h]; kernel_rfl)
  · replace hJ5 := fun y5_1 y5_2 => hJ5 (y5_1, y5_2)
    refine WX.block ?_
    refine WC.loop (V := Int × Int × List Int) (ring_Run_l0 a2 t2_2 J5) r (fun v18 => ⟨[(3, .ptr 3 0), (4, .ptr 4 0), (6, .ptr 6 0), (14, .p (slV (eI .u8) a2)), (15, .p (.s (.int .i64 ((a2.length : Int))))), (16, .p (.s (.int .i64 v18.1)))], [(3, .box 26 [.p (.s (.int .u64 t2_2.Class.a0)), .p (.s (.int .u64 t2_2.Class.a1)), .p (.s (.int .u64 t2_2.Class.a2)), .p (.s (.int .u64 t2_2.Class.a3)), .p (.s (.int .i64 t2_2.Least)), .p (.s (.int .i64 t2_2.Most))]), (4, .box 39 [.p (.s (.int .i64 v18.2.1)), .p (slV (eI .u64) v18.2.2)]), (6, .box 39 [.p (.s (.int .i64 0)), .p (.sl .nil 0 [])])], ⟨[], false⟩, []⟩) _ (0, t3_2.N, t3_2.Words) h (fun _ => rfl) [3, 4, 6, 14, 15, 16] [3, 4, 6] (by kernel_rfl) ?_
    clear h; rintro k ⟨x18_1_1, x18_1_2, x18_1_3⟩ h K18 hnext18 hexit18
    rw [ring_Run_l0] at h
    refine WX.seq ?_
    refine WC.reg (n := 26) (by assumption) [] [3, 4, 6, 14, 15, 16, 17] [3, 4, 6] ⟨[(3, .ptr 3 0), (4, .ptr 4 0), (6, .ptr 6 0), (14, .p (slV (eI .u8) a2)), (15, .p (.s (.int .i64 ((a2.length : Int))))), (16, .p (.s (.int .i64 x18_1_1))), (17, .p (.s (.bool ((decide (x18_1_1 < (a2.length : Int)))))))], [(3, .box 26 [.p (.s (.int .u64 t2_2.Class.a0)), .p (.s (.int .u64 t2_2.Class.a1)), .p (.s (.int .u64 t2_2.Class.a2)), .p (.s (.int .u64 t2_2.Class.a3)), .p (.s (.int .i64 t2_2.Least)), .p (.s (.int .i64 t2_2.Most))]), (4, .box 39 [.p (.s (.int .i64 x18_1_2)), .p (slV (eI .u64) x18_1_3)]), (6, .box 39 [.p (.s (.int .i64 0)), .p (.sl .nil 0 [])])], ⟨[], false⟩, []⟩ trivial (by kernel_rfl) ?_
    refine WX.seq ?_
    rcases if_or h with ⟨c30, h⟩ | ⟨c30, h⟩
    · refine WC.condT c30 (by kernel_rfl) ?_
      refine WX.skip ?_
      refine WX.seq ?_
      refine WX.block ?_
      refine WX.seq ?_
      obtain ⟨t31_2, h31_1, h⟩ := bind_some h
      refine WC.reg (n := 26) (by assumption) [(0, .val (.p (.rop ((eI .u8).cells t31_2 ++ encL (eI .u8) (a2.drop (x18_1_1.toNat + 1))))))] [3, 4, 6, 8, 14, 15, 16] [3, 4, 6] ⟨[(3, .ptr 3 0), (4, .ptr 4 0), (6, .ptr 6 0), (8, .p (.s (.int .u8 t31_2))), (14, .p (slV (eI .u8) a2)), (15, .p (.s (.int .i64 ((a2.length : Int))))), (16, .p (.s (.int .i64 x18_1_1)))], [(3, .box 26 [.p (.s (.int .u64 t2_2.Class.a0)), .p (.s (.int .u64 t2_2.Class.a1)), .p (.s (.int .u64 t2_2.Class.a2)), .p (.s (.int .u64 t2_2.Class.a3)), .p (.s (.int .i64 t2_2.Least)), .p (.s (.int .i64 t2_2.Most))]), (4, .box 39 [.p (.s (.int .i64 x18_1_2)), .p (slV (eI .u64) x18_1_3)]), (6, .box 39 [.p (.s (.int .i64 0)), .p (.sl .nil 0 [])])], ⟨[], false⟩, []⟩ (And.intro (Ix (eI .u8) h31_1) (trivial)) (by kernel_rfl) ?_
      obtain ⟨t32_2, h32_1, h⟩ := bind_some h
      refine WC.reg (n := 26) (by assumption) [(3, .co [] [] [] [(23, rowV 22 (eI .u64) t32_2.Words)] (.agg [.p (.s (.int .i64 t32_2.N)), .own 23]))] [3, 4, 6, 14, 15, 16] [3, 4, 6, 23] ⟨[(3, .ptr 3 0), (4, .ptr 4 0), (6, .ptr 6 0), (14, .p (slV (eI .u8) a2)), (15, .p (.s (.int .i64 ((a2.length : Int))))), (16, .p (.s (.int .i64 x18_1_1)))], [(3, .box 26 [.p (.s (.int .u64 t2_2.Class.a0)), .p (.s (.int .u64 t2_2.Class.a1)), .p (.s (.int .u64 t2_2.Class.a2)), .p (.s (.int .u64 t2_2.Class.a3)), .p (.s (.int .i64 t2_2.Least)), .p (.s (.int .i64 t2_2.Most))]), (4, .box 39 [.p (.s (.int .i64 t32_2.N)), .own 23]), (6, .box 39 [.p (.s (.int .i64 0)), .p (.sl .nil 0 [])]), (23, rowV 22 (eI .u64) t32_2.Words)], ⟨[], false⟩, []⟩ (And.intro (And.intro ((ring_Next_ok h32_1).ren 15 23 (by kernel_rfl)) (trivial)) (trivial)) (by kernel_rfl) ?_
      refine WX.popBlk ?_
      refine WC.reg (n := 26) (by assumption) [] [3, 4, 6, 14, 15, 16] [3, 4, 6, 23] ⟨[(3, .ptr 3 0), (4, .ptr 4 0), (6, .ptr 6 0), (14, .p (slV (eI .u8) a2)), (15, .p (.s (.int .i64 ((a2.length : Int))))), (16, .p (.s (.int .i64 ((IntKind.i64.wrap (x18_1_1 + 1))))))], [(3, .box 26 [.p (.s (.int .u64 t2_2.Class.a0)), .p (.s (.int .u64 t2_2.Class.a1)), .p (.s (.int .u64 t2_2.Class.a2)), .p (.s (.int .u64 t2_2.Class.a3)), .p (.s (.int .i64 t2_2.Least)), .p (.s (.int .i64 t2_2.Most))]), (4, .box 39 [.p (.s (.int .i64 t32_2.N)), .own 23]), (6, .box 39 [.p (.s (.int .i64 0)), .p (.sl .nil 0 [])]), (23, rowV 22 (eI .u64) t32_2.Words)], ⟨[], false⟩, []⟩ trivial (by kernel_rfl) ?_
      refine WC.frz 23 (st' := ⟨[(3, .ptr 3 0), (4, .ptr 4 0), (6, .ptr 6 0), (14, .p (slV (eI .u8) a2)), (15, .p (.s (.int .i64 ((a2.length : Int))))), (16, .p (.s (.int .i64 ((IntKind.i64.wrap (x18_1_1 + 1))))))], [(3, .box 26 [.p (.s (.int .u64 t2_2.Class.a0)), .p (.s (.int .u64 t2_2.Class.a1)), .p (.s (.int .u64 t2_2.Class.a2)), .p (.s (.int .u64 t2_2.Class.a3)), .p (.s (.int .i64 t2_2.Least)), .p (.s (.int .i64 t2_2.Most))]), (4, .box 39 [.p (.s (.int .i64 t32_2.N)), .p (slV (eI .u64) t32_2.Words)]), (6, .box 39 [.p (.s (.int .i64 0)), .p (.sl .nil 0 [])])], ⟨[], false⟩, []⟩) (by kernel_rfl) ?_
      exact WC.next [3, 4, 6, 14, 15, 16] [3, 4, 6] (by kernel_rfl) (hnext18 ((IntKind.i64.wrap (x18_1_1 + 1)), t32_2.N, t32_2.Words) h)
    · refine WC.condF c30 (by kernel_rfl) ?_
      refine WX.exit ?_
      refine WX.popCodeExit ?_
      refine WC.exit_nil (hexit18 _ _ (by simp) ?_)
      refine WX.popBlkHit ?_
      exact WC.keep [4, 6] [4, 6] (by kernel_rfl) (hJ5 x18_1_2 x18_1_3 h)
def riddleref01_Exact_l0 (a0 : api_Bits) (a1 : api_Bits) (J6 : Unit → Option (Bool)) : Nat → Int → Option (Bool)
  | 0, _ => none
  | k + 1, x21_1_1 => (if (decide (x21_1_1 < (a0.Words.length : Int))) = true then (at_ a0.Words x21_1_1).bind fun t36_2 => (at_ a1.Words x21_1_1).bind fun t36_4 => (if (t36_2 != t36_4) = true then some false else riddleref01_Exact_l0 a0 a1 J6 k ((IntKind.i64.wrap (x21_1_1 + 1)))) else J6 ())
def riddleref01_Exact (k : Nat) (a0 : api_Bits) (a1 : api_Bits) : Option (Bool) :=
  (if (((a0.N != a1.N)) || (((a0.Words.length : Int) != (a1.Words.length : Int)))) = true then some false else jn (fun (v6 : Unit) => some true) fun J6 => riddleref01_Exact_l0 a0 a1 J6 k 0)
theorem riddleref01_Exact_ok {k : Nat} {a0 : api_Bits} {a1 : api_Bits} {r : Bool} (h : riddleref01_Exact k a0 a1 = some r) : Ans Tryd.prog 16 [.agg [.s (.int .i64 a0.N), slV (eI .u64) a0.Words], .agg [.s (.int .i64 a1.N), slV (eI .u64) a1.Words]] (.s (.bool r)) := by
  refine W_fn Tryd.func16 rfl (by kernel_rfl) (by kernel_rfl) ?_
  intro X hro hn
  unfold riddleref01_Exact at h
  refine WX.seq ?_
  refine WC.reg (n := 38) (by assumption) [] [2, 3] [2, 3] ⟨[(2, .ptr 2 0), (3, .ptr 3 0)], [(2, .box 39 [.p (.s (.int .i64 a0.N)), .p (slV (eI .u64) a0.Words)]), (3, .box 39 [.p (.s (.int .i64 a1.N)), .p (slV (eI .u64) a1.Words)])], ⟨[], false⟩, []⟩ trivial (by kernel_rfl) ?_
  refine WX.seq ?_
  refine WX.seq ?_
  refine WC.via (α := Bool) (fun v2 => ⟨[(2, .ptr 2 0), (3, .ptr 3 0), (19, .p (.s (.bool v2)))], [(2, .box 39 [.p (.s (.int .i64 a0.N)), .p (slV (eI .u64) a0.Words)]), (3, .box 39 [.p (.s (.int .i64 a1.N)), .p (slV (eI .u64) a1.Words)])], ⟨[], false⟩, []⟩) ((((a0.N != a1.N)) || (((a0.Words.length : Int) != (a1.Words.length : Int))))) (fun hk => ?_) ?_
  · rcases Bool.eq_false_or_eq_true ((a0.N != a1.N)) with b2_5 | b2_5
    · exact WC.reg (n := 38) (by assumption) [(5, .val (.p (.s (.bool true))))] [2, 3, 19] [2, 3] ⟨[(2, .ptr 2 0), (3, .ptr 3 0), (19, .p (.s (.bool true)))], [(2, .box 39 [.p (.s (.int .i64 a0.N)), .p (slV (eI .u64) a0.Words)]), (3, .box 39 [.p (.s (.int .i64 a1.N)), .p (slV (eI .u64) a1.Words)])], ⟨[], false⟩, []⟩ (And.intro (Bl b2_5) (trivial)) (by kernel_rfl) (hk true (by first | (rw [b2_5]; rfl) | simp [b2_5]))
    · exact WC.reg (n := 38) (by assumption) [(5, .val (.p (.s (.bool false))))] [2, 3, 19] [2, 3] ⟨[(2, .ptr 2 0), (3, .ptr 3 0), (19, .p (.s (.bool (((a0.Words.length : Int) != (a1.Words.length : Int))))))], [(2, .box 39 [.p (.s (.int .i64 a0.N)), .p (slV (eI .u64) a0.Words)]), (3, .box 39 [.p (.s (.int .i64 a1.N)), .p (slV (eI .u64) a1.Words)])], ⟨[], false⟩, []⟩ (And.intro (Bl b2_5) (trivial)) (by kernel_rfl) (hk (((a0.Words.length : Int) != (a1.Words.length : Int))) (by first | (rw [b2_5]; rfl) | simp [b2_5]))
  rcases if_or h with ⟨c3, h⟩ | ⟨c3, h⟩
  · refine WC.condT c3 (by kernel_rfl) ?_
    refine WX.seq ?_
    refine WC.reg (n := 38) (by assumption) [] [4] [] ⟨[(4, .p (.s (.bool false)))], [], ⟨[], false⟩, []⟩ trivial (by kernel_rfl) ?_
    refine WX.ret ?_
    exact WC.outP (by rw [← Option.some.inj h]; kernel_rfl)
  · refine WC.condF c3 (by kernel_rfl) ?_
    refine WX.skip ?_
    refine WX.seq ?_
    refine WX.seq ?_
    refine WC.reg (n := 38) (by assumption) [] [2, 3, 5] [2, 3] ⟨[(2, .ptr 2 0), (3, .ptr 3 0), (5, .p (.s (.int .i64 0)))], [(2, .box 39 [.p (.s (.int .i64 a0.N)), .p (slV (eI .u64) a0.Words)]), (3, .box 39 [.p (.s (.int .i64 a1.N)), .p (slV (eI .u64) a1.Words)])], ⟨[], false⟩, []⟩ trivial (by kernel_rfl) ?_
    obtain ⟨J6, eJ6, h⟩ := jn_some h
    try dsimp only at h
    refine WC.join (α := Unit) (fun v6 => ⟨[], [], ⟨[], false⟩, []⟩) (fun v6 => J6 v6 = some r) ?_ (fun hJ6 => ?_)
    · rintro _ h
      rw [eJ6] at h
      try dsimp only at h
      refine WX.seq ?_
      refine WC.reg (n := 38) (by assumption) [] [4] [] ⟨[(4, .p (.s (.bool true)))], [], ⟨[], false⟩, []⟩ trivial (by kernel_rfl) ?_
      refine WX.ret ?_
      exact WC.outP (by rw [← Option.some.inj h]; kernel_rfl)
    · skip
      refine WX.block ?_
      refine WC.loop (V := Int) (riddleref01_Exact_l0 a0 a1 J6) r (fun v21 => ⟨[(2, .ptr 2 0), (3, .ptr 3 0), (5, .p (.s (.int .i64 v21)))], [(2, .box 39 [.p (.s (.int .i64 a0.N)), .p (slV (eI .u64) a0.Words)]), (3, .box 39 [.p (.s (.int .i64 a1.N)), .p (slV (eI .u64) a1.Words)])], ⟨[], false⟩, []⟩) _ 0 h (fun _ => rfl) [2, 3, 5] [2, 3] (by kernel_rfl) ?_
      clear h; rintro k x21_1_1 h K21 hnext21 hexit21
      rw [riddleref01_Exact_l0] at h
      refine WX.seq ?_
      refine WX.seq ?_
      refine WC.reg (n := 38) (by assumption) [] [2, 3, 5, 24] [2, 3] ⟨[(2, .ptr 2 0), (3, .ptr 3 0), (5, .p (.s (.int .i64 x21_1_1))), (24, .p (.s (.bool ((decide (x21_1_1 < (a0.Words.length : Int)))))))], [(2, .box 39 [.p (.s (.int .i64 a0.N)), .p (slV (eI .u64) a0.Words)]), (3, .box 39 [.p (.s (.int .i64 a1.N)), .p (slV (eI .u64) a1.Words)])], ⟨[], false⟩, []⟩ trivial (by kernel_rfl) ?_
      rcases if_or h with ⟨c35, h⟩ | ⟨c35, h⟩
      · refine WC.condT c35 (by kernel_rfl) ?_
        refine WX.skip ?_
        refine WX.seq ?_
        refine WX.block ?_
        refine WX.seq ?_
        obtain ⟨t36_2, h36_1, h⟩ := bind_some h
        obtain ⟨t36_4, h36_3, h⟩ := bind_some h
        refine WC.drw (n := 38) (by assumption) [] [] [(3, .val (.p (.rop ((eI .u64).cells t36_2 ++ encL (eI .u64) (a0.Words.drop (x21_1_1.toNat + 1)))))), (8, .val (.p (.rop ((eI .u64).cells t36_4 ++ encL (eI .u64) (a1.Words.drop (x21_1_1.toNat + 1))))))] [2, 3, 5, 37] [2, 3] ⟨[(2, .ptr 2 0), (3, .ptr 3 0), (5, .p (.s (.int .i64 x21_1_1))), (37, .p (.s (.bool ((t36_2 != t36_4)))))], [(2, .box 39 [.p (.s (.int .i64 a0.N)), .p (slV (eI .u64) a0.Words)]), (3, .box 39 [.p (.s (.int .i64 a1.N)), .p (slV (eI .u64) a1.Words)])], ⟨[], false⟩, []⟩ (And.intro (Ix (eI .u64) h36_1) (And.intro (Ix (eI .u64) h36_3) (trivial))) (by kernel_rfl) (by kernel_rfl) (by kernel_rfl) (by kernel_rfl) ?_
        rcases if_or h with ⟨c37, h⟩ | ⟨c37, h⟩
        · refine WC.condT c37 (by kernel_rfl) ?_
          refine WX.seq ?_
          refine WC.reg (n := 38) (by assumption) [] [4] [] ⟨[(4, .p (.s (.bool false)))], [], ⟨[], false⟩, []⟩ trivial (by kernel_rfl) ?_
          refine WX.ret ?_
          refine WC.ret_all (hexit21 _ _ (by simp) ?_)
          exact WC.outP (by rw [← Option.some.inj h]; kernel_rfl)
        · refine WC.condF c37 (by kernel_rfl) ?_
          refine WX.skip ?_
          refine WX.popBlk ?_
          refine WC.reg (n := 38) (by assumption) [] [2, 3, 5] [2, 3] ⟨[(2, .ptr 2 0), (3, .ptr 3 0), (5, .p (.s (.int .i64 ((IntKind.i64.wrap (x21_1_1 + 1))))))], [(2, .box 39 [.p (.s (.int .i64 a0.N)), .p (slV (eI .u64) a0.Words)]), (3, .box 39 [.p (.s (.int .i64 a1.N)), .p (slV (eI .u64) a1.Words)])], ⟨[], false⟩, []⟩ trivial (by kernel_rfl) ?_
          exact WC.next [2, 3, 5] [2, 3] (by kernel_rfl) (hnext21 ((IntKind.i64.wrap (x21_1_1 + 1))) h)
      · refine WC.condF c35 (by kernel_rfl) ?_
        refine WX.exit ?_
        refine WX.popCodeExit ?_
        refine WC.exit_nil (hexit21 _ _ (by simp) ?_)
        refine WX.popBlkHit ?_
        exact WC.keep [] [] (by kernel_rfl) (hJ6 () h)
def riddlelaw13_RingJoins (k : Nat) (a0 : api_Ring) (a1 : api_Bits) (a2 : (List Int)) : Option (Bool) :=
  (riddlelaw13_live k).bind fun t2_2 => (if (!t2_2) = true then some false else (if (0 : Int) ≤ 0 ∧ 0 ≤ (IntKind.i64.wrap (((a2.length : Int)).tdiv 2)) ∧ (IntKind.i64.wrap (((a2.length : Int)).tdiv 2)) ≤ (a2.length : Nat) then (ring_Run k a0 a1 (sub_ a2 0 ((IntKind.i64.wrap (((a2.length : Int)).tdiv 2))))).bind fun t6_3 => (if (0 : Int) ≤ (IntKind.i64.wrap (((a2.length : Int)).tdiv 2)) ∧ (IntKind.i64.wrap (((a2.length : Int)).tdiv 2)) ≤ (a2.length : Int) ∧ (a2.length : Int) ≤ (a2.length : Nat) then (ring_Run k a0 t6_3 (sub_ a2 ((IntKind.i64.wrap (((a2.length : Int)).tdiv 2))) ((a2.length : Int)))).bind fun t6_6 => (ring_Trigger k a0 t6_6).bind fun t7_2 => (ring_Check a0).bind fun t9_2 => jn (fun (v10 : Int) => (ring_Run k a0 a1 a2).bind fun t13_2 => (riddleref01_Exact k t6_6 t13_2).bind fun t13_4 => ((if t13_4 = true then (riddleref01_Check k t7_2).bind fun t13_6 => (if (t13_6 == 0) = true then (if (t7_2.N == (IntKind.i64.wrap (v10 + 1))) = true then (riddleref01_Has k t7_2 0).bind fun t13_8 => some t13_8 else some false) else some false) else some false) : Option (Bool)).bind fun v13 => some v13) fun J10 => (if (t9_2 != 0) = true then J10 1 else J10 a0.Most) else none) else none))
theorem riddlelaw13_RingJoins_ok {k : Nat} {a0 : api_Ring} {a1 : api_Bits} {a2 : (List Int)} {r : Bool} (h : riddlelaw13_RingJoins k a0 a1 a2 = some r) : Ans Tryd.prog 5 [.agg [.s (.int .u64 a0.Class.a0), .s (.int .u64 a0.Class.a1), .s (.int .u64 a0.Class.a2), .s (.int .u64 a0.Class.a3), .s (.int .i64 a0.Least), .s (.int .i64 a0.Most)], .agg [.s (.int .i64 a1.N), slV (eI .u64) a1.Words], slV (eI .u8) a2] (.s (.bool r)) := by
  refine W_fn Tryd.func5 rfl (by kernel_rfl) (by kernel_rfl) ?_
  intro X hro hn
  unfold riddlelaw13_RingJoins at h
  refine WX.seq ?_
  refine WC.reg (n := 57) (by assumption) [] [2, 3, 4] [3, 4] ⟨[(2, .p (slV (eI .u8) a2)), (3, .ptr 3 0), (4, .ptr 4 0)], [(3, .box 26 [.p (.s (.int .u64 a0.Class.a0)), .p (.s (.int .u64 a0.Class.a1)), .p (.s (.int .u64 a0.Class.a2)), .p (.s (.int .u64 a0.Class.a3)), .p (.s (.int .i64 a0.Least)), .p (.s (.int .i64 a0.Most))]), (4, .box 39 [.p (.s (.int .i64 a1.N)), .p (slV (eI .u64) a1.Words)])], ⟨[], false⟩, []⟩ trivial (by kernel_rfl) ?_
  refine WX.seq ?_
  refine WX.seq ?_
  obtain ⟨t2_2, h2_1, h⟩ := bind_some h
  refine WC.reg (n := 57) (by assumption) [(0, .resP (.s (.bool t2_2)))] [2, 3, 4, 12] [3, 4] ⟨[(2, .p (slV (eI .u8) a2)), (3, .ptr 3 0), (4, .ptr 4 0), (12, .p (.s (.bool ((!t2_2)))))], [(3, .box 26 [.p (.s (.int .u64 a0.Class.a0)), .p (.s (.int .u64 a0.Class.a1)), .p (.s (.int .u64 a0.Class.a2)), .p (.s (.int .u64 a0.Class.a3)), .p (.s (.int .i64 a0.Least)), .p (.s (.int .i64 a0.Most))]), (4, .box 39 [.p (.s (.int .i64 a1.N)), .p (slV (eI .u64) a1.Words)])], ⟨[], false⟩, []⟩ (And.intro ((riddlelaw13_live_ok h2_1)) (trivial)) (by kernel_rfl) ?_
  rcases if_or h with ⟨c3, h⟩ | ⟨c3, h⟩
  · refine WC.condT c3 (by kernel_rfl) ?_
    refine WX.seq ?_
    refine WC.reg (n := 57) (by assumption) [] [6] [] ⟨[(6, .p (.s (.bool false)))], [], ⟨[], false⟩, []⟩ trivial (by kernel_rfl) ?_
    refine WX.ret ?_
    exact WC.outP (by rw [← Option.some.inj h]; kernel_rfl)
  · refine WC.condF c3 (by kernel_rfl) ?_
    refine WX.skip ?_
    refine WX.seq ?_
    refine WC.reg (n := 57) (by assumption) [] [2, 3, 4, 7] [3, 4] ⟨[(2, .p (slV (eI .u8) a2)), (3, .ptr 3 0), (4, .ptr 4 0), (7, .p (.s (.int .i64 ((IntKind.i64.wrap (((a2.length : Int)).tdiv 2))))))], [(3, .box 26 [.p (.s (.int .u64 a0.Class.a0)), .p (.s (.int .u64 a0.Class.a1)), .p (.s (.int .u64 a0.Class.a2)), .p (.s (.int .u64 a0.Class.a3)), .p (.s (.int .i64 a0.Least)), .p (.s (.int .i64 a0.Most))]), (4, .box 39 [.p (.s (.int .i64 a1.N)), .p (slV (eI .u64) a1.Words)])], ⟨[], false⟩, []⟩ trivial (by kernel_rfl) ?_
    refine WX.seq ?_
    obtain ⟨c6_1, h⟩ := if_some h
    obtain ⟨t6_3, h6_2, h⟩ := bind_some h
    obtain ⟨c6_4, h⟩ := if_some h
    obtain ⟨t6_6, h6_5, h⟩ := bind_some h
    refine WC.drw (n := 57) (by assumption) [(12, [])] [8] [(5, .val (.p (slV (eI .u8) (sub_ a2 0 ((IntKind.i64.wrap (((a2.length : Int)).tdiv 2))))))), (6, .resP (.agg [.s (.int .i64 t6_3.N), slV (eI .u64) t6_3.Words])), (9, .val (.p (slV (eI .u8) (sub_ a2 ((IntKind.i64.wrap (((a2.length : Int)).tdiv 2))) ((a2.length : Int)))))), (10, .resP (.agg [.s (.int .i64 t6_6.N), slV (eI .u64) t6_6.Words]))] [2, 3, 4, 8] [3, 4, 8] ⟨[(2, .p (slV (eI .u8) a2)), (3, .ptr 3 0), (4, .ptr 4 0), (8, .ptr 8 0)], [(3, .box 26 [.p (.s (.int .u64 a0.Class.a0)), .p (.s (.int .u64 a0.Class.a1)), .p (.s (.int .u64 a0.Class.a2)), .p (.s (.int .u64 a0.Class.a3)), .p (.s (.int .i64 a0.Least)), .p (.s (.int .i64 a0.Most))]), (4, .box 39 [.p (.s (.int .i64 a1.N)), .p (slV (eI .u64) a1.Words)]), (8, .box 39 [.p (.s (.int .i64 t6_6.N)), .p (slV (eI .u64) t6_6.Words)])], ⟨[], false⟩, []⟩ (And.intro (Sl (eI .u8) a2 0 ((IntKind.i64.wrap (((a2.length : Int)).tdiv 2))) c6_1) (And.intro ((ring_Run_ok h6_2)) (And.intro (Sl (eI .u8) a2 ((IntKind.i64.wrap (((a2.length : Int)).tdiv 2))) ((a2.length : Int)) c6_4) (And.intro ((ring_Run_ok h6_5)) (trivial))))) (by kernel_rfl) (by kernel_rfl) (by kernel_rfl) (by kernel_rfl) ?_
    refine WX.seq ?_
    obtain ⟨t7_2, h7_1, h⟩ := bind_some h
    refine WC.reg (n := 57) (by assumption) [(2, .resP (.agg [.s (.int .i64 t7_2.N), slV (eI .u64) t7_2.Words]))] [2, 3, 4, 8, 9] [3, 4, 8, 9] ⟨[(2, .p (slV (eI .u8) a2)), (3, .ptr 3 0), (4, .ptr 4 0), (8, .ptr 8 0), (9, .ptr 9 0)], [(3, .box 26 [.p (.s (.int .u64 a0.Class.a0)), .p (.s (.int .u64 a0.Class.a1)), .p (.s (.int .u64 a0.Class.a2)), .p (.s (.int .u64 a0.Class.a3)), .p (.s (.int .i64 a0.Least)), .p (.s (.int .i64 a0.Most))]), (4, .box 39 [.p (.s (.int .i64 a1.N)), .p (slV (eI .u64) a1.Words)]), (8, .box 39 [.p (.s (.int .i64 t6_6.N)), .p (slV (eI .u64) t6_6.Words)]), (9, .box 39 [.p (.s (.int .i64 t7_2.N)), .p (slV (eI .u64) t7_2.Words)])], ⟨[], false⟩, []⟩ (And.intro ((ring_Trigger_ok h7_1)) (trivial)) (by kernel_rfl) ?_
    refine WX.seq ?_
    refine WC.reg (n := 57) (by assumption) [] [2, 3, 4, 8, 9, 10] [3, 4, 8, 9] ⟨[(2, .p (slV (eI .u8) a2)), (3, .ptr 3 0), (4, .ptr 4 0), (8, .ptr 8 0), (9, .ptr 9 0), (10, .p (.s (.int .i64 a0.Most)))], [(3, .box 26 [.p (.s (.int .u64 a0.Class.a0)), .p (.s (.int .u64 a0.Class.a1)), .p (.s (.int .u64 a0.Class.a2)), .p (.s (.int .u64 a0.Class.a3)), .p (.s (.int .i64 a0.Least)), .p (.s (.int .i64 a0.Most))]), (4, .box 39 [.p (.s (.int .i64 a1.N)), .p (slV (eI .u64) a1.Words)]), (8, .box 39 [.p (.s (.int .i64 t6_6.N)), .p (slV (eI .u64) t6_6.Words)]), (9, .box 39 [.p (.s (.int .i64 t7_2.N)), .p (slV (eI .u64) t7_2.Words)])], ⟨[], false⟩, []⟩ trivial (by kernel_rfl) ?_
    refine WX.seq ?_
    refine WX.seq ?_
    obtain ⟨t9_2, h9_1, h⟩ := bind_some h
    refine WC.reg (n := 57) (by assumption) [(1, .resP (.s (.int .i64 t9_2)))] [2, 3, 4, 8, 9, 10, 34] [3, 4, 8, 9] ⟨[(2, .p (slV (eI .u8) a2)), (3, .ptr 3 0), (4, .ptr 4 0), (8, .ptr 8 0), (9, .ptr 9 0), (10, .p (.s (.int .i64 a0.Most))), (34, .p (.s (.bool ((t9_2 != 0)))))], [(3, .box 26 [.p (.s (.int .u64 a0.Class.a0)), .p (.s (.int .u64 a0.Class.a1)), .p (.s (.int .u64 a0.Class.a2)), .p (.s (.int .u64 a0.Class.a3)), .p (.s (.int .i64 a0.Least)), .p (.s (.int .i64 a0.Most))]), (4, .box 39 [.p (.s (.int .i64 a1.N)), .p (slV (eI .u64) a1.Words)]), (8, .box 39 [.p (.s (.int .i64 t6_6.N)), .p (slV (eI .u64) t6_6.Words)]), (9, .box 39 [.p (.s (.int .i64 t7_2.N)), .p (slV (eI .u64) t7_2.Words)])], ⟨[], false⟩, []⟩ (And.intro ((ring_Check_ok h9_1)) (trivial)) (by kernel_rfl) ?_
    obtain ⟨J10, eJ10, h⟩ := jn_some h
    try dsimp only at h
    refine WC.join (α := Int) (fun v10 => ⟨[(2, .p (slV (eI .u8) a2)), (3, .ptr 3 0), (4, .ptr 4 0), (8, .ptr 8 0), (9, .ptr 9 0), (10, .p (.s (.int .i64 v10)))], [(3, .box 26 [.p (.s (.int .u64 a0.Class.a0)), .p (.s (.int .u64 a0.Class.a1)), .p (.s (.int .u64 a0.Class.a2)), .p (.s (.int .u64 a0.Class.a3)), .p (.s (.int .i64 a0.Least)), .p (.s (.int .i64 a0.Most))]), (4, .box 39 [.p (.s (.int .i64 a1.N)), .p (slV (eI .u64) a1.Words)]), (8, .box 39 [.p (.s (.int .i64 t6_6.N)), .p (slV (eI .u64) t6_6.Words)]), (9, .box 39 [.p (.s (.int .i64 t7_2.N)), .p (slV (eI .u64) t7_2.Words)])], ⟨[], false⟩, []⟩) (fun v10 => J10 v10 = some r) ?_ (fun hJ10 => ?_)
    · rintro y10_1 h
      rw [eJ10] at h
      try dsimp only at h
      refine WX.seq ?_
      obtain ⟨t13_2, h13_1, h⟩ := bind_some h
      obtain ⟨t13_4, h13_3, h⟩ := bind_some h
      obtain ⟨m13_1, g13, h⟩ := bind_some h
      refine WC.via (α := Bool) (fun v13 => ⟨[(6, .p (.s (.bool v13)))], [], ⟨[], false⟩, []⟩) m13_1 (fun hk => ?_) ?_
      · rcases if_or g13 with ⟨b13_6, g13⟩ | ⟨b13_6, g13⟩
        · obtain ⟨t13_6, h13_5, g13⟩ := bind_some g13
          rcases if_or g13 with ⟨b13_11, g13⟩ | ⟨b13_11, g13⟩
          · rcases if_or g13 with ⟨b13_18, g13⟩ | ⟨b13_18, g13⟩
            · obtain ⟨t13_8, h13_7, g13⟩ := bind_some g13
              exact WC.drw (n := 57) (by assumption) [] [] [(4, .resP (.agg [.s (.int .i64 t13_2.N), slV (eI .u64) t13_2.Words])), (5, .resP (.s (.bool t13_4))), (6, .val (.p (.s (.bool true)))), (8, .resP (.s (.int .i64 t13_6))), (11, .val (.p (.s (.bool true)))), (18, .val (.p (.s (.bool true)))), (20, .resP (.s (.bool t13_8)))] [6] [] ⟨[(6, .p (.s (.bool t13_8)))], [], ⟨[], false⟩, []⟩ (And.intro ((ring_Run_ok h13_1)) (And.intro ((riddleref01_Exact_ok h13_3)) (And.intro (Bl b13_6) (And.intro ((riddleref01_Check_ok h13_5)) (And.intro (Bl b13_11) (And.intro (Bl b13_18) (And.intro ((riddleref01_Has_ok h13_7)) (trivial)))))))) (by kernel_rfl) (by kernel_rfl) (by kernel_rfl) (by kernel_rfl) (hk t13_8 (Option.some.inj g13))
            · exact WC.drw (n := 57) (by assumption) [] [] [(4, .resP (.agg [.s (.int .i64 t13_2.N), slV (eI .u64) t13_2.Words])), (5, .resP (.s (.bool t13_4))), (6, .val (.p (.s (.bool true)))), (8, .resP (.s (.int .i64 t13_6))), (11, .val (.p (.s (.bool true)))), (18, .val (.p (.s (.bool false))))] [6] [] ⟨[(6, .p (.s (.bool false)))], [], ⟨[], false⟩, []⟩ (And.intro ((ring_Run_ok h13_1)) (And.intro ((riddleref01_Exact_ok h13_3)) (And.intro (Bl b13_6) (And.intro ((riddleref01_Check_ok h13_5)) (And.intro (Bl b13_11) (And.intro (Bl b13_18) (trivial))))))) (by kernel_rfl) (by kernel_rfl) (by kernel_rfl) (by kernel_rfl) (hk false (Option.some.inj g13))
          · exact WC.drw (n := 57) (by assumption) [] [] [(4, .resP (.agg [.s (.int .i64 t13_2.N), slV (eI .u64) t13_2.Words])), (5, .resP (.s (.bool t13_4))), (6, .val (.p (.s (.bool true)))), (8, .resP (.s (.int .i64 t13_6))), (11, .val (.p (.s (.bool false))))] [6] [] ⟨[(6, .p (.s (.bool false)))], [], ⟨[], false⟩, []⟩ (And.intro ((ring_Run_ok h13_1)) (And.intro ((riddleref01_Exact_ok h13_3)) (And.intro (Bl b13_6) (And.intro ((riddleref01_Check_ok h13_5)) (And.intro (Bl b13_11) (trivial)))))) (by kernel_rfl) (by kernel_rfl) (by kernel_rfl) (by kernel_rfl) (hk false (Option.some.inj g13))
        · exact WC.drw (n := 57) (by assumption) [] [] [(4, .resP (.agg [.s (.int .i64 t13_2.N), slV (eI .u64) t13_2.Words])), (5, .resP (.s (.bool t13_4))), (6, .val (.p (.s (.bool false))))] [6] [] ⟨[(6, .p (.s (.bool false)))], [], ⟨[], false⟩, []⟩ (And.intro ((ring_Run_ok h13_1)) (And.intro ((riddleref01_Exact_ok h13_3)) (And.intro (Bl b13_6) (trivial)))) (by kernel_rfl) (by kernel_rfl) (by kernel_rfl) (by kernel_rfl) (hk false (Option.some.inj g13))
      refine WX.ret ?_
      exact WC.outP (by rw [← Option.some.inj h]; kernel_rfl)
    · replace hJ10 := fun y10_1 => hJ10 y10_1
      rcases if_or h with ⟨c14, h⟩ | ⟨c14, h⟩
      · refine WC.condT c14 (by kernel_rfl) ?_
        refine WC.reg (n := 57) (by assumption) [] [2, 3, 4, 8, 9, 10] [3, 4, 8, 9] ⟨[(2, .p (slV (eI .u8) a2)), (3, .ptr 3 0), (4, .ptr 4 0), (8, .ptr 8 0), (9, .ptr 9 0), (10, .p (.s (.int .i64 1)))], [(3, .box 26 [.p (.s (.int .u64 a0.Class.a0)), .p (.s (.int .u64 a0.Class.a1)), .p (.s (.int .u64 a0.Class.a2)), .p (.s (.int .u64 a0.Class.a3)), .p (.s (.int .i64 a0.Least)), .p (.s (.int .i64 a0.Most))]), (4, .box 39 [.p (.s (.int .i64 a1.N)), .p (slV (eI .u64) a1.Words)]), (8, .box 39 [.p (.s (.int .i64 t6_6.N)), .p (slV (eI .u64) t6_6.Words)]), (9, .box 39 [.p (.s (.int .i64 t7_2.N)), .p (slV (eI .u64) t7_2.Words)])], ⟨[], false⟩, []⟩ trivial (by kernel_rfl) ?_
        exact WC.keep [2, 3, 4, 8, 9, 10] [3, 4, 8, 9] (by kernel_rfl) (hJ10 1 h)
      · refine WC.condF c14 (by kernel_rfl) ?_
        refine WX.skip ?_
        exact WC.keep [2, 3, 4, 8, 9, 10] [3, 4, 8, 9] (by kernel_rfl) (hJ10 a0.Most h)
def slices_Backward_uint64_uint64 (a0 : (List Int)) : Option (((List Int))) :=
  some a0
theorem slices_Backward_uint64_uint64_ok {a0 : (List Int)} {r : ((List Int))} (h : slices_Backward_uint64_uint64 a0 = some r) : Ans Tryd.prog 54 [slV (eI .u64) a0] (.fn 62 [.rop ([slV (eI .u64) r])]) := by
  refine W_fn Tryd.func54 rfl (by kernel_rfl) (by kernel_rfl) ?_
  intro X hro hn
  unfold slices_Backward_uint64_uint64 at h
  refine WX.seq ?_
  refine WC.reg (n := 4) (by assumption) [] [1] [1] ⟨[(1, .ptr 1 0)], [(1, .box 37 [.p (slV (eI .u64) a0)])], ⟨[], false⟩, []⟩ trivial (by kernel_rfl) ?_
  refine WX.seq ?_
  refine WC.reg (n := 4) (by assumption) [] [2] [1] ⟨[(2, .fn 62 [.ptr 1 0])], [(1, .box 37 [.p (slV (eI .u64) a0)])], ⟨[], false⟩, []⟩ trivial (by kernel_rfl) ?_
  refine WX.ret ?_
  exact WC.outP (by rw [← Option.some.inj h]; kernel_rfl)
def bits_Len64 (a0 : Int) : Option (Int) :=
  jn (fun (v3 : Int × Int) => jn (fun (v8 : Int × Int) => jn (fun (v13 : Int × Int) => (at_ (([0, 1, 2, 2, 3, 3, 3, 3, 4, 4, 4, 4, 4, 4, 4, 4, 5, 5, 5, 5, 5, 5, 5, 5, 5, 5, 5, 5, 5, 5, 5, 5, 6, 6, 6, 6, 6, 6, 6, 6, 6, 6, 6, 6, 6, 6, 6, 6, 6, 6, 6, 6, 6, 6, 6, 6, 6, 6, 6, 6, 6, 6, 6, 6, 7, 7, 7, 7, 7, 7, 7, 7, 7, 7, 7, 7, 7, 7, 7, 7, 7, 7, 7, 7, 7, 7, 7, 7, 7, 7, 7, 7, 7, 7, 7, 7, 7, 7, 7, 7, 7, 7, 7, 7, 7, 7, 7, 7, 7, 7, 7, 7, 7, 7, 7, 7, 7, 7, 7, 7, 7, 7, 7, 7, 7, 7, 7, 7, 8, 8, 8, 8, 8, 8, 8, 8, 8, 8, 8, 8, 8, 8, 8, 8, 8, 8, 8, 8, 8, 8, 8, 8, 8, 8, 8, 8, 8, 8, 8, 8, 8, 8, 8, 8, 8, 8, 8, 8, 8, 8, 8, 8, 8, 8, 8, 8, 8, 8, 8, 8, 8, 8, 8, 8, 8, 8, 8, 8, 8, 8, 8, 8, 8, 8, 8, 8, 8, 8, 8, 8, 8, 8, 8, 8, 8, 8, 8, 8, 8, 8, 8, 8, 8, 8, 8, 8, 8, 8, 8, 8, 8, 8, 8, 8, 8, 8, 8, 8, 8, 8, 8, 8, 8, 8, 8, 8, 8, 8, 8, 8, 8, 8, 8, 8, 8, 8, 8, 8, 8, 8, 8, 8, 8, 8, 8, 8] : List Int)) ((IntKind.u8.wrap v13.1))).bind fun t17_2 => some ((IntKind.i64.wrap (v13.2 + (IntKind.i64.wrap t17_2))))) fun J13 => (if (decide (v8.1 ≥ 256)) = true then J13 ((v8.1.fdiv (2 ^ 8)), (IntKind.i64.wrap (v8.2 + 8))) else J13 (v8.1, v8.2))) fun J8 => (if (decide (v3.1 ≥ 65536)) = true then J8 ((v3.1.fdiv (2 ^ 16)), (IntKind.i64.wrap (v3.2 + 16))) else J8 (v3.1, v3.2))) fun J3 => (if (decide (a0 ≥ 4294967296)) = true then J3 ((a0.fdiv (2 ^ 32)), 32) else J3 (a0, 0))
theorem bits_Len64_ok {a0 : Int} {r : Int} (h : bits_Len64 a0 = some r) : Ans Tryd.prog 55 [.s (.int .u64 a0)] (.s (.int .i64 r)) := by
  refine W_fn Tryd.func55 rfl (by kernel_rfl) (by kernel_rfl) ?_
  intro X hro hn
  unfold bits_Len64 at h
  refine WX.seq ?_
  refine WC.reg (n := 25) (by assumption) [] [0, 2] [] ⟨[(0, .p (.s (.int .u64 a0))), (2, .p (.s (.int .i64 0)))], [], ⟨[], false⟩, []⟩ trivial (by kernel_rfl) ?_
  refine WX.seq ?_
  refine WX.seq ?_
  refine WC.reg (n := 25) (by assumption) [] [0, 2, 4] [] ⟨[(0, .p (.s (.int .u64 a0))), (2, .p (.s (.int .i64 0))), (4, .p (.s (.bool ((decide (a0 ≥ 4294967296))))))], [], ⟨[], false⟩, []⟩ trivial (by kernel_rfl) ?_
  obtain ⟨J3, eJ3, h⟩ := jn_some h
  try dsimp only at h
  refine WC.join (α := Int × Int) (fun v3 => ⟨[(0, .p (.s (.int .u64 v3.1))), (2, .p (.s (.int .i64 v3.2)))], [], ⟨[], false⟩, []⟩) (fun v3 => J3 v3 = some r) ?_ (fun hJ3 => ?_)
  · rintro ⟨y3_1, y3_2⟩ h
    rw [eJ3] at h
    try dsimp only at h
    refine WX.seq ?_
    refine WX.seq ?_
    refine WC.reg (n := 25) (by assumption) [] [0, 2, 8] [] ⟨[(0, .p (.s (.int .u64 y3_1))), (2, .p (.s (.int .i64 y3_2))), (8, .p (.s (.bool ((decide (y3_1 ≥ 65536))))))], [], ⟨[], false⟩, []⟩ trivial (by kernel_rfl) ?_
    obtain ⟨J8, eJ8, h⟩ := jn_some h
    try dsimp only at h
    refine WC.join (α := Int × Int) (fun v8 => ⟨[(0, .p (.s (.int .u64 v8.1))), (2, .p (.s (.int .i64 v8.2)))], [], ⟨[], false⟩, []⟩) (fun v8 => J8 v8 = some r) ?_ (fun hJ8 => ?_)
    · rintro ⟨y8_1, y8_2⟩ h
      rw [eJ8] at h
      try dsimp only at h
      refine WX.seq ?_
      refine WX.seq ?_
      refine WC.reg (n := 25) (by assumption) [] [0, 2, 14] [] ⟨[(0, .p (.s (.int .u64 y8_1))), (2, .p (.s (.int .i64 y8_2))), (14, .p (.s (.bool ((decide (y8_1 ≥ 256))))))], [], ⟨[], false⟩, []⟩ trivial (by kernel_rfl) ?_
      obtain ⟨J13, eJ13, h⟩ := jn_some h
      try dsimp only at h
      refine WC.join (α := Int × Int) (fun v13 => ⟨[(0, .p (.s (.int .u64 v13.1))), (2, .p (.s (.int .i64 v13.2)))], [], ⟨[], false⟩, []⟩) (fun v13 => J13 v13 = some r) ?_ (fun hJ13 => ?_)
      · rintro ⟨y13_1, y13_2⟩ h
        rw [eJ13] at h
        try dsimp only at h
        refine WX.seq ?_
        obtain ⟨t17_2, h17_1, h⟩ := bind_some h
        refine WC.reg (n := 25) (by assumption) [(3, .val (.p (.s (.int .u8 t17_2))))] [2] [] ⟨[(2, .p (.s (.int .i64 ((IntKind.i64.wrap (y13_2 + (IntKind.i64.wrap t17_2)))))))], [], ⟨[], false⟩, []⟩ (And.intro (IxS (s := (ByteArray.mk (List.toArray [0, 1, 2, 2, 3, 3, 3, 3, 4, 4, 4, 4, 4, 4, 4, 4, 5, 5, 5, 5, 5, 5, 5, 5, 5, 5, 5, 5, 5, 5, 5, 5, 6, 6, 6, 6, 6, 6, 6, 6, 6, 6, 6, 6, 6, 6, 6, 6, 6, 6, 6, 6, 6, 6, 6, 6, 6, 6, 6, 6, 6, 6, 6, 6, 7, 7, 7, 7, 7, 7, 7, 7, 7, 7, 7, 7, 7, 7, 7, 7, 7, 7, 7, 7, 7, 7, 7, 7, 7, 7, 7, 7, 7, 7, 7, 7, 7, 7, 7, 7, 7, 7, 7, 7, 7, 7, 7, 7, 7, 7, 7, 7, 7, 7, 7, 7, 7, 7, 7, 7, 7, 7, 7, 7, 7, 7, 7, 7, 8, 8, 8, 8, 8, 8, 8, 8, 8, 8, 8, 8, 8, 8, 8, 8, 8, 8, 8, 8, 8, 8, 8, 8, 8, 8, 8, 8, 8, 8, 8, 8, 8, 8, 8, 8, 8, 8, 8, 8, 8, 8, 8, 8, 8, 8, 8, 8, 8, 8, 8, 8, 8, 8, 8, 8, 8, 8, 8, 8, 8, 8, 8, 8, 8, 8, 8, 8, 8, 8, 8, 8, 8, 8, 8, 8, 8, 8, 8, 8, 8, 8, 8, 8, 8, 8, 8, 8, 8, 8, 8, 8, 8, 8, 8, 8, 8, 8, 8, 8, 8, 8, 8, 8, 8, 8, 8, 8, 8, 8, 8, 8, 8, 8, 8, 8, 8, 8, 8, 8, 8, 8, 8, 8, 8, 8, 8, 8]))) (by kernel_rfl) h17_1) (trivial)) (by kernel_rfl) ?_
        refine WX.ret ?_
        exact WC.outP (by rw [← Option.some.inj h]; kernel_rfl)
      · replace hJ13 := fun y13_1 y13_2 => hJ13 (y13_1, y13_2)
        rcases if_or h with ⟨c18, h⟩ | ⟨c18, h⟩
        · refine WC.condT c18 (by kernel_rfl) ?_
          refine WX.seq ?_
          refine WC.reg (n := 25) (by assumption) [] [0, 2] [] ⟨[(0, .p (.s (.int .u64 ((y8_1.fdiv (2 ^ 8)))))), (2, .p (.s (.int .i64 y8_2)))], [], ⟨[], false⟩, []⟩ trivial (by kernel_rfl) ?_
          refine WC.reg (n := 25) (by assumption) [] [0, 2] [] ⟨[(0, .p (.s (.int .u64 ((y8_1.fdiv (2 ^ 8)))))), (2, .p (.s (.int .i64 ((IntKind.i64.wrap (y8_2 + 8))))))], [], ⟨[], false⟩, []⟩ trivial (by kernel_rfl) ?_
          exact WC.keep [0, 2] [] (by kernel_rfl) (hJ13 ((y8_1.fdiv (2 ^ 8))) ((IntKind.i64.wrap (y8_2 + 8))) h)
        · refine WC.condF c18 (by kernel_rfl) ?_
          refine WX.skip ?_
          exact WC.keep [0, 2] [] (by kernel_rfl) (hJ13 y8_1 y8_2 h)
    · replace hJ8 := fun y8_1 y8_2 => hJ8 (y8_1, y8_2)
      rcases if_or h with ⟨c21, h⟩ | ⟨c21, h⟩
      · refine WC.condT c21 (by kernel_rfl) ?_
        refine WX.seq ?_
        refine WC.reg (n := 25) (by assumption) [] [0, 2] [] ⟨[(0, .p (.s (.int .u64 ((y3_1.fdiv (2 ^ 16)))))), (2, .p (.s (.int .i64 y3_2)))], [], ⟨[], false⟩, []⟩ trivial (by kernel_rfl) ?_
        refine WC.reg (n := 25) (by assumption) [] [0, 2] [] ⟨[(0, .p (.s (.int .u64 ((y3_1.fdiv (2 ^ 16)))))), (2, .p (.s (.int .i64 ((IntKind.i64.wrap (y3_2 + 16))))))], [], ⟨[], false⟩, []⟩ trivial (by kernel_rfl) ?_
        exact WC.keep [0, 2] [] (by kernel_rfl) (hJ8 ((y3_1.fdiv (2 ^ 16))) ((IntKind.i64.wrap (y3_2 + 16))) h)
      · refine WC.condF c21 (by kernel_rfl) ?_
        refine WX.skip ?_
        exact WC.keep [0, 2] [] (by kernel_rfl) (hJ8 y3_1 y3_2 h)
  · replace hJ3 := fun y3_1 y3_2 => hJ3 (y3_1, y3_2)
    rcases if_or h with ⟨c24, h⟩ | ⟨c24, h⟩
    · refine WC.condT c24 (by kernel_rfl) ?_
      refine WX.seq ?_
      refine WC.reg (n := 25) (by assumption) [] [0] [] ⟨[(0, .p (.s (.int .u64 ((a0.fdiv (2 ^ 32))))))], [], ⟨[], false⟩, []⟩ trivial (by kernel_rfl) ?_
      refine WC.reg (n := 25) (by assumption) [] [0, 2] [] ⟨[(0, .p (.s (.int .u64 ((a0.fdiv (2 ^ 32)))))), (2, .p (.s (.int .i64 32)))], [], ⟨[], false⟩, []⟩ trivial (by kernel_rfl) ?_
      exact WC.keep [0, 2] [] (by kernel_rfl) (hJ3 ((a0.fdiv (2 ^ 32))) 32 h)
    · refine WC.condF c24 (by kernel_rfl) ?_
      refine WX.skip ?_
      exact WC.keep [0, 2] [] (by kernel_rfl) (hJ3 a0 0 h)
def slices_Backward_uint64_uint64_1_v1_l0 (a1 : (List Int)) : Nat → Int → Option (List (Int × Int))
  | 0, _ => none
  | k + 1, x2_1_1 => (if (decide (x2_1_1 ≥ 0)) = true then (at_ a1 x2_1_1).bind fun t13_2 => (slices_Backward_uint64_uint64_1_v1_l0 a1 k ((IntKind.i64.wrap (x2_1_1 - 1)))).map ((x2_1_1, t13_2) :: ·) else some [])
def slices_Backward_uint64_uint64_1_v1 (k : Nat) (a1 : (List Int)) : Option (List (Int × Int)) :=
  slices_Backward_uint64_uint64_1_v1_l0 a1 k ((IntKind.i64.wrap ((a1.length : Int) - 1)))
theorem slices_Backward_uint64_uint64_1_v1_it {k : Nat} {a1 : (List Int)} {r : List (Int × Int)} (h : slices_Backward_uint64_uint64_1_v1 k a1 = some r) : Iter Tryd.prog 62 [.rop ([slV (eI .u64) a1])] (r.map (fun x : Int × Int => ([.int .i64 x.1, .int .u64 x.2] : List Value))) := by
  refine W_it Tryd.func62 rfl (by kernel_rfl) (Nat.le_of_ble_eq_true (by kernel_rfl)) ?_
  intro X hro hn hY
  obtain ⟨L, hLe⟩ : ∃ L, L = r.map (fun x : Int × Int => ([.int .i64 x.1, .int .u64 x.2] : List Value)) := ⟨_, rfl⟩
  rw [← hLe] at hY ⊢
  have hL : ([] : List (List Value)) ++ r.map (fun x : Int × Int => ([.int .i64 x.1, .int .u64 x.2] : List Value)) = L := by rw [hLe]; rfl
  clear hLe
  unfold slices_Backward_uint64_uint64_1_v1 at h
  refine WX.seq ?_
  refine WC.reg (n := 19) (by assumption) [] [0, 1, 3] [] ⟨[(0, .yield), (1, .p (.rop ([slV (eI .u64) a1]))), (3, .p (.s (.int .i64 ((IntKind.i64.wrap ((a1.length : Int) - 1))))))], [], ⟨([] : List (List Value)), false⟩, []⟩ trivial (by kernel_rfl) ?_
  refine WX.block ?_
  refine WC.loop (V := Int × List (List Value)) (fun k v2 => (slices_Backward_uint64_uint64_1_v1_l0 a1 k v2.1).map fun r => v2.2 ++ r.map (fun x : Int × Int => ([.int .i64 x.1, .int .u64 x.2] : List Value))) L (fun v2 => ⟨[(0, .yield), (1, .p (.rop ([slV (eI .u64) a1]))), (3, .p (.s (.int .i64 v2.1)))], [], ⟨v2.2, false⟩, []⟩) _ ((IntKind.i64.wrap ((a1.length : Int) - 1)), ([] : List (List Value))) (by rw [h]; exact congrArg some hL) (fun _ => rfl) [0, 1, 3] [] (by kernel_rfl) ?_
  clear h hL; rintro k ⟨x2_1_1, x2_1_2⟩ h K2 hnext2 hexit2
  obtain ⟨r, h, hL⟩ := mapO_some h
  dsimp only at h hL
  rw [slices_Backward_uint64_uint64_1_v1_l0] at h
  refine WX.seq ?_
  refine WX.seq ?_
  refine WC.reg (n := 19) (by assumption) [] [0, 1, 3, 8] [] ⟨[(0, .yield), (1, .p (.rop ([slV (eI .u64) a1]))), (3, .p (.s (.int .i64 x2_1_1))), (8, .p (.s (.bool ((decide (x2_1_1 ≥ 0))))))], [], ⟨x2_1_2, false⟩, []⟩ trivial (by kernel_rfl) ?_
  rcases if_or h with ⟨c12, h⟩ | ⟨c12, h⟩
  · refine WC.condT c12 (by kernel_rfl) ?_
    refine WX.skip ?_
    refine WX.seq ?_
    refine WX.block ?_
    refine WX.seq ?_
    obtain ⟨t13_2, h13_1, h⟩ := bind_some h
    obtain ⟨r13, hh13, hr13⟩ := mapO_some h
    subst hr13
    replace h := hh13
    refine WC.yld (n := 19) (by assumption) hY 6 [(4, .val (.p (.rop ((eI .u64).cells t13_2 ++ encL (eI .u64) (a1.drop (x2_1_1.toNat + 1))))))] [0, 1, 3, 18] [] (⟨[(0, .yield), (1, .p (.rop ([slV (eI .u64) a1]))), (3, .p (.s (.int .i64 x2_1_1))), (18, .p (.s (.bool false)))], [], ⟨(x2_1_2 ++ [[.int .i64 x2_1_1, .int .u64 t13_2]]), false⟩, []⟩) (⟨[(0, .yield), (1, .p (.rop ([slV (eI .u64) a1]))), (3, .p (.s (.int .i64 x2_1_1))), (18, .p (.s (.bool true)))], [], ⟨(x2_1_2 ++ [[.int .i64 x2_1_1, .int .u64 t13_2]]), true⟩, []⟩) x2_1_2 [.int .i64 x2_1_1, .int .u64 t13_2] (And.intro (And.intro (Ix (eI .u64) h13_1) (True.intro)) (And.intro True.intro True.intro)) (by kernel_rfl) (pre_ok (val := (fun x : Int × Int => ([.int .i64 x.1, .int .u64 x.2] : List Value))) (x := (x2_1_1, t13_2)) (l := r13) hL) ?_ ?_
    · replace hL : (x2_1_2 ++ [[.int .i64 x2_1_1, .int .u64 t13_2]]) ++ r13.map (fun x : Int × Int => ([.int .i64 x.1, .int .u64 x.2] : List Value)) = L := by rw [← hL]; simp
      refine WC.condF rfl (by kernel_rfl) ?_
      refine WX.skip ?_
      refine WX.popBlk ?_
      refine WC.reg (n := 19) (by assumption) [] [0, 1, 3] [] ⟨[(0, .yield), (1, .p (.rop ([slV (eI .u64) a1]))), (3, .p (.s (.int .i64 ((IntKind.i64.wrap (x2_1_1 - 1))))))], [], ⟨(x2_1_2 ++ [[.int .i64 x2_1_1, .int .u64 t13_2]]), false⟩, []⟩ trivial (by kernel_rfl) ?_
      exact WC.next [0, 1, 3] [] (by kernel_rfl) (hnext2 ((IntKind.i64.wrap (x2_1_1 - 1)), (x2_1_2 ++ [[.int .i64 x2_1_1, .int .u64 t13_2]])) (by rw [h]; exact congrArg some hL))
    · refine WC.condT rfl (by kernel_rfl) ?_
      refine WX.ret ?_
      refine WC.ret_all (hexit2 _ _ (by simp) ?_)
      exact WC.ret_all ⟨by kernel_rfl, fun h => by cases h⟩
  · refine WC.condF c12 (by kernel_rfl) ?_
    refine WX.exit ?_
    refine WX.popCodeExit ?_
    refine WC.exit_nil (hexit2 _ _ (by simp) ?_)
    refine WX.popBlkHit ?_
    obtain rfl := Option.some.inj h
    exact WC.exit_nil ⟨by kernel_rfl, fun _ => by simpa using hL⟩
def bits_Last_l0 (k : Nat) : List (Int × Int) → Unit → Option (Int × Bool)
  | [], _ => some (0, false)
  | x6 :: xs6, _ => (if (x6.2 != 0) = true then (bits_Len64 x6.2).bind fun t18_2 => some ((IntKind.i64.wrap ((IntKind.i64.wrap ((IntKind.i64.wrap (64 * x6.1)) + t18_2)) - 1)), true) else bits_Last_l0 k xs6 ())
def bits_Last (k : Nat) (a0 : api_Bits) : Option (Int × Bool) :=
  (bits_Check a0).bind fun t2_2 => (if (t2_2 != 0) = true then some (0, false) else (slices_Backward_uint64_uint64 a0.Words).bind fun t5_2 => (slices_Backward_uint64_uint64_1_v1 k t5_2).bind fun l6 => bits_Last_l0 k l6 ())
theorem bits_Last_ok {k : Nat} {a0 : api_Bits} {r : Int × Bool} (h : bits_Last k a0 = some r) : Ans Tryd.prog 38 [.agg [.s (.int .i64 a0.N), slV (eI .u64) a0.Words]] (.tup [.s (.int .i64 r.1), .s (.bool r.2)]) := by
  refine W_fn Tryd.func38 rfl (by kernel_rfl) (by kernel_rfl) ?_
  intro X hro hn
  unfold bits_Last at h
  refine WX.seq ?_
  refine WC.reg (n := 22) (by assumption) [] [1, 2, 3] [1, 2, 3] ⟨[(1, .ptr 1 0), (2, .ptr 2 0), (3, .ptr 3 0)], [(1, .box 39 [.p (.s (.int .i64 a0.N)), .p (slV (eI .u64) a0.Words)]), (2, .box 3 [.p (.s (.int .i64 0))]), (3, .box 4 [.p (.s (.bool false))])], ⟨[], false⟩, []⟩ trivial (by kernel_rfl) ?_
  refine WX.seq ?_
  refine WX.seq ?_
  obtain ⟨t2_2, h2_1, h⟩ := bind_some h
  refine WC.reg (n := 22) (by assumption) [(1, .resP (.s (.int .i64 t2_2)))] [1, 2, 3, 8] [1, 2, 3] ⟨[(1, .ptr 1 0), (2, .ptr 2 0), (3, .ptr 3 0), (8, .p (.s (.bool ((t2_2 != 0)))))], [(1, .box 39 [.p (.s (.int .i64 a0.N)), .p (slV (eI .u64) a0.Words)]), (2, .box 3 [.p (.s (.int .i64 0))]), (3, .box 4 [.p (.s (.bool false))])], ⟨[], false⟩, []⟩ (And.intro ((bits_Check_ok h2_1)) (trivial)) (by kernel_rfl) ?_
  rcases if_or h with ⟨c3, h⟩ | ⟨c3, h⟩
  · refine WC.condT c3 (by kernel_rfl) ?_
    refine WX.seq ?_
    refine WC.reg (n := 22) (by assumption) [] [2, 3] [2, 3] ⟨[(2, .ptr 2 0), (3, .ptr 3 0)], [(2, .box 3 [.p (.s (.int .i64 0))]), (3, .box 4 [.p (.s (.bool false))])], ⟨[], false⟩, []⟩ trivial (by kernel_rfl) ?_
    refine WX.ret ?_
    exact WC.outP (by rw [← Option.some.inj h]; kernel_rfl)
  · refine WC.condF c3 (by kernel_rfl) ?_
    refine WX.skip ?_
    refine WX.seq ?_
    refine WX.seq ?_
    obtain ⟨t5_2, h5_1, h⟩ := bind_some h
    refine WC.reg (n := 22) (by assumption) [(2, .resP (.fn 62 [.rop ([slV (eI .u64) t5_2])]))] [2, 3, 11] [2, 3] ⟨[(2, .ptr 2 0), (3, .ptr 3 0), (11, .p (.fn 62 [.rop ([slV (eI .u64) t5_2])]))], [(2, .box 3 [.p (.s (.int .i64 0))]), (3, .box 4 [.p (.s (.bool false))])], ⟨[], false⟩, []⟩ (And.intro ((slices_Backward_uint64_uint64_ok h5_1)) (trivial)) (by kernel_rfl) ?_
    refine WX.block ?_
    obtain ⟨l6, hI6, h⟩ := bind_some h
    refine WC.range (V := Unit) (n := 22) (by assumption) (bits_Last_l0 k) r (fun v6 => ⟨[(2, .ptr 2 0), (3, .ptr 3 0), (11, .p (.fn 62 [.rop ([slV (eI .u64) t5_2])]))], [(2, .box 3 [.p (.s (.int .i64 0))]), (3, .box 4 [.p (.s (.bool false))])], ⟨[], false⟩, []⟩) (fun x6 v6 => ⟨[(2, .ptr 2 0), (3, .ptr 3 0), (4, .p (.s (.int .i64 x6.1))), (5, .p (.s (.int .u64 x6.2))), (11, .p (.fn 62 [.rop ([slV (eI .u64) t5_2])])), (12, .p (.s (.int .i64 x6.1))), (13, .p (.s (.int .u64 x6.2)))], [(2, .box 3 [.p (.s (.int .i64 0))]), (3, .box 4 [.p (.s (.bool false))])], ⟨[], false⟩, [[(2, .ptr 2 0), (3, .ptr 3 0), (11, .p (.fn 62 [.rop ([slV (eI .u64) t5_2])]))]]⟩) (fun x : Int × Int => ([.int .i64 x.1, .int .u64 x.2] : List Value)) l6 () h [2, 3, 11] [2, 3] (by kernel_rfl) (fun v6 => .p (.fn 62 [.rop ([slV (eI .u64) t5_2])])) (fun v6 => by kernel_rfl) (by kernel_rfl) (slices_Backward_uint64_uint64_1_v1_it hI6) (by kernel_rfl) (fun v6 => by kernel_rfl) (fun x => ⟨rfl, rfl⟩) ?_ ?_ ?_
    · clear h; rintro _ h
      rw [bits_Last_l0] at h
      refine WX.popBlk ?_
      refine WX.seq ?_
      refine WC.reg (n := 22) (by assumption) [] [2, 3] [2, 3] ⟨[(2, .ptr 2 0), (3, .ptr 3 0)], [(2, .box 3 [.p (.s (.int .i64 0))]), (3, .box 4 [.p (.s (.bool false))])], ⟨[], false⟩, []⟩ trivial (by kernel_rfl) ?_
      refine WX.ret ?_
      exact WC.outP (by rw [← Option.some.inj h]; kernel_rfl)
    · clear h; intro X hn x6; rintro _
      refine WX.seq ?_
      refine WC.reg (n := 22) (by assumption) [] [2, 3, 4, 11, 12, 13] [2, 3] ⟨[(2, .ptr 2 0), (3, .ptr 3 0), (4, .p (.s (.int .i64 x6.1))), (11, .p (.fn 62 [.rop ([slV (eI .u64) t5_2])])), (12, .p (.s (.int .i64 x6.1))), (13, .p (.s (.int .u64 x6.2)))], [(2, .box 3 [.p (.s (.int .i64 0))]), (3, .box 4 [.p (.s (.bool false))])], ⟨[], false⟩, [[(2, .ptr 2 0), (3, .ptr 3 0), (11, .p (.fn 62 [.rop ([slV (eI .u64) t5_2])]))]]⟩ trivial (by kernel_rfl) ?_
      refine WC.reg (n := 22) (by assumption) [] [2, 3, 4, 5, 11, 12, 13] [2, 3] ⟨[(2, .ptr 2 0), (3, .ptr 3 0), (4, .p (.s (.int .i64 x6.1))), (5, .p (.s (.int .u64 x6.2))), (11, .p (.fn 62 [.rop ([slV (eI .u64) t5_2])])), (12, .p (.s (.int .i64 x6.1))), (13, .p (.s (.int .u64 x6.2)))], [(2, .box 3 [.p (.s (.int .i64 0))]), (3, .box 4 [.p (.s (.bool false))])], ⟨[], false⟩, [[(2, .ptr 2 0), (3, .ptr 3 0), (11, .p (.fn 62 [.rop ([slV (eI .u64) t5_2])]))]]⟩ trivial (by kernel_rfl) ?_
      exact WC.exit_nil ⟨rfl, rfl⟩
    · clear h; intro X hn x6 xs6; rintro _ h K6 hnext6 hexit6
      rw [bits_Last_l0] at h
      refine WX.block ?_
      refine WX.seq ?_
      refine WC.reg (n := 22) (by assumption) [] [2, 3, 4, 5, 15] [2, 3] ⟨[(2, .ptr 2 0), (3, .ptr 3 0), (4, .p (.s (.int .i64 x6.1))), (5, .p (.s (.int .u64 x6.2))), (15, .p (.s (.bool ((x6.2 != 0)))))], [(2, .box 3 [.p (.s (.int .i64 0))]), (3, .box 4 [.p (.s (.bool false))])], ⟨[], false⟩, [[(2, .ptr 2 0), (3, .ptr 3 0), (11, .p (.fn 62 [.rop ([slV (eI .u64) t5_2])]))]]⟩ trivial (by kernel_rfl) ?_
      rcases if_or h with ⟨c17, h⟩ | ⟨c17, h⟩
      · refine WC.condT c17 (by kernel_rfl) ?_
        refine WX.seq ?_
        obtain ⟨t18_2, h18_1, h⟩ := bind_some h
        refine WC.reg (n := 22) (by assumption) [(3, .resP (.s (.int .i64 t18_2)))] [] [2, 3] ⟨[], [(2, .box 3 [.p (.s (.int .i64 ((IntKind.i64.wrap ((IntKind.i64.wrap ((IntKind.i64.wrap (64 * x6.1)) + t18_2)) - 1)))))]), (3, .box 4 [.p (.s (.bool true))])], ⟨[], false⟩, [[(2, .ptr 2 0), (3, .ptr 3 0), (11, .p (.fn 62 [.rop ([slV (eI .u64) t5_2])]))]]⟩ (And.intro ((bits_Len64_ok h18_1)) (trivial)) (by kernel_rfl) ?_
        refine WX.ret ?_
        refine WC.ret_all (hexit6 _ _ (by simp) ?_)
        refine WC.keep [2, 3, 11] [2, 3] (st' := ⟨[(2, .ptr 2 0), (3, .ptr 3 0), (11, .p (.fn 62 [.rop ([slV (eI .u64) t5_2])]))], [(2, .box 3 [.p (.s (.int .i64 ((IntKind.i64.wrap ((IntKind.i64.wrap ((IntKind.i64.wrap (64 * x6.1)) + t18_2)) - 1)))))]), (3, .box 4 [.p (.s (.bool true))])], ⟨[], false⟩, []⟩) (by kernel_rfl) ?_
        exact WC.outP (by rw [← Option.some.inj h]; kernel_rfl)
      · refine WC.condF c17 (by kernel_rfl) ?_
        refine WX.skip ?_
        refine WX.popBlk ?_
        refine WC.keep [] [2, 3] (st' := ⟨[], [(2, .box 3 [.p (.s (.int .i64 0))]), (3, .box 4 [.p (.s (.bool false))])], ⟨[], false⟩, [[(2, .ptr 2 0), (3, .ptr 3 0), (11, .p (.fn 62 [.rop ([slV (eI .u64) t5_2])]))]]⟩) (by kernel_rfl) ?_
        exact WC.nextR [] [2, 3] (s := ⟨[], [(2, .box 3 [.p (.s (.int .i64 0))]), (3, .box 4 [.p (.s (.bool false))])], ⟨[], false⟩, [[(2, .ptr 2 0), (3, .ptr 3 0), (11, .p (.fn 62 [.rop ([slV (eI .u64) t5_2])]))]]⟩) (by kernel_rfl) rfl (fun s hb => hnext6 () s h hb)
def ring_Oldest (k : Nat) (a0 : api_Ring) (a1 : api_Bits) : Option (Int × Bool) :=
  (ring_may a0).bind fun t2_2 => (ring_state k t2_2 a1).bind fun t2_4 => (bits_Last k t2_4).bind fun t2_6 => some (t2_6.1, t2_6.2)
theorem ring_Oldest_ok {k : Nat} {a0 : api_Ring} {a1 : api_Bits} {r : Int × Bool} (h : ring_Oldest k a0 a1 = some r) : Ans Tryd.prog 19 [.agg [.s (.int .u64 a0.Class.a0), .s (.int .u64 a0.Class.a1), .s (.int .u64 a0.Class.a2), .s (.int .u64 a0.Class.a3), .s (.int .i64 a0.Least), .s (.int .i64 a0.Most)], .agg [.s (.int .i64 a1.N), slV (eI .u64) a1.Words]] (.tup [.s (.int .i64 r.1), .s (.bool r.2)]) := by
  refine W_fn Tryd.func19 rfl (by kernel_rfl) (by kernel_rfl) ?_
  intro X hro hn
  unfold ring_Oldest at h
  refine WX.seq ?_
  refine WC.reg (n := 13) (by assumption) [] [2, 3] [2, 3] ⟨[(2, .ptr 2 0), (3, .ptr 3 0)], [(2, .box 26 [.p (.s (.int .u64 a0.Class.a0)), .p (.s (.int .u64 a0.Class.a1)), .p (.s (.int .u64 a0.Class.a2)), .p (.s (.int .u64 a0.Class.a3)), .p (.s (.int .i64 a0.Least)), .p (.s (.int .i64 a0.Most))]), (3, .box 39 [.p (.s (.int .i64 a1.N)), .p (slV (eI .u64) a1.Words)])], ⟨[], false⟩, []⟩ trivial (by kernel_rfl) ?_
  refine WX.seq ?_
  obtain ⟨t2_2, h2_1, h⟩ := bind_some h
  obtain ⟨t2_4, h2_3, h⟩ := bind_some h
  obtain ⟨t2_6, h2_5, h⟩ := bind_some h
  refine WC.drw (n := 13) (by assumption) [] [] [(1, .resP (.agg [.s (.int .u64 t2_2.Class.a0), .s (.int .u64 t2_2.Class.a1), .s (.int .u64 t2_2.Class.a2), .s (.int .u64 t2_2.Class.a3), .s (.int .i64 t2_2.Least), .s (.int .i64 t2_2.Most)])), (3, .resP (.agg [.s (.int .i64 t2_4.N), slV (eI .u64) t2_4.Words])), (4, .resP (.tup [.s (.int .i64 t2_6.1), .s (.bool t2_6.2)]))] [4, 5] [] ⟨[(4, .p (.s (.int .i64 t2_6.1))), (5, .p (.s (.bool t2_6.2)))], [], ⟨[], false⟩, []⟩ (And.intro ((ring_may_ok h2_1)) (And.intro ((ring_state_ok h2_3)) (And.intro ((bits_Last_ok h2_5)) (trivial)))) (by kernel_rfl) (by kernel_rfl) (by kernel_rfl) (by kernel_rfl) ?_
  refine WX.ret ?_
  exact WC.outP (by rw [← Option.some.inj h]; kernel_rfl)
def riddleref01_List_l0 (a0 : api_Bits) (J4 : List Int → Option ((List Int))) : Nat → (List Int × Int) → Option ((List Int))
  | 0, _ => none
  | k + 1, (x21_1_1, x21_1_2) => (riddleref01_may k a0).bind fun t36_2 => (if (decide (x21_1_2 < t36_2.N)) = true then (riddleref01_Has k a0 x21_1_2).bind fun t38_2 => (if t38_2 = true then (if okApp 8 (x21_1_1.length + ([x21_1_2]).length) then riddleref01_List_l0 a0 J4 k (x21_1_1 ++ ([x21_1_2]), (IntKind.i64.wrap (x21_1_2 + 1))) else none) else riddleref01_List_l0 a0 J4 k (x21_1_1, (IntKind.i64.wrap (x21_1_2 + 1)))) else J4 x21_1_1)
def riddleref01_List (k : Nat) (a0 : api_Bits) : Option ((List Int)) :=
  jn (fun (v4 : List Int) => some v4) fun J4 => riddleref01_List_l0 a0 J4 k (([] : List Int), 0)
theorem riddleref01_List_ok {k : Nat} {a0 : api_Bits} {r : (List Int)} (h : riddleref01_List k a0 = some r) : AnsO Tryd.prog 39 [] [.p (.agg [.s (.int .i64 a0.N), slV (eI .u64) a0.Words])] [(18, rowV 3 (eI .i64) r)] (.own 18) := by
  refine W_fnO [18] Tryd.func39 rfl (by kernel_rfl) (by kernel_rfl) (by kernel_rfl) (by kernel_rfl) ?_
  intro X hro hn
  unfold riddleref01_List at h
  refine WX.seq ?_
  refine WC.reg (n := 20) (by assumption) [] [1] [1] ⟨[(1, .ptr 1 0)], [(1, .box 39 [.p (.s (.int .i64 a0.N)), .p (slV (eI .u64) a0.Words)])], ⟨[], false⟩, []⟩ trivial (by kernel_rfl) ?_
  refine WX.seq ?_
  refine WC.reg (n := 20) (by assumption) [] [1, 3] [1] ⟨[(1, .ptr 1 0), (3, .p (.sl .nil 0 []))], [(1, .box 39 [.p (.s (.int .i64 a0.N)), .p (slV (eI .u64) a0.Words)])], ⟨[], false⟩, []⟩ trivial (by kernel_rfl) ?_
  refine WX.seq ?_
  refine WX.seq ?_
  refine WC.reg (n := 20) (by assumption) [] [1, 3, 4] [1] ⟨[(1, .ptr 1 0), (3, .p (.sl .nil 0 [])), (4, .p (.s (.int .i64 0)))], [(1, .box 39 [.p (.s (.int .i64 a0.N)), .p (slV (eI .u64) a0.Words)])], ⟨[], false⟩, []⟩ trivial (by kernel_rfl) ?_
  obtain ⟨J4, eJ4, h⟩ := jn_some h
  try dsimp only at h
  refine WC.join (α := List Int) (fun v4 => ⟨[(3, .own 18)], [(18, rowV 3 (eI .i64) v4)], ⟨[], false⟩, []⟩) (fun v4 => J4 v4 = some r) ?_ (fun hJ4 => ?_)
  · rintro y4_1 h
    rw [eJ4] at h
    try dsimp only at h
    refine WX.seq ?_
    refine WC.reg (n := 20) (by assumption) [] [2] [18] ⟨[(2, .own 18)], [(18, rowV 3 (eI .i64) y4_1)], ⟨[], false⟩, []⟩ trivial (by kernel_rfl) ?_
    refine WX.ret ?_
    exact WC.outO (by rw [← Option.some.inj h]; kernel_rfl)
  · replace hJ4 := fun y4_1 => hJ4 y4_1
    refine WX.block ?_
    refine WC.nil (n := 20) (by assumption) [3] none 18 3 1 (by kernel_rfl) [1, 3, 4] [1, 18] (st' := ⟨[(1, .ptr 1 0), (3, .own 18), (4, .p (.s (.int .i64 0)))], [(1, .box 39 [.p (.s (.int .i64 a0.N)), .p (slV (eI .u64) a0.Words)]), (18, rowV 3 (eI .i64) (([] : List Int)))], ⟨[], false⟩, []⟩) (by kernel_rfl) ?_
    refine WC.loop (V := List Int × Int) (riddleref01_List_l0 a0 J4) r (fun v21 => ⟨[(1, .ptr 1 0), (3, .own 18), (4, .p (.s (.int .i64 v21.2)))], [(1, .box 39 [.p (.s (.int .i64 a0.N)), .p (slV (eI .u64) a0.Words)]), (18, rowV 3 (eI .i64) v21.1)], ⟨[], false⟩, []⟩) _ (([] : List Int), 0) h (fun _ => rfl) [1, 3, 4] [1, 18] (by kernel_rfl) ?_
    clear h; rintro k ⟨x21_1_1, x21_1_2⟩ h K21 hnext21 hexit21
    rw [riddleref01_List_l0] at h
    refine WX.seq ?_
    refine WX.seq ?_
    obtain ⟨t36_2, h36_1, h⟩ := bind_some h
    refine WC.reg (n := 20) (by assumption) [(2, .resP (.agg [.s (.int .i64 t36_2.N), slV (eI .u64) t36_2.Words]))] [1, 3, 4, 9] [1, 18] ⟨[(1, .ptr 1 0), (3, .own 18), (4, .p (.s (.int .i64 x21_1_2))), (9, .p (.s (.bool ((decide (x21_1_2 < t36_2.N))))))], [(1, .box 39 [.p (.s (.int .i64 a0.N)), .p (slV (eI .u64) a0.Words)]), (18, rowV 3 (eI .i64) x21_1_1)], ⟨[], false⟩, []⟩ (And.intro ((riddleref01_may_ok h36_1)) (trivial)) (by kernel_rfl) ?_
    rcases if_or h with ⟨c37, h⟩ | ⟨c37, h⟩
    · refine WC.condT c37 (by kernel_rfl) ?_
      refine WX.skip ?_
      refine WX.seq ?_
      refine WX.block ?_
      refine WX.seq ?_
      obtain ⟨t38_2, h38_1, h⟩ := bind_some h
      refine WC.reg (n := 20) (by assumption) [(2, .resP (.s (.bool t38_2)))] [1, 3, 4, 14] [1, 18] ⟨[(1, .ptr 1 0), (3, .own 18), (4, .p (.s (.int .i64 x21_1_2))), (14, .p (.s (.bool t38_2)))], [(1, .box 39 [.p (.s (.int .i64 a0.N)), .p (slV (eI .u64) a0.Words)]), (18, rowV 3 (eI .i64) x21_1_1)], ⟨[], false⟩, []⟩ (And.intro ((riddleref01_Has_ok h38_1)) (trivial)) (by kernel_rfl) ?_
      rcases if_or h with ⟨c39, h⟩ | ⟨c39, h⟩
      · refine WC.condT c39 (by kernel_rfl) ?_
        obtain ⟨c40_1, h⟩ := if_some h
        refine WC.reg (n := 20) (by assumption) [(3, .app (some 18) (rowV 3 (eI .i64) (x21_1_1 ++ ([x21_1_2]))))] [1, 3, 4] [1, 18] ⟨[(1, .ptr 1 0), (3, .own 18), (4, .p (.s (.int .i64 x21_1_2)))], [(1, .box 39 [.p (.s (.int .i64 a0.N)), .p (slV (eI .u64) a0.Words)]), (18, rowV 3 (eI .i64) (x21_1_1 ++ ([x21_1_2])))], ⟨[], false⟩, []⟩ (And.intro (Ap (eI .i64) (some 18) 3 8 1 x21_1_1 ([x21_1_2]) c40_1) (trivial)) (by kernel_rfl) ?_
        refine WX.popBlk ?_
        refine WC.reg (n := 20) (by assumption) [] [1, 3, 4] [1, 18] ⟨[(1, .ptr 1 0), (3, .own 18), (4, .p (.s (.int .i64 ((IntKind.i64.wrap (x21_1_2 + 1))))))], [(1, .box 39 [.p (.s (.int .i64 a0.N)), .p (slV (eI .u64) a0.Words)]), (18, rowV 3 (eI .i64) (x21_1_1 ++ ([x21_1_2])))], ⟨[], false⟩, []⟩ trivial (by kernel_rfl) ?_
        exact WC.next [1, 3, 4] [1, 18] (by kernel_rfl) (hnext21 (x21_1_1 ++ ([x21_1_2]), (IntKind.i64.wrap (x21_1_2 + 1))) h)
      · refine WC.condF c39 (by kernel_rfl) ?_
        refine WX.skip ?_
        refine WX.popBlk ?_
        refine WC.reg (n := 20) (by assumption) [] [1, 3, 4] [1, 18] ⟨[(1, .ptr 1 0), (3, .own 18), (4, .p (.s (.int .i64 ((IntKind.i64.wrap (x21_1_2 + 1))))))], [(1, .box 39 [.p (.s (.int .i64 a0.N)), .p (slV (eI .u64) a0.Words)]), (18, rowV 3 (eI .i64) x21_1_1)], ⟨[], false⟩, []⟩ trivial (by kernel_rfl) ?_
        exact WC.next [1, 3, 4] [1, 18] (by kernel_rfl) (hnext21 (x21_1_1, (IntKind.i64.wrap (x21_1_2 + 1))) h)
    · refine WC.condF c37 (by kernel_rfl) ?_
      refine WX.exit ?_
      refine WX.popCodeExit ?_
      refine WC.exit_nil (hexit21 _ _ (by simp) ?_)
      refine WX.popBlkHit ?_
      exact WC.keep [3] [18] (by kernel_rfl) (hJ4 x21_1_1 h)
theorem riddleref01_List_okP {k : Nat} {a0 : api_Bits} {r : (List Int)} (h : riddleref01_List k a0 = some r) : Ans Tryd.prog 39 [.agg [.s (.int .i64 a0.N), slV (eI .u64) a0.Words]] (slV (eI .i64) r) := AnsO.ans (args := [.agg [.s (.int .i64 a0.N), slV (eI .u64) a0.Words]]) (riddleref01_List_ok h) (by kernel_rfl)
def riddleref13_Oldest (k : Nat) (a0 : api_Ring) (a1 : api_Bits) : Option (Int × Bool) :=
  (riddleref13_state k a0 a1).bind fun t2_2 => (riddleref01_List k t2_2).bind fun t2_4 => (if ((t2_4.length : Int) == 0) = true then some (0, false) else (at_ t2_4 ((IntKind.i64.wrap ((t2_4.length : Int) - 1)))).bind fun t6_2 => some (t6_2, true))
theorem riddleref13_Oldest_ok {k : Nat} {a0 : api_Ring} {a1 : api_Bits} {r : Int × Bool} (h : riddleref13_Oldest k a0 a1 = some r) : Ans Tryd.prog 20 [.agg [.s (.int .u64 a0.Class.a0), .s (.int .u64 a0.Class.a1), .s (.int .u64 a0.Class.a2), .s (.int .u64 a0.Class.a3), .s (.int .i64 a0.Least), .s (.int .i64 a0.Most)], .agg [.s (.int .i64 a1.N), slV (eI .u64) a1.Words]] (.tup [.s (.int .i64 r.1), .s (.bool r.2)]) := by
  refine W_fn Tryd.func20 rfl (by kernel_rfl) (by kernel_rfl) ?_
  intro X hro hn
  unfold riddleref13_Oldest at h
  refine WX.seq ?_
  refine WC.reg (n := 20) (by assumption) [] [2, 3] [2, 3] ⟨[(2, .ptr 2 0), (3, .ptr 3 0)], [(2, .box 26 [.p (.s (.int .u64 a0.Class.a0)), .p (.s (.int .u64 a0.Class.a1)), .p (.s (.int .u64 a0.Class.a2)), .p (.s (.int .u64 a0.Class.a3)), .p (.s (.int .i64 a0.Least)), .p (.s (.int .i64 a0.Most))]), (3, .box 39 [.p (.s (.int .i64 a1.N)), .p (slV (eI .u64) a1.Words)])], ⟨[], false⟩, []⟩ trivial (by kernel_rfl) ?_
  refine WX.seq ?_
  obtain ⟨t2_2, h2_1, h⟩ := bind_some h
  obtain ⟨t2_4, h2_3, h⟩ := bind_some h
  refine WC.reg (n := 20) (by assumption) [(2, .resP (.agg [.s (.int .i64 t2_2.N), slV (eI .u64) t2_2.Words])), (3, .co [] [] [] [(10, rowV 3 (eI .i64) t2_4)] (.own 10))] [6] [10] ⟨[(6, .own 10)], [(10, rowV 3 (eI .i64) t2_4)], ⟨[], false⟩, []⟩ (And.intro ((riddleref13_state_ok h2_1)) (And.intro (And.intro ((riddleref01_List_ok h2_3).ren 18 10 (by kernel_rfl)) (trivial)) (trivial))) (by kernel_rfl) ?_
  refine WX.seq ?_
  refine WX.seq ?_
  refine WC.reg (n := 20) (by assumption) [] [6, 13] [10] ⟨[(6, .own 10), (13, .p (.s (.bool (((t2_4.length : Int) == 0)))))], [(10, rowV 3 (eI .i64) t2_4)], ⟨[], false⟩, []⟩ trivial (by kernel_rfl) ?_
  rcases if_or h with ⟨c4, h⟩ | ⟨c4, h⟩
  · refine WC.condT c4 (by kernel_rfl) ?_
    refine WX.seq ?_
    refine WC.reg (n := 20) (by assumption) [] [4, 5] [] ⟨[(4, .p (.s (.int .i64 0))), (5, .p (.s (.bool false)))], [], ⟨[], false⟩, []⟩ trivial (by kernel_rfl) ?_
    refine WX.ret ?_
    exact WC.outP (by rw [← Option.some.inj h]; kernel_rfl)
  · refine WC.condF c4 (by kernel_rfl) ?_
    refine WX.skip ?_
    refine WX.seq ?_
    obtain ⟨t6_2, h6_1, h⟩ := bind_some h
    refine WC.reg (n := 20) (by assumption) [(4, .val (.ptr 10 (((IntKind.i64.wrap ((t2_4.length : Int) - 1))).toNat * 1))), (5, .val (.p (.s (.int .i64 t6_2))))] [4, 5] [] ⟨[(4, .p (.s (.int .i64 t6_2))), (5, .p (.s (.bool true)))], [], ⟨[], false⟩, []⟩ (And.intro (IxO 10 1 h6_1) (And.intro (LdO0 Tryd.prog (eI .i64) 3 h6_1) (trivial))) (by kernel_rfl) ?_
    refine WX.ret ?_
    exact WC.outP (by rw [← Option.some.inj h]; kernel_rfl)
def riddleref13_Run_l0 (a0 : api_Ring) (a2 : (List Int)) (J4 : (Int × List Int) → Option (api_Bits)) : Nat → (Int × Int × List Int) → Option (api_Bits)
  | 0, _ => none
  | k + 1, (x16_1_1, x16_1_2, x16_1_3) => (if (decide (x16_1_1 < (a2.length : Int))) = true then (at_ a2 x16_1_1).bind fun t28_2 => (riddleref13_Next k a0 ((api_Bits.mk x16_1_2 x16_1_3)) t28_2).bind fun t28_4 => riddleref13_Run_l0 a0 a2 J4 k ((IntKind.i64.wrap (x16_1_1 + 1)), t28_4.N, t28_4.Words) else J4 (x16_1_2, x16_1_3))
def riddleref13_Run (k : Nat) (a0 : api_Ring) (a1 : api_Bits) (a2 : (List Int)) : Option (api_Bits) :=
  (riddleref13_state k a0 a1).bind fun t2_2 => (riddleref01_Copy k t2_2).bind fun t2_4 => jn (fun (v4 : Int × List Int) => some ((api_Bits.mk v4.1 v4.2))) fun J4 => riddleref13_Run_l0 a0 a2 J4 k (0, t2_4.N, t2_4.Words)
theorem riddleref13_Run_ok {k : Nat} {a0 : api_Ring} {a1 : api_Bits} {a2 : (List Int)} {r : api_Bits} (h : riddleref13_Run k a0 a1 a2 = some r) : Ans Tryd.prog 27 [.agg [.s (.int .u64 a0.Class.a0), .s (.int .u64 a0.Class.a1), .s (.int .u64 a0.Class.a2), .s (.int .u64 a0.Class.a3), .s (.int .i64 a0.Least), .s (.int .i64 a0.Most)], .agg [.s (.int .i64 a1.N), slV (eI .u64) a1.Words], slV (eI .u8) a2] (.agg [.s (.int .i64 r.N), slV (eI .u64) r.Words]) := by
  refine W_fn Tryd.func27 rfl (by kernel_rfl) (by kernel_rfl) ?_
  intro X hro hn
  unfold riddleref13_Run at h
  refine WX.seq ?_
  refine WC.reg (n := 26) (by assumption) [] [2, 3, 4, 6] [3, 4, 6] ⟨[(2, .p (slV (eI .u8) a2)), (3, .ptr 3 0), (4, .ptr 4 0), (6, .ptr 6 0)], [(3, .box 26 [.p (.s (.int .u64 a0.Class.a0)), .p (.s (.int .u64 a0.Class.a1)), .p (.s (.int .u64 a0.Class.a2)), .p (.s (.int .u64 a0.Class.a3)), .p (.s (.int .i64 a0.Least)), .p (.s (.int .i64 a0.Most))]), (4, .box 39 [.p (.s (.int .i64 a1.N)), .p (slV (eI .u64) a1.Words)]), (6, .box 39 [.p (.s (.int .i64 0)), .p (.sl .nil 0 [])])], ⟨[], false⟩, []⟩ trivial (by kernel_rfl) ?_
  refine WX.seq ?_
  obtain ⟨t2_2, h2_1, h⟩ := bind_some h
  obtain ⟨t2_4, h2_3, h⟩ := bind_some h
  refine WC.reg (n := 26) (by assumption) [(2, .resP (.agg [.s (.int .i64 t2_2.N), slV (eI .u64) t2_2.Words])), (3, .co [] [] [] [(11, rowV 22 (eI .u64) t2_4.Words)] (.agg [.p (.s (.int .i64 t2_4.N)), .own 11]))] [2, 3, 4, 6] [3, 4, 6, 11] ⟨[(2, .p (slV (eI .u8) a2)), (3, .ptr 3 0), (4, .ptr 4 0), (6, .ptr 6 0)], [(3, .box 26 [.p (.s (.int .u64 a0.Class.a0)), .p (.s (.int .u64 a0.Class.a1)), .p (.s (.int .u64 a0.Class.a2)), .p (.s (.int .u64 a0.Class.a3)), .p (.s (.int .i64 a0.Least)), .p (.s (.int .i64 a0.Most))]), (4, .box 39 [.p (.s (.int .i64 t2_4.N)), .own 11]), (6, .box 39 [.p (.s (.int .i64 0)), .p (.sl .nil 0 [])]), (11, rowV 22 (eI .u64) t2_4.Words)], ⟨[], false⟩, []⟩ (And.intro ((riddleref13_state_ok h2_1)) (And.intro (And.intro (riddleref01_Copy_ok h2_3) (trivial)) (trivial))) (by kernel_rfl) ?_
  refine WX.seq ?_
  refine WX.seq ?_
  refine WC.reg (n := 26) (by assumption) [] [2, 3, 4, 6, 7] [3, 4, 6, 11] ⟨[(2, .p (slV (eI .u8) a2)), (3, .ptr 3 0), (4, .ptr 4 0), (6, .ptr 6 0), (7, .p (.s (.int .i64 0)))], [(3, .box 26 [.p (.s (.int .u64 a0.Class.a0)), .p (.s (.int .u64 a0.Class.a1)), .p (.s (.int .u64 a0.Class.a2)), .p (.s (.int .u64 a0.Class.a3)), .p (.s (.int .i64 a0.Least)), .p (.s (.int .i64 a0.Most))]), (4, .box 39 [.p (.s (.int .i64 t2_4.N)), .own 11]), (6, .box 39 [.p (.s (.int .i64 0)), .p (.sl .nil 0 [])]), (11, rowV 22 (eI .u64) t2_4.Words)], ⟨[], false⟩, []⟩ trivial (by kernel_rfl) ?_
  obtain ⟨J4, eJ4, h⟩ := jn_some h
  try dsimp only at h
  refine WC.join (α := Int × List Int) (fun v4 => ⟨[(4, .ptr 4 0), (6, .ptr 6 0)], [(4, .box 39 [.p (.s (.int .i64 v4.1)), .p (slV (eI .u64) v4.2)]), (6, .box 39 [.p (.s (.int .i64 0)), .p (.sl .nil 0 [])])], ⟨[], false⟩, []⟩) (fun v4 => J4 v4 = some r) ?_ (fun hJ4 => ?_)
  · rintro ⟨y4_1, y4_2⟩ h
    rw [eJ4] at h
    try dsimp only at h
    refine WX.seq ?_
    refine WC.reg (n := 26) (by assumption) [] [6] [6] ⟨[(6, .ptr 6 0)], [(6, .box 39 [.p (.s (.int .i64 y4_1)), .p (slV (eI .u64) y4_2)])], ⟨[], false⟩, []⟩ trivial (by kernel_rfl) ?_
    refine WX.ret ?_
    exact WC.outP (by rw [← Option.some.inj h]; kernel_rfl)
  · replace hJ4 := fun y4_1 y4_2 => hJ4 (y4_1, y4_2)
    refine WX.block ?_
    refine WC.frz 11 (st' := ⟨[(2, .p (slV (eI .u8) a2)), (3, .ptr 3 0), (4, .ptr 4 0), (6, .ptr 6 0), (7, .p (.s (.int .i64 0)))], [(3, .box 26 [.p (.s (.int .u64 a0.Class.a0)), .p (.s (.int .u64 a0.Class.a1)), .p (.s (.int .u64 a0.Class.a2)), .p (.s (.int .u64 a0.Class.a3)), .p (.s (.int .i64 a0.Least)), .p (.s (.int .i64 a0.Most))]), (4, .box 39 [.p (.s (.int .i64 t2_4.N)), .p (slV (eI .u64) t2_4.Words)]), (6, .box 39 [.p (.s (.int .i64 0)), .p (.sl .nil 0 [])])], ⟨[], false⟩, []⟩) (by kernel_rfl) ?_
    refine WC.loop (V := Int × Int × List Int) (riddleref13_Run_l0 a0 a2 J4) r (fun v16 => ⟨[(2, .p (slV (eI .u8) a2)), (3, .ptr 3 0), (4, .ptr 4 0), (6, .ptr 6 0), (7, .p (.s (.int .i64 v16.1)))], [(3, .box 26 [.p (.s (.int .u64 a0.Class.a0)), .p (.s (.int .u64 a0.Class.a1)), .p (.s (.int .u64 a0.Class.a2)), .p (.s (.int .u64 a0.Class.a3)), .p (.s (.int .i64 a0.Least)), .p (.s (.int .i64 a0.Most))]), (4, .box 39 [.p (.s (.int .i64 v16.2.1)), .p (slV (eI .u64) v16.2.2)]), (6, .box 39 [.p (.s (.int .i64 0)), .p (.sl .nil 0 [])])], ⟨[], false⟩, []⟩) _ (0, t2_4.N, t2_4.Words) h (fun _ => rfl) [2, 3, 4, 6, 7] [3, 4, 6] (by kernel_rfl) ?_
    clear h; rintro k ⟨x16_1_1, x16_1_2, x16_1_3⟩ h K16 hnext16 hexit16
    rw [riddleref13_Run_l0] at h
    refine WX.seq ?_
    refine WX.seq ?_
    refine WC.reg (n := 26) (by assumption) [] [2, 3, 4, 6, 7, 15] [3, 4, 6] ⟨[(2, .p (slV (eI .u8) a2)), (3, .ptr 3 0), (4, .ptr 4 0), (6, .ptr 6 0), (7, .p (.s (.int .i64 x16_1_1))), (15, .p (.s (.bool ((decide (x16_1_1 < (a2.length : Int)))))))], [(3, .box 26 [.p (.s (.int .u64 a0.Class.a0)), .p (.s (.int .u64 a0.Class.a1)), .p (.s (.int .u64 a0.Class.a2)), .p (.s (.int .u64 a0.Class.a3)), .p (.s (.int .i64 a0.Least)), .p (.s (.int .i64 a0.Most))]), (4, .box 39 [.p (.s (.int .i64 x16_1_2)), .p (slV (eI .u64) x16_1_3)]), (6, .box 39 [.p (.s (.int .i64 0)), .p (.sl .nil 0 [])])], ⟨[], false⟩, []⟩ trivial (by kernel_rfl) ?_
    rcases if_or h with ⟨c27, h⟩ | ⟨c27, h⟩
    · refine WC.condT c27 (by kernel_rfl) ?_
      refine WX.skip ?_
      refine WX.seq ?_
      refine WX.block ?_
      obtain ⟨t28_2, h28_1, h⟩ := bind_some h
      obtain ⟨t28_4, h28_3, h⟩ := bind_some h
      refine WC.drw (n := 26) (by assumption) [(7, [])] [] [(4, .val (.p (.rop ((eI .u8).cells t28_2 ++ encL (eI .u8) (a2.drop (x16_1_1.toNat + 1)))))), (6, .resP (.agg [.s (.int .i64 t28_4.N), slV (eI .u64) t28_4.Words]))] [2, 3, 4, 6, 7] [3, 4, 6] ⟨[(2, .p (slV (eI .u8) a2)), (3, .ptr 3 0), (4, .ptr 4 0), (6, .ptr 6 0), (7, .p (.s (.int .i64 x16_1_1)))], [(3, .box 26 [.p (.s (.int .u64 a0.Class.a0)), .p (.s (.int .u64 a0.Class.a1)), .p (.s (.int .u64 a0.Class.a2)), .p (.s (.int .u64 a0.Class.a3)), .p (.s (.int .i64 a0.Least)), .p (.s (.int .i64 a0.Most))]), (4, .box 39 [.p (.s (.int .i64 t28_4.N)), .p (slV (eI .u64) t28_4.Words)]), (6, .box 39 [.p (.s (.int .i64 0)), .p (.sl .nil 0 [])])], ⟨[], false⟩, []⟩ (And.intro (Ix (eI .u8) h28_1) (And.intro ((riddleref13_Next_okP h28_3)) (trivial))) (by kernel_rfl) (by kernel_rfl) (by kernel_rfl) (by kernel_rfl) ?_
      refine WX.popBlk ?_
      refine WC.reg (n := 26) (by assumption) [] [2, 3, 4, 6, 7] [3, 4, 6] ⟨[(2, .p (slV (eI .u8) a2)), (3, .ptr 3 0), (4, .ptr 4 0), (6, .ptr 6 0), (7, .p (.s (.int .i64 ((IntKind.i64.wrap (x16_1_1 + 1))))))], [(3, .box 26 [.p (.s (.int .u64 a0.Class.a0)), .p (.s (.int .u64 a0.Class.a1)), .p (.s (.int .u64 a0.Class.a2)), .p (.s (.int .u64 a0.Class.a3)), .p (.s (.int .i64 a0.Least)), .p (.s (.int .i64 a0.Most))]), (4, .box 39 [.p (.s (.int .i64 t28_4.N)), .p (slV (eI .u64) t28_4.Words)]), (6, .box 39 [.p (.s (.int .i64 0)), .p (.sl .nil 0 [])])], ⟨[], false⟩, []⟩ trivial (by kernel_rfl) ?_
      exact WC.next [2, 3, 4, 6, 7] [3, 4, 6] (by kernel_rfl) (hnext16 ((IntKind.i64.wrap (x16_1_1 + 1)), t28_4.N, t28_4.Words) h)
    · refine WC.condF c27 (by kernel_rfl) ?_
      refine WX.exit ?_
      refine WX.popCodeExit ?_
      refine WC.exit_nil (hexit16 _ _ (by simp) ?_)
      refine WX.popBlkHit ?_
      exact WC.keep [4, 6] [4, 6] (by kernel_rfl) (hJ4 x16_1_2 x16_1_3 h)
def riddlelaw13_RingSteps (k : Nat) (a0 : api_Ring) (a1 : api_Bits) (a2 : (List Int)) : Option (Bool) :=
  (riddlelaw13_live k).bind fun t2_2 => (if (!t2_2) = true then some false else jn (fun (v7 : Int) => (ring_Oldest k a0 a1).bind fun t10_2 => (riddleref13_Oldest k a0 a1).bind fun t11_2 => (ring_Check a0).bind fun t12_2 => (riddleref13_Check a0).bind fun t12_4 => ((if (t12_2 == t12_4) = true then (ring_None k a0).bind fun t12_6 => (riddleref13_None a0).bind fun t12_8 => (riddleref01_Exact k t12_6 t12_8).bind fun t12_10 => (if t12_10 = true then (ring_Trigger k a0 a1).bind fun t12_12 => (riddleref13_Trigger k a0 a1).bind fun t12_14 => (riddleref01_Exact k t12_12 t12_14).bind fun t12_16 => (if t12_16 = true then (ring_Next k a0 a1 v7).bind fun t12_18 => (riddleref13_Next k a0 a1 v7).bind fun t12_20 => (riddleref01_Exact k t12_18 t12_20).bind fun t12_22 => (if t12_22 = true then (ring_Run k a0 a1 a2).bind fun t12_24 => (riddleref13_Run k a0 a1 a2).bind fun t12_26 => (riddleref01_Exact k t12_24 t12_26).bind fun t12_28 => (if t12_28 = true then (ring_Accepts k a0 a1).bind fun t12_30 => (riddleref13_Accepts k a0 a1).bind fun t12_32 => (if (t12_30 == t12_32) = true then (if (t10_2.1 == t11_2.1) = true then some ((t10_2.2 == t11_2.2)) else some false) else some false) else some false) else some false) else some false) else some false) else some false) : Option (Bool)).bind fun v12 => some v12) fun J7 => (if (decide ((a2.length : Int) > 0)) = true then (at_ a2 0).bind fun t14_2 => J7 t14_2 else J7 0))
theorem riddlelaw13_RingSteps_ok {k : Nat} {a0 : api_Ring} {a1 : api_Bits} {a2 : (List Int)} {r : Bool} (h : riddlelaw13_RingSteps k a0 a1 a2 = some r) : Ans Tryd.prog 6 [.agg [.s (.int .u64 a0.Class.a0), .s (.int .u64 a0.Class.a1), .s (.int .u64 a0.Class.a2), .s (.int .u64 a0.Class.a3), .s (.int .i64 a0.Least), .s (.int .i64 a0.Most)], .agg [.s (.int .i64 a1.N), slV (eI .u64) a1.Words], slV (eI .u8) a2] (.s (.bool r)) := by
  refine W_fn Tryd.func6 rfl (by kernel_rfl) (by kernel_rfl) ?_
  intro X hro hn
  unfold riddlelaw13_RingSteps at h
  refine WX.seq ?_
  refine WC.reg (n := 94) (by assumption) [] [2, 3, 4] [3, 4] ⟨[(2, .p (slV (eI .u8) a2)), (3, .ptr 3 0), (4, .ptr 4 0)], [(3, .box 26 [.p (.s (.int .u64 a0.Class.a0)), .p (.s (.int .u64 a0.Class.a1)), .p (.s (.int .u64 a0.Class.a2)), .p (.s (.int .u64 a0.Class.a3)), .p (.s (.int .i64 a0.Least)), .p (.s (.int .i64 a0.Most))]), (4, .box 39 [.p (.s (.int .i64 a1.N)), .p (slV (eI .u64) a1.Words)])], ⟨[], false⟩, []⟩ trivial (by kernel_rfl) ?_
  refine WX.seq ?_
  refine WX.seq ?_
  obtain ⟨t2_2, h2_1, h⟩ := bind_some h
  refine WC.reg (n := 94) (by assumption) [(0, .resP (.s (.bool t2_2)))] [2, 3, 4, 13] [3, 4] ⟨[(2, .p (slV (eI .u8) a2)), (3, .ptr 3 0), (4, .ptr 4 0), (13, .p (.s (.bool ((!t2_2)))))], [(3, .box 26 [.p (.s (.int .u64 a0.Class.a0)), .p (.s (.int .u64 a0.Class.a1)), .p (.s (.int .u64 a0.Class.a2)), .p (.s (.int .u64 a0.Class.a3)), .p (.s (.int .i64 a0.Least)), .p (.s (.int .i64 a0.Most))]), (4, .box 39 [.p (.s (.int .i64 a1.N)), .p (slV (eI .u64) a1.Words)])], ⟨[], false⟩, []⟩ (And.intro ((riddlelaw13_live_ok h2_1)) (trivial)) (by kernel_rfl) ?_
  rcases if_or h with ⟨c3, h⟩ | ⟨c3, h⟩
  · refine WC.condT c3 (by kernel_rfl) ?_
    refine WX.seq ?_
    refine WC.reg (n := 94) (by assumption) [] [6] [] ⟨[(6, .p (.s (.bool false)))], [], ⟨[], false⟩, []⟩ trivial (by kernel_rfl) ?_
    refine WX.ret ?_
    exact WC.outP (by rw [← Option.some.inj h]; kernel_rfl)
  · refine WC.condF c3 (by kernel_rfl) ?_
    refine WX.skip ?_
    refine WX.seq ?_
    refine WC.reg (n := 94) (by assumption) [] [2, 3, 4, 7] [3, 4] ⟨[(2, .p (slV (eI .u8) a2)), (3, .ptr 3 0), (4, .ptr 4 0), (7, .p (.s (.int .u8 0)))], [(3, .box 26 [.p (.s (.int .u64 a0.Class.a0)), .p (.s (.int .u64 a0.Class.a1)), .p (.s (.int .u64 a0.Class.a2)), .p (.s (.int .u64 a0.Class.a3)), .p (.s (.int .i64 a0.Least)), .p (.s (.int .i64 a0.Most))]), (4, .box 39 [.p (.s (.int .i64 a1.N)), .p (slV (eI .u64) a1.Words)])], ⟨[], false⟩, []⟩ trivial (by kernel_rfl) ?_
    refine WX.seq ?_
    refine WX.seq ?_
    refine WC.reg (n := 94) (by assumption) [] [2, 3, 4, 7, 16] [3, 4] ⟨[(2, .p (slV (eI .u8) a2)), (3, .ptr 3 0), (4, .ptr 4 0), (7, .p (.s (.int .u8 0))), (16, .p (.s (.bool ((decide ((a2.length : Int) > 0))))))], [(3, .box 26 [.p (.s (.int .u64 a0.Class.a0)), .p (.s (.int .u64 a0.Class.a1)), .p (.s (.int .u64 a0.Class.a2)), .p (.s (.int .u64 a0.Class.a3)), .p (.s (.int .i64 a0.Least)), .p (.s (.int .i64 a0.Most))]), (4, .box 39 [.p (.s (.int .i64 a1.N)), .p (slV (eI .u64) a1.Words)])], ⟨[], false⟩, []⟩ trivial (by kernel_rfl) ?_
    obtain ⟨J7, eJ7, h⟩ := jn_some h
    try dsimp only at h
    refine WC.join (α := Int) (fun v7 => ⟨[(2, .p (slV (eI .u8) a2)), (3, .ptr 3 0), (4, .ptr 4 0), (7, .p (.s (.int .u8 v7)))], [(3, .box 26 [.p (.s (.int .u64 a0.Class.a0)), .p (.s (.int .u64 a0.Class.a1)), .p (.s (.int .u64 a0.Class.a2)), .p (.s (.int .u64 a0.Class.a3)), .p (.s (.int .i64 a0.Least)), .p (.s (.int .i64 a0.Most))]), (4, .box 39 [.p (.s (.int .i64 a1.N)), .p (slV (eI .u64) a1.Words)])], ⟨[], false⟩, []⟩) (fun v7 => J7 v7 = some r) ?_ (fun hJ7 => ?_)
    · rintro y7_1 h
      rw [eJ7] at h
      try dsimp only at h
      refine WX.seq ?_
      obtain ⟨t10_2, h10_1, h⟩ := bind_some h
      refine WC.reg (n := 94) (by assumption) [(2, .resP (.tup [.s (.int .i64 t10_2.1), .s (.bool t10_2.2)]))] [2, 3, 4, 7, 8, 9] [3, 4] ⟨[(2, .p (slV (eI .u8) a2)), (3, .ptr 3 0), (4, .ptr 4 0), (7, .p (.s (.int .u8 y7_1))), (8, .p (.s (.int .i64 t10_2.1))), (9, .p (.s (.bool t10_2.2)))], [(3, .box 26 [.p (.s (.int .u64 a0.Class.a0)), .p (.s (.int .u64 a0.Class.a1)), .p (.s (.int .u64 a0.Class.a2)), .p (.s (.int .u64 a0.Class.a3)), .p (.s (.int .i64 a0.Least)), .p (.s (.int .i64 a0.Most))]), (4, .box 39 [.p (.s (.int .i64 a1.N)), .p (slV (eI .u64) a1.Words)])], ⟨[], false⟩, []⟩ (And.intro ((ring_Oldest_ok h10_1)) (trivial)) (by kernel_rfl) ?_
      refine WX.seq ?_
      obtain ⟨t11_2, h11_1, h⟩ := bind_some h
      refine WC.reg (n := 94) (by assumption) [(2, .resP (.tup [.s (.int .i64 t11_2.1), .s (.bool t11_2.2)]))] [2, 3, 4, 7, 8, 9, 10, 11] [3, 4] ⟨[(2, .p (slV (eI .u8) a2)), (3, .ptr 3 0), (4, .ptr 4 0), (7, .p (.s (.int .u8 y7_1))), (8, .p (.s (.int .i64 t10_2.1))), (9, .p (.s (.bool t10_2.2))), (10, .p (.s (.int .i64 t11_2.1))), (11, .p (.s (.bool t11_2.2)))], [(3, .box 26 [.p (.s (.int .u64 a0.Class.a0)), .p (.s (.int .u64 a0.Class.a1)), .p (.s (.int .u64 a0.Class.a2)), .p (.s (.int .u64 a0.Class.a3)), .p (.s (.int .i64 a0.Least)), .p (.s (.int .i64 a0.Most))]), (4, .box 39 [.p (.s (.int .i64 a1.N)), .p (slV (eI .u64) a1.Words)])], ⟨[], false⟩, []⟩ (And.intro ((riddleref13_Oldest_ok h11_1)) (trivial)) (by kernel_rfl) ?_
      refine WX.seq ?_
      obtain ⟨t12_2, h12_1, h⟩ := bind_some h
      obtain ⟨t12_4, h12_3, h⟩ := bind_some h
      obtain ⟨m12_1, g12, h⟩ := bind_some h
      refine WC.via (α := Bool) (fun v12 => ⟨[(6, .p (.s (.bool v12)))], [], ⟨[], false⟩, []⟩) m12_1 (fun hk => ?_) ?_
      · rcases if_or g12 with ⟨b12_5, g12⟩ | ⟨b12_5, g12⟩
        · obtain ⟨t12_6, h12_5, g12⟩ := bind_some g12
          obtain ⟨t12_8, h12_7, g12⟩ := bind_some g12
          obtain ⟨t12_10, h12_9, g12⟩ := bind_some g12
          rcases if_or g12 with ⟨b12_12, g12⟩ | ⟨b12_12, g12⟩
          · obtain ⟨t12_12, h12_11, g12⟩ := bind_some g12
            obtain ⟨t12_14, h12_13, g12⟩ := bind_some g12
            obtain ⟨t12_16, h12_15, g12⟩ := bind_some g12
            rcases if_or g12 with ⟨b12_21, g12⟩ | ⟨b12_21, g12⟩
            · obtain ⟨t12_18, h12_17, g12⟩ := bind_some g12
              obtain ⟨t12_20, h12_19, g12⟩ := bind_some g12
              obtain ⟨t12_22, h12_21, g12⟩ := bind_some g12
              rcases if_or g12 with ⟨b12_32, g12⟩ | ⟨b12_32, g12⟩
              · obtain ⟨t12_24, h12_23, g12⟩ := bind_some g12
                obtain ⟨t12_26, h12_25, g12⟩ := bind_some g12
                obtain ⟨t12_28, h12_27, g12⟩ := bind_some g12
                rcases if_or g12 with ⟨b12_43, g12⟩ | ⟨b12_43, g12⟩
                · obtain ⟨t12_30, h12_29, g12⟩ := bind_some g12
                  obtain ⟨t12_32, h12_31, g12⟩ := bind_some g12
                  rcases if_or g12 with ⟨b12_52, g12⟩ | ⟨b12_52, g12⟩
                  · rcases if_or g12 with ⟨b12_57, g12⟩ | ⟨b12_57, g12⟩
                    · exact WC.drw (n := 94) (by assumption) [] [] [(1, .resP (.s (.int .i64 t12_2))), (3, .resP (.s (.int .i64 t12_4))), (5, .val (.p (.s (.bool true)))), (7, .resP (.agg [.s (.int .i64 t12_6.N), slV (eI .u64) t12_6.Words])), (9, .resP (.agg [.s (.int .i64 t12_8.N), slV (eI .u64) t12_8.Words])), (10, .resP (.s (.bool t12_10))), (12, .val (.p (.s (.bool true)))), (15, .resP (.agg [.s (.int .i64 t12_12.N), slV (eI .u64) t12_12.Words])), (18, .resP (.agg [.s (.int .i64 t12_14.N), slV (eI .u64) t12_14.Words])), (19, .resP (.s (.bool t12_16))), (21, .val (.p (.s (.bool true)))), (25, .resP (.agg [.s (.int .i64 t12_18.N), slV (eI .u64) t12_18.Words])), (29, .resP (.agg [.s (.int .i64 t12_20.N), slV (eI .u64) t12_20.Words])), (30, .resP (.s (.bool t12_22))), (32, .val (.p (.s (.bool true)))), (36, .resP (.agg [.s (.int .i64 t12_24.N), slV (eI .u64) t12_24.Words])), (40, .resP (.agg [.s (.int .i64 t12_26.N), slV (eI .u64) t12_26.Words])), (41, .resP (.s (.bool t12_28))), (43, .val (.p (.s (.bool true)))), (46, .resP (.s (.bool t12_30))), (49, .resP (.s (.bool t12_32))), (52, .val (.p (.s (.bool true)))), (57, .val (.p (.s (.bool true))))] [6] [] ⟨[(6, .p (.s (.bool ((t10_2.2 == t11_2.2)))))], [], ⟨[], false⟩, []⟩ (And.intro ((ring_Check_ok h12_1)) (And.intro ((riddleref13_Check_ok h12_3)) (And.intro (Bl b12_5) (And.intro ((ring_None_okP h12_5)) (And.intro ((riddleref13_None_okP h12_7)) (And.intro ((riddleref01_Exact_ok h12_9)) (And.intro (Bl b12_12) (And.intro ((ring_Trigger_ok h12_11)) (And.intro ((riddleref13_Trigger_okP h12_13)) (And.intro ((riddleref01_Exact_ok h12_15)) (And.intro (Bl b12_21) (And.intro ((ring_Next_okP h12_17)) (And.intro ((riddleref13_Next_okP h12_19)) (And.intro ((riddleref01_Exact_ok h12_21)) (And.intro (Bl b12_32) (And.intro ((ring_Run_ok h12_23)) (And.intro ((riddleref13_Run_ok h12_25)) (And.intro ((riddleref01_Exact_ok h12_27)) (And.intro (Bl b12_43) (And.intro ((ring_Accepts_ok h12_29)) (And.intro ((riddleref13_Accepts_ok h12_31)) (And.intro (Bl b12_52) (And.intro (Bl b12_57) (trivial)))))))))))))))))))))))) (by kernel_rfl) (by kernel_rfl) (by kernel_rfl) (by kernel_rfl) (hk ((t10_2.2 == t11_2.2)) (Option.some.inj g12))
                    · exact WC.drw (n := 94) (by assumption) [] [] [(1, .resP (.s (.int .i64 t12_2))), (3, .resP (.s (.int .i64 t12_4))), (5, .val (.p (.s (.bool true)))), (7, .resP (.agg [.s (.int .i64 t12_6.N), slV (eI .u64) t12_6.Words])), (9, .resP (.agg [.s (.int .i64 t12_8.N), slV (eI .u64) t12_8.Words])), (10, .resP (.s (.bool t12_10))), (12, .val (.p (.s (.bool true)))), (15, .resP (.agg [.s (.int .i64 t12_12.N), slV (eI .u64) t12_12.Words])), (18, .resP (.agg [.s (.int .i64 t12_14.N), slV (eI .u64) t12_14.Words])), (19, .resP (.s (.bool t12_16))), (21, .val (.p (.s (.bool true)))), (25, .resP (.agg [.s (.int .i64 t12_18.N), slV (eI .u64) t12_18.Words])), (29, .resP (.agg [.s (.int .i64 t12_20.N), slV (eI .u64) t12_20.Words])), (30, .resP (.s (.bool t12_22))), (32, .val (.p (.s (.bool true)))), (36, .resP (.agg [.s (.int .i64 t12_24.N), slV (eI .u64) t12_24.Words])), (40, .resP (.agg [.s (.int .i64 t12_26.N), slV (eI .u64) t12_26.Words])), (41, .resP (.s (.bool t12_28))), (43, .val (.p (.s (.bool true)))), (46, .resP (.s (.bool t12_30))), (49, .resP (.s (.bool t12_32))), (52, .val (.p (.s (.bool true)))), (57, .val (.p (.s (.bool false))))] [6] [] ⟨[(6, .p (.s (.bool false)))], [], ⟨[], false⟩, []⟩ (And.intro ((ring_Check_ok h12_1)) (And.intro ((riddleref13_Check_ok h12_3)) (And.intro (Bl b12_5) (And.intro ((ring_None_okP h12_5)) (And.intro ((riddleref13_None_okP h12_7)) (And.intro ((riddleref01_Exact_ok h12_9)) (And.intro (Bl b12_12) (And.intro ((ring_Trigger_ok h12_11)) (And.intro ((riddleref13_Trigger_okP h12_13)) (And.intro ((riddleref01_Exact_ok h12_15)) (And.intro (Bl b12_21) (And.intro ((ring_Next_okP h12_17)) (And.intro ((riddleref13_Next_okP h12_19)) (And.intro ((riddleref01_Exact_ok h12_21)) (And.intro (Bl b12_32) (And.intro ((ring_Run_ok h12_23)) (And.intro ((riddleref13_Run_ok h12_25)) (And.intro ((riddleref01_Exact_ok h12_27)) (And.intro (Bl b12_43) (And.intro ((ring_Accepts_ok h12_29)) (And.intro ((riddleref13_Accepts_ok h12_31)) (And.intro (Bl b12_52) (And.intro (Bl b12_57) (trivial)))))))))))))))))))))))) (by kernel_rfl) (by kernel_rfl) (by kernel_rfl) (by kernel_rfl) (hk false (Option.some.inj g12))
                  · exact WC.drw (n := 94) (by assumption) [] [] [(1, .resP (.s (.int .i64 t12_2))), (3, .resP (.s (.int .i64 t12_4))), (5, .val (.p (.s (.bool true)))), (7, .resP (.agg [.s (.int .i64 t12_6.N), slV (eI .u64) t12_6.Words])), (9, .resP (.agg [.s (.int .i64 t12_8.N), slV (eI .u64) t12_8.Words])), (10, .resP (.s (.bool t12_10))), (12, .val (.p (.s (.bool true)))), (15, .resP (.agg [.s (.int .i64 t12_12.N), slV (eI .u64) t12_12.Words])), (18, .resP (.agg [.s (.int .i64 t12_14.N), slV (eI .u64) t12_14.Words])), (19, .resP (.s (.bool t12_16))), (21, .val (.p (.s (.bool true)))), (25, .resP (.agg [.s (.int .i64 t12_18.N), slV (eI .u64) t12_18.Words])), (29, .resP (.agg [.s (.int .i64 t12_20.N), slV (eI .u64) t12_20.Words])), (30, .resP (.s (.bool t12_22))), (32, .val (.p (.s (.bool true)))), (36, .resP (.agg [.s (.int .i64 t12_24.N), slV (eI .u64) t12_24.Words])), (40, .resP (.agg [.s (.int .i64 t12_26.N), slV (eI .u64) t12_26.Words])), (41, .resP (.s (.bool t12_28))), (43, .val (.p (.s (.bool true)))), (46, .resP (.s (.bool t12_30))), (49, .resP (.s (.bool t12_32))), (52, .val (.p (.s (.bool false))))] [6] [] ⟨[(6, .p (.s (.bool false)))], [], ⟨[], false⟩, []⟩ (And.intro ((ring_Check_ok h12_1)) (And.intro ((riddleref13_Check_ok h12_3)) (And.intro (Bl b12_5) (And.intro ((ring_None_okP h12_5)) (And.intro ((riddleref13_None_okP h12_7)) (And.intro ((riddleref01_Exact_ok h12_9)) (And.intro (Bl b12_12) (And.intro ((ring_Trigger_ok h12_11)) (And.intro ((riddleref13_Trigger_okP h12_13)) (And.intro ((riddleref01_Exact_ok h12_15)) (And.intro (Bl b12_21) (And.intro ((ring_Next_okP h12_17)) (And.intro ((riddleref13_Next_okP h12_19)) (And.intro ((riddleref01_Exact_ok h12_21)) (And.intro (Bl b12_32) (And.intro ((ring_Run_ok h12_23)) (And.intro ((riddleref13_Run_ok h12_25)) (And.intro ((riddleref01_Exact_ok h12_27)) (And.intro (Bl b12_43) (And.intro ((ring_Accepts_ok h12_29)) (And.intro ((riddleref13_Accepts_ok h12_31)) (And.intro (Bl b12_52) (trivial))))))))))))))))))))))) (by kernel_rfl) (by kernel_rfl) (by kernel_rfl) (by kernel_rfl) (hk false (Option.some.inj g12))
                · exact WC.drw (n := 94) (by assumption) [] [] [(1, .resP (.s (.int .i64 t12_2))), (3, .resP (.s (.int .i64 t12_4))), (5, .val (.p (.s (.bool true)))), (7, .resP (.agg [.s (.int .i64 t12_6.N), slV (eI .u64) t12_6.Words])), (9, .resP (.agg [.s (.int .i64 t12_8.N), slV (eI .u64) t12_8.Words])), (10, .resP (.s (.bool t12_10))), (12, .val (.p (.s (.bool true)))), (15, .resP (.agg [.s (.int .i64 t12_12.N), slV (eI .u64) t12_12.Words])), (18, .resP (.agg [.s (.int .i64 t12_14.N), slV (eI .u64) t12_14.Words])), (19, .resP (.s (.bool t12_16))), (21, .val (.p (.s (.bool true)))), (25, .resP (.agg [.s (.int .i64 t12_18.N), slV (eI .u64) t12_18.Words])), (29, .resP (.agg [.s (.int .i64 t12_20.N), slV (eI .u64) t12_20.Words])), (30, .resP (.s (.bool t12_22))), (32, .val (.p (.s (.bool true)))), (36, .resP (.agg [.s (.int .i64 t12_24.N), slV (eI .u64) t12_24.Words])), (40, .resP (.agg [.s (.int .i64 t12_26.N), slV (eI .u64) t12_26.Words])), (41, .resP (.s (.bool t12_28))), (43, .val (.p (.s (.bool false))))] [6] [] ⟨[(6, .p (.s (.bool false)))], [], ⟨[], false⟩, []⟩ (And.intro ((ring_Check_ok h12_1)) (And.intro ((riddleref13_Check_ok h12_3)) (And.intro (Bl b12_5) (And.intro ((ring_None_okP h12_5)) (And.intro ((riddleref13_None_okP h12_7)) (And.intro ((riddleref01_Exact_ok h12_9)) (And.intro (Bl b12_12) (And.intro ((ring_Trigger_ok h12_11)) (And.intro ((riddleref13_Trigger_okP h12_13)) (And.intro ((riddleref01_Exact_ok h12_15)) (And.intro (Bl b12_21) (And.intro ((ring_Next_okP h12_17)) (And.intro ((riddleref13_Next_okP h12_19)) (And.intro ((riddleref01_Exact_ok h12_21)) (And.intro (Bl b12_32) (And.intro ((ring_Run_ok h12_23)) (And.intro ((riddleref13_Run_ok h12_25)) (And.intro ((riddleref01_Exact_ok h12_27)) (And.intro (Bl b12_43) (trivial)))))))))))))))))))) (by kernel_rfl) (by kernel_rfl) (by kernel_rfl) (by kernel_rfl) (hk false (Option.some.inj g12))
              · exact WC.drw (n := 94) (by assumption) [] [] [(1, .resP (.s (.int .i64 t12_2))), (3, .resP (.s (.int .i64 t12_4))), (5, .val (.p (.s (.bool true)))), (7, .resP (.agg [.s (.int .i64 t12_6.N), slV (eI .u64) t12_6.Words])), (9, .resP (.agg [.s (.int .i64 t12_8.N), slV (eI .u64) t12_8.Words])), (10, .resP (.s (.bool t12_10))), (12, .val (.p (.s (.bool true)))), (15, .resP (.agg [.s (.int .i64 t12_12.N), slV (eI .u64) t12_12.Words])), (18, .resP (.agg [.s (.int .i64 t12_14.N), slV (eI .u64) t12_14.Words])), (19, .resP (.s (.bool t12_16))), (21, .val (.p (.s (.bool true)))), (25, .resP (.agg [.s (.int .i64 t12_18.N), slV (eI .u64) t12_18.Words])), (29, .resP (.agg [.s (.int .i64 t12_20.N), slV (eI .u64) t12_20.Words])), (30, .resP (.s (.bool t12_22))), (32, .val (.p (.s (.bool false))))] [6] [] ⟨[(6, .p (.s (.bool false)))], [], ⟨[], false⟩, []⟩ (And.intro ((ring_Check_ok h12_1)) (And.intro ((riddleref13_Check_ok h12_3)) (And.intro (Bl b12_5) (And.intro ((ring_None_okP h12_5)) (And.intro ((riddleref13_None_okP h12_7)) (And.intro ((riddleref01_Exact_ok h12_9)) (And.intro (Bl b12_12) (And.intro ((ring_Trigger_ok h12_11)) (And.intro ((riddleref13_Trigger_okP h12_13)) (And.intro ((riddleref01_Exact_ok h12_15)) (And.intro (Bl b12_21) (And.intro ((ring_Next_okP h12_17)) (And.intro ((riddleref13_Next_okP h12_19)) (And.intro ((riddleref01_Exact_ok h12_21)) (And.intro (Bl b12_32) (trivial)))))))))))))))) (by kernel_rfl) (by kernel_rfl) (by kernel_rfl) (by kernel_rfl) (hk false (Option.some.inj g12))
            · exact WC.drw (n := 94) (by assumption) [] [] [(1, .resP (.s (.int .i64 t12_2))), (3, .resP (.s (.int .i64 t12_4))), (5, .val (.p (.s (.bool true)))), (7, .resP (.agg [.s (.int .i64 t12_6.N), slV (eI .u64) t12_6.Words])), (9, .resP (.agg [.s (.int .i64 t12_8.N), slV (eI .u64) t12_8.Words])), (10, .resP (.s (.bool t12_10))), (12, .val (.p (.s (.bool true)))), (15, .resP (.agg [.s (.int .i64 t12_12.N), slV (eI .u64) t12_12.Words])), (18, .resP (.agg [.s (.int .i64 t12_14.N), slV (eI .u64) t12_14.Words])), (19, .resP (.s (.bool t12_16))), (21, .val (.p (.s (.bool false))))] [6] [] ⟨[(6, .p (.s (.bool false)))], [], ⟨[], false⟩, []⟩ (And.intro ((ring_Check_ok h12_1)) (And.intro ((riddleref13_Check_ok h12_3)) (And.intro (Bl b12_5) (And.intro ((ring_None_okP h12_5)) (And.intro ((riddleref13_None_okP h12_7)) (And.intro ((riddleref01_Exact_ok h12_9)) (And.intro (Bl b12_12) (And.intro ((ring_Trigger_ok h12_11)) (And.intro ((riddleref13_Trigger_okP h12_13)) (And.intro ((riddleref01_Exact_ok h12_15)) (And.intro (Bl b12_21) (trivial)))))))))))) (by kernel_rfl) (by kernel_rfl) (by kernel_rfl) (by kernel_rfl) (hk false (Option.some.inj g12))
          · exact WC.drw (n := 94) (by assumption) [] [] [(1, .resP (.s (.int .i64 t12_2))), (3, .resP (.s (.int .i64 t12_4))), (5, .val (.p (.s (.bool true)))), (7, .resP (.agg [.s (.int .i64 t12_6.N), slV (eI .u64) t12_6.Words])), (9, .resP (.agg [.s (.int .i64 t12_8.N), slV (eI .u64) t12_8.Words])), (10, .resP (.s (.bool t12_10))), (12, .val (.p (.s (.bool false))))] [6] [] ⟨[(6, .p (.s (.bool false)))], [], ⟨[], false⟩, []⟩ (And.intro ((ring_Check_ok h12_1)) (And.intro ((riddleref13_Check_ok h12_3)) (And.intro (Bl b12_5) (And.intro ((ring_None_okP h12_5)) (And.intro ((riddleref13_None_okP h12_7)) (And.intro ((riddleref01_Exact_ok h12_9)) (And.intro (Bl b12_12) (trivial)))))))) (by kernel_rfl) (by kernel_rfl) (by kernel_rfl) (by kernel_rfl) (hk false (Option.some.inj g12))
        · exact WC.drw (n := 94) (by assumption) [] [] [(1, .resP (.s (.int .i64 t12_2))), (3, .resP (.s (.int .i64 t12_4))), (5, .val (.p (.s (.bool false))))] [6] [] ⟨[(6, .p (.s (.bool false)))], [], ⟨[], false⟩, []⟩ (And.intro ((ring_Check_ok h12_1)) (And.intro ((riddleref13_Check_ok h12_3)) (And.intro (Bl b12_5) (trivial)))) (by kernel_rfl) (by kernel_rfl) (by kernel_rfl) (by kernel_rfl) (hk false (Option.some.inj g12))
      refine WX.ret ?_
      exact WC.outP (by rw [← Option.some.inj h]; kernel_rfl)
    · replace hJ7 := fun y7_1 => hJ7 y7_1
      rcases if_or h with ⟨c13, h⟩ | ⟨c13, h⟩
      · refine WC.condT c13 (by kernel_rfl) ?_
        obtain ⟨t14_2, h14_1, h⟩ := bind_some h
        refine WC.reg (n := 94) (by assumption) [(1, .val (.p (.rop ((eI .u8).cells t14_2 ++ encL (eI .u8) (a2.drop ((0 : Int).toNat + 1))))))] [2, 3, 4, 7] [3, 4] ⟨[(2, .p (slV (eI .u8) a2)), (3, .ptr 3 0), (4, .ptr 4 0), (7, .p (.s (.int .u8 t14_2)))], [(3, .box 26 [.p (.s (.int .u64 a0.Class.a0)), .p (.s (.int .u64 a0.Class.a1)), .p (.s (.int .u64 a0.Class.a2)), .p (.s (.int .u64 a0.Class.a3)), .p (.s (.int .i64 a0.Least)), .p (.s (.int .i64 a0.Most))]), (4, .box 39 [.p (.s (.int .i64 a1.N)), .p (slV (eI .u64) a1.Words)])], ⟨[], false⟩, []⟩ (And.intro (Ix (eI .u8) h14_1) (trivial)) (by kernel_rfl) ?_
        exact WC.keep [2, 3, 4, 7] [3, 4] (by kernel_rfl) (hJ7 t14_2 h)
      · refine WC.condF c13 (by kernel_rfl) ?_
        refine WX.skip ?_
        exact WC.keep [2, 3, 4, 7] [3, 4] (by kernel_rfl) (hJ7 0 h)
end Go.Proofs.YthmobmginjblhaaDoor
