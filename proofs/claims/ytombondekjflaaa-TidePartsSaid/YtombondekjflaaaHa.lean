/- YtombondekjflaaaHa: a part of the proof; see the last text for what is proved. -/
import Derived.Test.YtombondekjflaaaAhExp
import Derived.Test.YtombondekjflaaaAhFlt
import Derived.Test.YtombondekjflaaaProg
import Derived.KernelRfl
set_option maxRecDepth 100000
set_option linter.unusedVariables false
set_option linter.unusedSimpArgs false
namespace Go.Proofs.Ytombondekjflaaa
open Go.AE
structure S7 where
  x : Int
  y : Int
  signed : Bool
  code : Int
def e_S7 : Enc S7 := ⟨fun x => [.s (.int .i64 x.x), .s (.int .i64 x.y), .s (.bool x.signed), .s (.int .u8 x.code)], 4, fun _ => rfl, by decide⟩
structure runtime_boundsError where
  x : Int
  y : Int
  signed : Bool
  code : Int
def e_runtime_boundsError : Enc runtime_boundsError := ⟨fun x => [.s (.int .i64 x.x), .s (.int .i64 x.y), .s (.bool x.signed), .s (.int .u8 x.code)], 4, fun _ => rfl, by decide⟩
structure S13 where
  msg : ByteArray
  addr : Int
def e_S13 : Enc S13 := ⟨fun x => [.s (.string x.msg), .s (.int .u64 x.addr)], 2, fun _ => rfl, by decide⟩
structure runtime_errorAddressString where
  msg : ByteArray
  addr : Int
def e_runtime_errorAddressString : Enc runtime_errorAddressString := ⟨fun x => [.s (.string x.msg), .s (.int .u64 x.addr)], 2, fun _ => rfl, by decide⟩
structure S25 where
  Class : (Arr4 Int)
  Least : Int
def e_S25 : Enc S25 := ⟨fun x => [.s (.int .u64 x.Class.a0), .s (.int .u64 x.Class.a1), .s (.int .u64 x.Class.a2), .s (.int .u64 x.Class.a3), .s (.int .i64 x.Least)], 5, fun _ => rfl, by decide⟩
structure api_Tide where
  Class : (Arr4 Int)
  Least : Int
def e_api_Tide : Enc api_Tide := ⟨fun x => [.s (.int .u64 x.Class.a0), .s (.int .u64 x.Class.a1), .s (.int .u64 x.Class.a2), .s (.int .u64 x.Class.a3), .s (.int .i64 x.Least)], 5, fun _ => rfl, by decide⟩
structure S27 where
  Age : Int
def e_S27 : Enc S27 := ⟨fun x => [.s (.int .i64 x.Age)], 1, fun _ => rfl, by decide⟩
structure api_TideState where
  Age : Int
def e_api_TideState : Enc api_TideState := ⟨fun x => [.s (.int .i64 x.Age)], 1, fun _ => rfl, by decide⟩
structure api_Node where
  Kind : Int
  Class : (Arr4 Int)
  A : Int
  B : Int
  Least : Int
  Most : Int
  Lazy : Bool
def e_api_Node : Enc api_Node := ⟨fun x => [.s (.int .i64 x.Kind), .s (.int .u64 x.Class.a0), .s (.int .u64 x.Class.a1), .s (.int .u64 x.Class.a2), .s (.int .u64 x.Class.a3), .s (.int .i64 x.A), .s (.int .i64 x.B), .s (.int .i64 x.Least), .s (.int .i64 x.Most), .s (.bool x.Lazy)], 10, fun _ => rfl, by decide⟩
structure S46 where
  Nodes : (List api_Node)
def e_S46 : Enc S46 := ⟨fun x => [slV e_api_Node x.Nodes], 1, fun _ => rfl, by decide⟩
structure api_Tree where
  Nodes : (List api_Node)
def e_api_Tree : Enc api_Tree := ⟨fun x => [slV e_api_Node x.Nodes], 1, fun _ => rfl, by decide⟩
structure S69 where
  Kind : Int
  Class : (Arr4 Int)
  A : Int
  B : Int
  Least : Int
  Most : Int
  Lazy : Bool
def e_S69 : Enc S69 := ⟨fun x => [.s (.int .i64 x.Kind), .s (.int .u64 x.Class.a0), .s (.int .u64 x.Class.a1), .s (.int .u64 x.Class.a2), .s (.int .u64 x.Class.a3), .s (.int .i64 x.A), .s (.int .i64 x.B), .s (.int .i64 x.Least), .s (.int .i64 x.Most), .s (.bool x.Lazy)], 10, fun _ => rfl, by decide⟩
def tide_New  : Option (api_TideState) :=
  some ((api_TideState.mk ((-1))))
theorem tide_New_ok  {r : api_TideState} (h : tide_New = some r) : Ans Try.prog 14 [] (.agg [.s (.int .i64 r.Age)]) := by
  refine W_fn Try.func14 rfl (by kernel_rfl) (by kernel_rfl) ?_
  intro X hro hn
  unfold tide_New at h
  refine WX.seq ?_
  refine WC.reg (n := 2) (by assumption) [] [0] [0] ⟨[(0, .ptr 0 0)], [(0, .box 28 [.p (.s (.int .i64 0))])], ⟨[], false⟩, []⟩ trivial (by kernel_rfl) ?_
  refine WX.seq ?_
  refine WC.reg (n := 2) (by assumption) [] [0] [0] ⟨[(0, .ptr 0 0)], [(0, .box 28 [.p (.s (.int .i64 ((-1))))])], ⟨[], false⟩, []⟩ trivial (by kernel_rfl) ?_
  refine WX.ret ?_
  exact WC.outP (by rw [← Option.some.inj h]; kernel_rfl)
def tide_Check (a0 : api_Tide) : Option (Int) :=
  (if ((((a0.Class.a0 == 0) && ((a0.Class.a1 == 0) && ((a0.Class.a2 == 0) && ((a0.Class.a3 == 0) && true))))) || ((((decide (a0.Least < 0))) || ((decide (a0.Least > 1000)))))) = true then some 1 else some 0)
theorem tide_Check_ok {a0 : api_Tide} {r : Int} (h : tide_Check a0 = some r) : Ans Try.prog 10 [.agg [.s (.int .u64 a0.Class.a0), .s (.int .u64 a0.Class.a1), .s (.int .u64 a0.Class.a2), .s (.int .u64 a0.Class.a3), .s (.int .i64 a0.Least)]] (.s (.int .i64 r)) := by
  refine W_fn Try.func10 rfl (by kernel_rfl) (by kernel_rfl) ?_
  intro X hro hn
  unfold tide_Check at h
  refine WX.seq ?_
  refine WC.reg (n := 17) (by assumption) [] [1] [1] ⟨[(1, .ptr 1 0)], [(1, .box 26 [.p (.s (.int .u64 a0.Class.a0)), .p (.s (.int .u64 a0.Class.a1)), .p (.s (.int .u64 a0.Class.a2)), .p (.s (.int .u64 a0.Class.a3)), .p (.s (.int .i64 a0.Least))])], ⟨[], false⟩, []⟩ trivial (by kernel_rfl) ?_
  refine WX.seq ?_
  refine WX.seq ?_
  refine WC.via (α := Bool) (fun v2 => ⟨[(16, .p (.s (.bool v2)))], [], ⟨[], false⟩, []⟩) (((((a0.Class.a0 == 0) && ((a0.Class.a1 == 0) && ((a0.Class.a2 == 0) && ((a0.Class.a3 == 0) && true))))) || ((((decide (a0.Least < 0))) || ((decide (a0.Least > 1000))))))) (fun hk => ?_) ?_
  · rcases Bool.eq_false_or_eq_true (((a0.Class.a0 == 0) && ((a0.Class.a1 == 0) && ((a0.Class.a2 == 0) && ((a0.Class.a3 == 0) && true))))) with b2_4 | b2_4
    · exact WC.reg (n := 17) (by assumption) [(4, .val (.p (.s (.bool true))))] [16] [] ⟨[(16, .p (.s (.bool true)))], [], ⟨[], false⟩, []⟩ (And.intro (Bl b2_4) (trivial)) (by kernel_rfl) (hk true (by first | (rw [b2_4]; rfl) | simp [b2_4]))
    · rcases Bool.eq_false_or_eq_true ((decide (a0.Least < 0))) with b2_9 | b2_9
      · exact WC.reg (n := 17) (by assumption) [(4, .val (.p (.s (.bool false)))), (9, .val (.p (.s (.bool true))))] [16] [] ⟨[(16, .p (.s (.bool true)))], [], ⟨[], false⟩, []⟩ (And.intro (Bl b2_4) (And.intro (Bl b2_9) (trivial))) (by kernel_rfl) (hk true (by first | (rw [b2_4, b2_9]; rfl) | simp [b2_4, b2_9]))
      · exact WC.reg (n := 17) (by assumption) [(4, .val (.p (.s (.bool false)))), (9, .val (.p (.s (.bool false))))] [16] [] ⟨[(16, .p (.s (.bool ((decide (a0.Least > 1000))))))], [], ⟨[], false⟩, []⟩ (And.intro (Bl b2_4) (And.intro (Bl b2_9) (trivial))) (by kernel_rfl) (hk ((decide (a0.Least > 1000))) (by first | (rw [b2_4, b2_9]; rfl) | simp [b2_4, b2_9]))
  rcases if_or h with ⟨c3, h⟩ | ⟨c3, h⟩
  · refine WC.condT c3 (by kernel_rfl) ?_
    refine WX.seq ?_
    refine WC.reg (n := 17) (by assumption) [] [2] [] ⟨[(2, .p (.s (.int .i64 1)))], [], ⟨[], false⟩, []⟩ trivial (by kernel_rfl) ?_
    refine WX.ret ?_
    exact WC.outP (by rw [← Option.some.inj h]; kernel_rfl)
  · refine WC.condF c3 (by kernel_rfl) ?_
    refine WX.skip ?_
    refine WX.seq ?_
    refine WC.reg (n := 17) (by assumption) [] [2] [] ⟨[(2, .p (.s (.int .i64 0)))], [], ⟨[], false⟩, []⟩ trivial (by kernel_rfl) ?_
    refine WX.ret ?_
    exact WC.outP (by rw [← Option.some.inj h]; kernel_rfl)
def tide_CheckState (a0 : api_Tide) (a1 : api_TideState) : Option (Int) :=
  (tide_Check a0).bind fun t2_2 => (if (t2_2 != 0) = true then some t2_2 else (if (((decide (a1.Age < (-1)))) || ((decide (a1.Age > a0.Least)))) = true then some 1 else some 0))
theorem tide_CheckState_ok {a0 : api_Tide} {a1 : api_TideState} {r : Int} (h : tide_CheckState a0 a1 = some r) : Ans Try.prog 12 [.agg [.s (.int .u64 a0.Class.a0), .s (.int .u64 a0.Class.a1), .s (.int .u64 a0.Class.a2), .s (.int .u64 a0.Class.a3), .s (.int .i64 a0.Least)], .agg [.s (.int .i64 a1.Age)]] (.s (.int .i64 r)) := by
  refine W_fn Try.func12 rfl (by kernel_rfl) (by kernel_rfl) ?_
  intro X hro hn
  unfold tide_CheckState at h
  refine WX.seq ?_
  refine WC.reg (n := 21) (by assumption) [] [2, 3] [2, 3] ⟨[(2, .ptr 2 0), (3, .ptr 3 0)], [(2, .box 26 [.p (.s (.int .u64 a0.Class.a0)), .p (.s (.int .u64 a0.Class.a1)), .p (.s (.int .u64 a0.Class.a2)), .p (.s (.int .u64 a0.Class.a3)), .p (.s (.int .i64 a0.Least))]), (3, .box 28 [.p (.s (.int .i64 a1.Age))])], ⟨[], false⟩, []⟩ trivial (by kernel_rfl) ?_
  refine WX.seq ?_
  refine WX.seq ?_
  obtain ⟨t2_2, h2_1, h⟩ := bind_some h
  refine WC.reg (n := 21) (by assumption) [(1, .resP (.s (.int .i64 t2_2)))] [2, 3, 5] [2, 3] ⟨[(2, .ptr 2 0), (3, .ptr 3 0), (5, .p (.s (.int .i64 t2_2)))], [(2, .box 26 [.p (.s (.int .u64 a0.Class.a0)), .p (.s (.int .u64 a0.Class.a1)), .p (.s (.int .u64 a0.Class.a2)), .p (.s (.int .u64 a0.Class.a3)), .p (.s (.int .i64 a0.Least))]), (3, .box 28 [.p (.s (.int .i64 a1.Age))])], ⟨[], false⟩, []⟩ (And.intro ((tide_Check_ok h2_1)) (trivial)) (by kernel_rfl) ?_
  refine WX.seq ?_
  refine WC.reg (n := 21) (by assumption) [] [2, 3, 5, 9] [2, 3] ⟨[(2, .ptr 2 0), (3, .ptr 3 0), (5, .p (.s (.int .i64 t2_2))), (9, .p (.s (.bool ((t2_2 != 0)))))], [(2, .box 26 [.p (.s (.int .u64 a0.Class.a0)), .p (.s (.int .u64 a0.Class.a1)), .p (.s (.int .u64 a0.Class.a2)), .p (.s (.int .u64 a0.Class.a3)), .p (.s (.int .i64 a0.Least))]), (3, .box 28 [.p (.s (.int .i64 a1.Age))])], ⟨[], false⟩, []⟩ trivial (by kernel_rfl) ?_
  rcases if_or h with ⟨c4, h⟩ | ⟨c4, h⟩
  · refine WC.condT c4 (by kernel_rfl) ?_
    refine WX.seq ?_
    refine WC.reg (n := 21) (by assumption) [] [4] [] ⟨[(4, .p (.s (.int .i64 t2_2)))], [], ⟨[], false⟩, []⟩ trivial (by kernel_rfl) ?_
    refine WX.ret ?_
    exact WC.outP (by rw [← Option.some.inj h]; kernel_rfl)
  · refine WC.condF c4 (by kernel_rfl) ?_
    refine WX.skip ?_
    refine WX.seq ?_
    refine WX.seq ?_
    refine WC.via (α := Bool) (fun v6 => ⟨[(20, .p (.s (.bool v6)))], [], ⟨[], false⟩, []⟩) ((((decide (a1.Age < (-1)))) || ((decide (a1.Age > a0.Least))))) (fun hk => ?_) ?_
    · rcases Bool.eq_false_or_eq_true ((decide (a1.Age < (-1)))) with b6_3 | b6_3
      · exact WC.reg (n := 21) (by assumption) [(3, .val (.p (.s (.bool true))))] [20] [] ⟨[(20, .p (.s (.bool true)))], [], ⟨[], false⟩, []⟩ (And.intro (Bl b6_3) (trivial)) (by kernel_rfl) (hk true (by first | (rw [b6_3]; rfl) | simp [b6_3]))
      · exact WC.reg (n := 21) (by assumption) [(3, .val (.p (.s (.bool false))))] [20] [] ⟨[(20, .p (.s (.bool ((decide (a1.Age > a0.Least))))))], [], ⟨[], false⟩, []⟩ (And.intro (Bl b6_3) (trivial)) (by kernel_rfl) (hk ((decide (a1.Age > a0.Least))) (by first | (rw [b6_3]; rfl) | simp [b6_3]))
    rcases if_or h with ⟨c7, h⟩ | ⟨c7, h⟩
    · refine WC.condT c7 (by kernel_rfl) ?_
      refine WX.seq ?_
      refine WC.reg (n := 21) (by assumption) [] [4] [] ⟨[(4, .p (.s (.int .i64 1)))], [], ⟨[], false⟩, []⟩ trivial (by kernel_rfl) ?_
      refine WX.ret ?_
      exact WC.outP (by rw [← Option.some.inj h]; kernel_rfl)
    · refine WC.condF c7 (by kernel_rfl) ?_
      refine WX.skip ?_
      refine WX.seq ?_
      refine WC.reg (n := 21) (by assumption) [] [4] [] ⟨[(4, .p (.s (.int .i64 0)))], [], ⟨[], false⟩, []⟩ trivial (by kernel_rfl) ?_
      refine WX.ret ?_
      exact WC.outP (by rw [← Option.some.inj h]; kernel_rfl)
def class_Not_l0 (J3 : (Int × Int × Int × Int) → Option ((Arr4 Int))) : Nat → (Int × Int × Int × Int × Int) → Option ((Arr4 Int))
  | 0, _ => none
  | k + 1, (x20_1_1, x20_1_2, x20_2_1, x20_2_2, x20_2_3) => (if (decide (x20_1_1 < 4)) = true then (if 0 ≤ x20_1_1 ∧ x20_1_1 < 4 then class_Not_l0 J3 k ((IntKind.i64.wrap (x20_1_1 + 1)), (set4 0 x20_1_1 ((bits .xor .u64 18446744073709551615 ((get4 x20_1_2 x20_2_1 x20_2_2 x20_2_3 x20_1_1)))) x20_1_2), (set4 1 x20_1_1 ((bits .xor .u64 18446744073709551615 ((get4 x20_1_2 x20_2_1 x20_2_2 x20_2_3 x20_1_1)))) x20_2_1), (set4 2 x20_1_1 ((bits .xor .u64 18446744073709551615 ((get4 x20_1_2 x20_2_1 x20_2_2 x20_2_3 x20_1_1)))) x20_2_2), (set4 3 x20_1_1 ((bits .xor .u64 18446744073709551615 ((get4 x20_1_2 x20_2_1 x20_2_2 x20_2_3 x20_1_1)))) x20_2_3)) else none) else J3 (x20_1_2, x20_2_1, x20_2_2, x20_2_3))
def class_Not (k : Nat) (a0 : (Arr4 Int)) : Option ((Arr4 Int)) :=
  jn (fun (v3 : Int × Int × Int × Int) => some ((Arr4.mk v3.1 v3.2.1 v3.2.2.1 v3.2.2.2))) fun J3 => class_Not_l0 J3 k (0, a0.a0, a0.a1, a0.a2, a0.a3)
theorem class_Not_ok {k : Nat} {a0 : (Arr4 Int)} {r : (Arr4 Int)} (h : class_Not k a0 = some r) : Ans Try.prog 60 [.agg [.s (.int .u64 a0.a0), .s (.int .u64 a0.a1), .s (.int .u64 a0.a2), .s (.int .u64 a0.a3)]] (.agg [.s (.int .u64 r.a0), .s (.int .u64 r.a1), .s (.int .u64 r.a2), .s (.int .u64 r.a3)]) := by
  refine W_fn Try.func60 rfl (by kernel_rfl) (by kernel_rfl) ?_
  intro X hro hn
  unfold class_Not at h
  refine WX.seq ?_
  refine WC.reg (n := 15) (by assumption) [] [1, 2] [1, 2] ⟨[(1, .ptr 1 0), (2, .ptr 2 0)], [(1, .box 24 [.p (.s (.int .u64 a0.a0)), .p (.s (.int .u64 a0.a1)), .p (.s (.int .u64 a0.a2)), .p (.s (.int .u64 a0.a3))]), (2, .box 24 [.p (.s (.int .u64 0)), .p (.s (.int .u64 0)), .p (.s (.int .u64 0)), .p (.s (.int .u64 0))])], ⟨[], false⟩, []⟩ trivial (by kernel_rfl) ?_
  refine WX.seq ?_
  refine WX.seq ?_
  refine WC.reg (n := 15) (by assumption) [] [1, 2, 4] [1, 2] ⟨[(1, .ptr 1 0), (2, .ptr 2 0), (4, .p (.s (.int .i64 0)))], [(1, .box 24 [.p (.s (.int .u64 a0.a0)), .p (.s (.int .u64 a0.a1)), .p (.s (.int .u64 a0.a2)), .p (.s (.int .u64 a0.a3))]), (2, .box 24 [.p (.s (.int .u64 0)), .p (.s (.int .u64 0)), .p (.s (.int .u64 0)), .p (.s (.int .u64 0))])], ⟨[], false⟩, []⟩ trivial (by kernel_rfl) ?_
  obtain ⟨J3, eJ3, h⟩ := jn_some h
  try dsimp only at h
  refine WC.join (α := Int × Int × Int × Int) (fun v3 => ⟨[(1, .ptr 1 0), (2, .ptr 2 0)], [(1, .box 24 [.p (.s (.int .u64 v3.1)), .p (.s (.int .u64 v3.2.1)), .p (.s (.int .u64 v3.2.2.1)), .p (.s (.int .u64 v3.2.2.2))]), (2, .box 24 [.p (.s (.int .u64 0)), .p (.s (.int .u64 0)), .p (.s (.int .u64 0)), .p (.s (.int .u64 0))])], ⟨[], false⟩, []⟩) (fun v3 => J3 v3 = some r) ?_ (fun hJ3 => ?_)
  · rintro ⟨y3_1, y3_2, y3_3, y3_4⟩ h
    rw [eJ3] at h
    try dsimp only at h
    refine WX.seq ?_
    refine WC.reg (n := 15) (by assumption) [] [2] [2] ⟨[(2, .ptr 2 0)], [(2, .box 24 [.p (.s (.int .u64 y3_1)), .p (.s (.int .u64 y3_2)), .p (.s (.int .u64 y3_3)), .p (.s (.int .u64 y3_4))])], ⟨[], false⟩, []⟩ trivial (by kernel_rfl) ?_
    refine WX.ret ?_
    exact WC.outP (by rw [← Option.some.inj h]; kernel_rfl)
  · replace hJ3 := fun y3_1 y3_2 y3_3 y3_4 => hJ3 (y3_1, y3_2, y3_3, y3_4)
    refine WX.block ?_
    refine WC.loop (V := Int × Int × Int × Int × Int) (class_Not_l0 J3) r (fun v20 => ⟨[(1, .ptr 1 0), (2, .ptr 2 0), (4, .p (.s (.int .i64 v20.1)))], [(1, .box 24 [.p (.s (.int .u64 v20.2.1)), .p (.s (.int .u64 v20.2.2.1)), .p (.s (.int .u64 v20.2.2.2.1)), .p (.s (.int .u64 v20.2.2.2.2))]), (2, .box 24 [.p (.s (.int .u64 0)), .p (.s (.int .u64 0)), .p (.s (.int .u64 0)), .p (.s (.int .u64 0))])], ⟨[], false⟩, []⟩) _ (0, a0.a0, a0.a1, a0.a2, a0.a3) h (fun _ => rfl) [1, 2, 4] [1, 2] (by kernel_rfl) ?_
    clear h; rintro k ⟨x20_1_1, x20_1_2, x20_2_1, x20_2_2, x20_2_3⟩ h K20 hnext20 hexit20
    rw [class_Not_l0] at h
    refine WX.seq ?_
    refine WC.reg (n := 15) (by assumption) [] [1, 2, 4, 5] [1, 2] ⟨[(1, .ptr 1 0), (2, .ptr 2 0), (4, .p (.s (.int .i64 x20_1_1))), (5, .p (.s (.bool ((decide (x20_1_1 < 4))))))], [(1, .box 24 [.p (.s (.int .u64 x20_1_2)), .p (.s (.int .u64 x20_2_1)), .p (.s (.int .u64 x20_2_2)), .p (.s (.int .u64 x20_2_3))]), (2, .box 24 [.p (.s (.int .u64 0)), .p (.s (.int .u64 0)), .p (.s (.int .u64 0)), .p (.s (.int .u64 0))])], ⟨[], false⟩, []⟩ trivial (by kernel_rfl) ?_
    refine WX.seq ?_
    rcases if_or h with ⟨c36, h⟩ | ⟨c36, h⟩
    · refine WC.condT c36 (by kernel_rfl) ?_
      refine WX.skip ?_
      refine WX.seq ?_
      refine WX.block ?_
      refine WX.seq ?_
      refine WC.reg (n := 15) (by assumption) [] [1, 2, 3, 4] [1, 2] ⟨[(1, .ptr 1 0), (2, .ptr 2 0), (3, .p (.s (.int .i64 x20_1_1))), (4, .p (.s (.int .i64 x20_1_1)))], [(1, .box 24 [.p (.s (.int .u64 x20_1_2)), .p (.s (.int .u64 x20_2_1)), .p (.s (.int .u64 x20_2_2)), .p (.s (.int .u64 x20_2_3))]), (2, .box 24 [.p (.s (.int .u64 0)), .p (.s (.int .u64 0)), .p (.s (.int .u64 0)), .p (.s (.int .u64 0))])], ⟨[], false⟩, []⟩ trivial (by kernel_rfl) ?_
      obtain ⟨c38_1, h⟩ := if_some h
      refine WC.reg (n := 15) (by assumption) [(2, .val (.ptr 1 (0 + x20_1_1.toNat * 1))), (3, .val (.p (.s (.int .u64 ((get4 x20_1_2 x20_2_1 x20_2_2 x20_2_3 x20_1_1)))))), (5, .val (.ptr 1 (0 + x20_1_1.toNat * 1))), (6, .sto 1 (.box 24 [.p (.s (.int .u64 ((set4 0 x20_1_1 ((bits .xor .u64 18446744073709551615 ((get4 x20_1_2 x20_2_1 x20_2_2 x20_2_3 x20_1_1)))) x20_1_2)))), .p (.s (.int .u64 ((set4 1 x20_1_1 ((bits .xor .u64 18446744073709551615 ((get4 x20_1_2 x20_2_1 x20_2_2 x20_2_3 x20_1_1)))) x20_2_1)))), .p (.s (.int .u64 ((set4 2 x20_1_1 ((bits .xor .u64 18446744073709551615 ((get4 x20_1_2 x20_2_1 x20_2_2 x20_2_3 x20_1_1)))) x20_2_2)))), .p (.s (.int .u64 ((set4 3 x20_1_1 ((bits .xor .u64 18446744073709551615 ((get4 x20_1_2 x20_2_1 x20_2_2 x20_2_3 x20_1_1)))) x20_2_3))))]))] [1, 2, 4] [1, 2] ⟨[(1, .ptr 1 0), (2, .ptr 2 0), (4, .p (.s (.int .i64 x20_1_1)))], [(1, .box 24 [.p (.s (.int .u64 ((set4 0 x20_1_1 ((bits .xor .u64 18446744073709551615 ((get4 x20_1_2 x20_2_1 x20_2_2 x20_2_3 x20_1_1)))) x20_1_2)))), .p (.s (.int .u64 ((set4 1 x20_1_1 ((bits .xor .u64 18446744073709551615 ((get4 x20_1_2 x20_2_1 x20_2_2 x20_2_3 x20_1_1)))) x20_2_1)))), .p (.s (.int .u64 ((set4 2 x20_1_1 ((bits .xor .u64 18446744073709551615 ((get4 x20_1_2 x20_2_1 x20_2_2 x20_2_3 x20_1_1)))) x20_2_2)))), .p (.s (.int .u64 ((set4 3 x20_1_1 ((bits .xor .u64 18446744073709551615 ((get4 x20_1_2 x20_2_1 x20_2_2 x20_2_3 x20_1_1)))) x20_2_3))))]), (2, .box 24 [.p (.s (.int .u64 0)), .p (.s (.int .u64 0)), .p (.s (.int .u64 0)), .p (.s (.int .u64 0))])], ⟨[], false⟩, []⟩ (And.intro (IxA4 1 0 x20_1_1 c38_1) (And.intro (LdA4 Try.prog 22 [] .u64 x20_1_2 x20_2_1 x20_2_2 x20_2_3 [] x20_1_1 c38_1 rfl rfl) (And.intro (IxA4 1 0 x20_1_1 c38_1) (And.intro (StA4 1 24 [] .u64 x20_1_2 x20_2_1 x20_2_2 x20_2_3 [] x20_1_1 ((bits .xor .u64 18446744073709551615 ((get4 x20_1_2 x20_2_1 x20_2_2 x20_2_3 x20_1_1)))) c38_1) (trivial))))) (by kernel_rfl) ?_
      refine WX.popBlk ?_
      refine WC.reg (n := 15) (by assumption) [] [1, 2, 4] [1, 2] ⟨[(1, .ptr 1 0), (2, .ptr 2 0), (4, .p (.s (.int .i64 ((IntKind.i64.wrap (x20_1_1 + 1))))))], [(1, .box 24 [.p (.s (.int .u64 ((set4 0 x20_1_1 ((bits .xor .u64 18446744073709551615 ((get4 x20_1_2 x20_2_1 x20_2_2 x20_2_3 x20_1_1)))) x20_1_2)))), .p (.s (.int .u64 ((set4 1 x20_1_1 ((bits .xor .u64 18446744073709551615 ((get4 x20_1_2 x20_2_1 x20_2_2 x20_2_3 x20_1_1)))) x20_2_1)))), .p (.s (.int .u64 ((set4 2 x20_1_1 ((bits .xor .u64 18446744073709551615 ((get4 x20_1_2 x20_2_1 x20_2_2 x20_2_3 x20_1_1)))) x20_2_2)))), .p (.s (.int .u64 ((set4 3 x20_1_1 ((bits .xor .u64 18446744073709551615 ((get4 x20_1_2 x20_2_1 x20_2_2 x20_2_3 x20_1_1)))) x20_2_3))))]), (2, .box 24 [.p (.s (.int .u64 0)), .p (.s (.int .u64 0)), .p (.s (.int .u64 0)), .p (.s (.int .u64 0))])], ⟨[], false⟩, []⟩ trivial (by kernel_rfl) ?_
      exact WC.next [1, 2, 4] [1, 2] (by kernel_rfl) (hnext20 ((IntKind.i64.wrap (x20_1_1 + 1)), (set4 0 x20_1_1 ((bits .xor .u64 18446744073709551615 ((get4 x20_1_2 x20_2_1 x20_2_2 x20_2_3 x20_1_1)))) x20_1_2), (set4 1 x20_1_1 ((bits .xor .u64 18446744073709551615 ((get4 x20_1_2 x20_2_1 x20_2_2 x20_2_3 x20_1_1)))) x20_2_1), (set4 2 x20_1_1 ((bits .xor .u64 18446744073709551615 ((get4 x20_1_2 x20_2_1 x20_2_2 x20_2_3 x20_1_1)))) x20_2_2), (set4 3 x20_1_1 ((bits .xor .u64 18446744073709551615 ((get4 x20_1_2 x20_2_1 x20_2_2 x20_2_3 x20_1_1)))) x20_2_3)) h)
    · refine WC.condF c36 (by kernel_rfl) ?_
      refine WX.exit ?_
      refine WX.popCodeExit ?_
      refine WC.exit_nil (hexit20 _ _ (by simp) ?_)
      refine WX.popBlkHit ?_
      exact WC.keep [1, 2] [1, 2] (by kernel_rfl) (hJ3 x20_1_2 x20_2_1 x20_2_2 x20_2_3 h)
def class_Full (k : Nat)  : Option ((Arr4 Int)) :=
  (class_Not k ((Arr4.mk 0 0 0 0))).bind fun t2_2 => some t2_2
theorem class_Full_ok {k : Nat}  {r : (Arr4 Int)} (h : class_Full k = some r) : Ans Try.prog 51 [] (.agg [.s (.int .u64 r.a0), .s (.int .u64 r.a1), .s (.int .u64 r.a2), .s (.int .u64 r.a3)]) := by
  refine W_fn Try.func51 rfl (by kernel_rfl) (by kernel_rfl) ?_
  intro X hro hn
  unfold class_Full at h
  refine WX.seq ?_
  refine WC.reg (n := 3) (by assumption) [] [0] [0] ⟨[(0, .ptr 0 0)], [(0, .box 24 [.p (.s (.int .u64 0)), .p (.s (.int .u64 0)), .p (.s (.int .u64 0)), .p (.s (.int .u64 0))])], ⟨[], false⟩, []⟩ trivial (by kernel_rfl) ?_
  refine WX.seq ?_
  obtain ⟨t2_2, h2_1, h⟩ := bind_some h
  refine WC.reg (n := 3) (by assumption) [(1, .resP (.agg [.s (.int .u64 t2_2.a0), .s (.int .u64 t2_2.a1), .s (.int .u64 t2_2.a2), .s (.int .u64 t2_2.a3)]))] [0] [0] ⟨[(0, .ptr 0 0)], [(0, .box 24 [.p (.s (.int .u64 t2_2.a0)), .p (.s (.int .u64 t2_2.a1)), .p (.s (.int .u64 t2_2.a2)), .p (.s (.int .u64 t2_2.a3))])], ⟨[], false⟩, []⟩ (And.intro ((class_Not_ok h2_1)) (trivial)) (by kernel_rfl) ?_
  refine WX.ret ?_
  exact WC.outP (by rw [← Option.some.inj h]; kernel_rfl)
def tide_may (k : Nat) (a0 : api_Tide) : Option (api_Tide) :=
  (tide_Check a0).bind fun t2_2 => (if (t2_2 != 0) = true then (class_Full k).bind fun t4_2 => some ((api_Tide.mk t4_2 0)) else some a0)
theorem tide_may_ok {k : Nat} {a0 : api_Tide} {r : api_Tide} (h : tide_may k a0 = some r) : Ans Try.prog 36 [.agg [.s (.int .u64 a0.Class.a0), .s (.int .u64 a0.Class.a1), .s (.int .u64 a0.Class.a2), .s (.int .u64 a0.Class.a3), .s (.int .i64 a0.Least)]] (.agg [.s (.int .u64 r.Class.a0), .s (.int .u64 r.Class.a1), .s (.int .u64 r.Class.a2), .s (.int .u64 r.Class.a3), .s (.int .i64 r.Least)]) := by
  refine W_fn Try.func36 rfl (by kernel_rfl) (by kernel_rfl) ?_
  intro X hro hn
  unfold tide_may at h
  refine WX.seq ?_
  refine WC.reg (n := 9) (by assumption) [] [1, 2] [1, 2] ⟨[(1, .ptr 1 0), (2, .ptr 2 0)], [(1, .box 26 [.p (.s (.int .u64 a0.Class.a0)), .p (.s (.int .u64 a0.Class.a1)), .p (.s (.int .u64 a0.Class.a2)), .p (.s (.int .u64 a0.Class.a3)), .p (.s (.int .i64 a0.Least))]), (2, .box 26 [.p (.s (.int .u64 0)), .p (.s (.int .u64 0)), .p (.s (.int .u64 0)), .p (.s (.int .u64 0)), .p (.s (.int .i64 0))])], ⟨[], false⟩, []⟩ trivial (by kernel_rfl) ?_
  refine WX.seq ?_
  refine WX.seq ?_
  obtain ⟨t2_2, h2_1, h⟩ := bind_some h
  refine WC.reg (n := 9) (by assumption) [(1, .resP (.s (.int .i64 t2_2)))] [1, 2, 5] [1, 2] ⟨[(1, .ptr 1 0), (2, .ptr 2 0), (5, .p (.s (.bool ((t2_2 != 0)))))], [(1, .box 26 [.p (.s (.int .u64 a0.Class.a0)), .p (.s (.int .u64 a0.Class.a1)), .p (.s (.int .u64 a0.Class.a2)), .p (.s (.int .u64 a0.Class.a3)), .p (.s (.int .i64 a0.Least))]), (2, .box 26 [.p (.s (.int .u64 0)), .p (.s (.int .u64 0)), .p (.s (.int .u64 0)), .p (.s (.int .u64 0)), .p (.s (.int .i64 0))])], ⟨[], false⟩, []⟩ (And.intro ((tide_Check_ok h2_1)) (trivial)) (by kernel_rfl) ?_
  rcases if_or h with ⟨c3, h⟩ | ⟨c3, h⟩
  · refine WC.condT c3 (by kernel_rfl) ?_
    refine WX.seq ?_
    obtain ⟨t4_2, h4_1, h⟩ := bind_some h
    refine WC.reg (n := 9) (by assumption) [(0, .resP (.agg [.s (.int .u64 t4_2.a0), .s (.int .u64 t4_2.a1), .s (.int .u64 t4_2.a2), .s (.int .u64 t4_2.a3)]))] [2] [2] ⟨[(2, .ptr 2 0)], [(2, .box 26 [.p (.s (.int .u64 t4_2.a0)), .p (.s (.int .u64 t4_2.a1)), .p (.s (.int .u64 t4_2.a2)), .p (.s (.int .u64 t4_2.a3)), .p (.s (.int .i64 0))])], ⟨[], false⟩, []⟩ (And.intro ((class_Full_ok h4_1)) (trivial)) (by kernel_rfl) ?_
    refine WX.ret ?_
    exact WC.outP (by rw [← Option.some.inj h]; kernel_rfl)
  · refine WC.condF c3 (by kernel_rfl) ?_
    refine WX.skip ?_
    refine WX.seq ?_
    refine WC.reg (n := 9) (by assumption) [] [2] [2] ⟨[(2, .ptr 2 0)], [(2, .box 26 [.p (.s (.int .u64 a0.Class.a0)), .p (.s (.int .u64 a0.Class.a1)), .p (.s (.int .u64 a0.Class.a2)), .p (.s (.int .u64 a0.Class.a3)), .p (.s (.int .i64 a0.Least))])], ⟨[], false⟩, []⟩ trivial (by kernel_rfl) ?_
    refine WX.ret ?_
    exact WC.outP (by rw [← Option.some.inj h]; kernel_rfl)
def tide_state (k : Nat) (a0 : api_Tide) (a1 : api_TideState) : Option (api_TideState) :=
  (tide_may k a0).bind fun t2_2 => (tide_CheckState t2_2 a1).bind fun t2_4 => (if (t2_4 != 0) = true then (tide_New).bind fun t4_2 => some t4_2 else some a1)
theorem tide_state_ok {k : Nat} {a0 : api_Tide} {a1 : api_TideState} {r : api_TideState} (h : tide_state k a0 a1 = some r) : Ans Try.prog 34 [.agg [.s (.int .u64 a0.Class.a0), .s (.int .u64 a0.Class.a1), .s (.int .u64 a0.Class.a2), .s (.int .u64 a0.Class.a3), .s (.int .i64 a0.Least)], .agg [.s (.int .i64 a1.Age)]] (.agg [.s (.int .i64 r.Age)]) := by
  refine W_fn Try.func34 rfl (by kernel_rfl) (by kernel_rfl) ?_
  intro X hro hn
  unfold tide_state at h
  refine WX.seq ?_
  refine WC.reg (n := 12) (by assumption) [] [2, 3, 4] [2, 3, 4] ⟨[(2, .ptr 2 0), (3, .ptr 3 0), (4, .ptr 4 0)], [(2, .box 26 [.p (.s (.int .u64 a0.Class.a0)), .p (.s (.int .u64 a0.Class.a1)), .p (.s (.int .u64 a0.Class.a2)), .p (.s (.int .u64 a0.Class.a3)), .p (.s (.int .i64 a0.Least))]), (3, .box 28 [.p (.s (.int .i64 a1.Age))]), (4, .box 28 [.p (.s (.int .i64 0))])], ⟨[], false⟩, []⟩ trivial (by kernel_rfl) ?_
  refine WX.seq ?_
  refine WX.seq ?_
  obtain ⟨t2_2, h2_1, h⟩ := bind_some h
  obtain ⟨t2_4, h2_3, h⟩ := bind_some h
  refine WC.drw (n := 12) (by assumption) [] [] [(1, .resP (.agg [.s (.int .u64 t2_2.Class.a0), .s (.int .u64 t2_2.Class.a1), .s (.int .u64 t2_2.Class.a2), .s (.int .u64 t2_2.Class.a3), .s (.int .i64 t2_2.Least)])), (3, .resP (.s (.int .i64 t2_4)))] [3, 4, 9] [3, 4] ⟨[(3, .ptr 3 0), (4, .ptr 4 0), (9, .p (.s (.bool ((t2_4 != 0)))))], [(3, .box 28 [.p (.s (.int .i64 a1.Age))]), (4, .box 28 [.p (.s (.int .i64 0))])], ⟨[], false⟩, []⟩ (And.intro ((tide_may_ok h2_1)) (And.intro ((tide_CheckState_ok h2_3)) (trivial))) (by kernel_rfl) (by kernel_rfl) (by kernel_rfl) (by kernel_rfl) ?_
  rcases if_or h with ⟨c3, h⟩ | ⟨c3, h⟩
  · refine WC.condT c3 (by kernel_rfl) ?_
    refine WX.seq ?_
    obtain ⟨t4_2, h4_1, h⟩ := bind_some h
    refine WC.reg (n := 12) (by assumption) [(0, .resP (.agg [.s (.int .i64 t4_2.Age)]))] [4] [4] ⟨[(4, .ptr 4 0)], [(4, .box 28 [.p (.s (.int .i64 t4_2.Age))])], ⟨[], false⟩, []⟩ (And.intro ((tide_New_ok h4_1)) (trivial)) (by kernel_rfl) ?_
    refine WX.ret ?_
    exact WC.outP (by rw [← Option.some.inj h]; kernel_rfl)
  · refine WC.condF c3 (by kernel_rfl) ?_
    refine WX.skip ?_
    refine WX.seq ?_
    refine WC.reg (n := 12) (by assumption) [] [4] [4] ⟨[(4, .ptr 4 0)], [(4, .box 28 [.p (.s (.int .i64 a1.Age))])], ⟨[], false⟩, []⟩ trivial (by kernel_rfl) ?_
    refine WX.ret ?_
    exact WC.outP (by rw [← Option.some.inj h]; kernel_rfl)
def tide_Trigger (k : Nat) (a0 : api_Tide) (a1 : api_TideState) : Option (api_TideState) :=
  (tide_state k a0 a1).bind fun t2_2 => (tide_New).bind fun t3_2 => (if ((t2_2.Age == t3_2.Age) && true) = true then some ((api_TideState.mk 0)) else some t2_2)
theorem tide_Trigger_ok {k : Nat} {a0 : api_Tide} {a1 : api_TideState} {r : api_TideState} (h : tide_Trigger k a0 a1 = some r) : Ans Try.prog 15 [.agg [.s (.int .u64 a0.Class.a0), .s (.int .u64 a0.Class.a1), .s (.int .u64 a0.Class.a2), .s (.int .u64 a0.Class.a3), .s (.int .i64 a0.Least)], .agg [.s (.int .i64 a1.Age)]] (.agg [.s (.int .i64 r.Age)]) := by
  refine W_fn Try.func15 rfl (by kernel_rfl) (by kernel_rfl) ?_
  intro X hro hn
  unfold tide_Trigger at h
  refine WX.seq ?_
  refine WC.reg (n := 13) (by assumption) [] [2, 3, 4] [2, 3, 4] ⟨[(2, .ptr 2 0), (3, .ptr 3 0), (4, .ptr 4 0)], [(2, .box 26 [.p (.s (.int .u64 a0.Class.a0)), .p (.s (.int .u64 a0.Class.a1)), .p (.s (.int .u64 a0.Class.a2)), .p (.s (.int .u64 a0.Class.a3)), .p (.s (.int .i64 a0.Least))]), (3, .box 28 [.p (.s (.int .i64 a1.Age))]), (4, .box 28 [.p (.s (.int .i64 0))])], ⟨[], false⟩, []⟩ trivial (by kernel_rfl) ?_
  refine WX.seq ?_
  obtain ⟨t2_2, h2_1, h⟩ := bind_some h
  refine WC.reg (n := 13) (by assumption) [(2, .resP (.agg [.s (.int .i64 t2_2.Age)]))] [3, 4] [3, 4] ⟨[(3, .ptr 3 0), (4, .ptr 4 0)], [(3, .box 28 [.p (.s (.int .i64 t2_2.Age))]), (4, .box 28 [.p (.s (.int .i64 0))])], ⟨[], false⟩, []⟩ (And.intro ((tide_state_ok h2_1)) (trivial)) (by kernel_rfl) ?_
  refine WX.seq ?_
  refine WX.seq ?_
  obtain ⟨t3_2, h3_1, h⟩ := bind_some h
  refine WC.drw (n := 13) (by assumption) [] [] [(1, .resP (.agg [.s (.int .i64 t3_2.Age)]))] [3, 4, 10] [3, 4] ⟨[(3, .ptr 3 0), (4, .ptr 4 0), (10, .p (.s (.bool (((t2_2.Age == t3_2.Age) && true)))))], [(3, .box 28 [.p (.s (.int .i64 t2_2.Age))]), (4, .box 28 [.p (.s (.int .i64 0))])], ⟨[], false⟩, []⟩ (And.intro ((tide_New_ok h3_1)) (trivial)) (by kernel_rfl) (by kernel_rfl) (by kernel_rfl) (by kernel_rfl) ?_
  rcases if_or h with ⟨c4, h⟩ | ⟨c4, h⟩
  · refine WC.condT c4 (by kernel_rfl) ?_
    refine WX.seq ?_
    refine WC.reg (n := 13) (by assumption) [] [4] [4] ⟨[(4, .ptr 4 0)], [(4, .box 28 [.p (.s (.int .i64 0))])], ⟨[], false⟩, []⟩ trivial (by kernel_rfl) ?_
    refine WX.ret ?_
    exact WC.outP (by rw [← Option.some.inj h]; kernel_rfl)
  · refine WC.condF c4 (by kernel_rfl) ?_
    refine WX.skip ?_
    refine WX.seq ?_
    refine WC.reg (n := 13) (by assumption) [] [4] [4] ⟨[(4, .ptr 4 0)], [(4, .box 28 [.p (.s (.int .i64 t2_2.Age))])], ⟨[], false⟩, []⟩ trivial (by kernel_rfl) ?_
    refine WX.ret ?_
    exact WC.outP (by rw [← Option.some.inj h]; kernel_rfl)
def class_Has (a0 : (Arr4 Int)) (a1 : Int) : Option (Bool) :=
  (if 0 ≤ (a1.fdiv (2 ^ 6)) ∧ (a1.fdiv (2 ^ 6)) < 4 then (if ¬ (bits .and .u8 a1 63) < 0 then some (((bits .and .u64 ((((get4 a0.a0 a0.a1 a0.a2 a0.a3 ((a1.fdiv (2 ^ 6))))).fdiv (2 ^ (min ((bits .and .u8 a1 63)).toNat IntKind.u64.bits)))) 1) == 1)) else none) else none)
theorem class_Has_ok {a0 : (Arr4 Int)} {a1 : Int} {r : Bool} (h : class_Has a0 a1 = some r) : Ans Try.prog 37 [.agg [.s (.int .u64 a0.a0), .s (.int .u64 a0.a1), .s (.int .u64 a0.a2), .s (.int .u64 a0.a3)], .s (.int .u8 a1)] (.s (.bool r)) := by
  refine W_fn Try.func37 rfl (by kernel_rfl) (by kernel_rfl) ?_
  intro X hro hn
  unfold class_Has at h
  refine WX.seq ?_
  refine WC.reg (n := 14) (by assumption) [] [1, 2] [2] ⟨[(1, .p (.s (.int .u8 a1))), (2, .ptr 2 0)], [(2, .box 24 [.p (.s (.int .u64 a0.a0)), .p (.s (.int .u64 a0.a1)), .p (.s (.int .u64 a0.a2)), .p (.s (.int .u64 a0.a3))])], ⟨[], false⟩, []⟩ trivial (by kernel_rfl) ?_
  refine WX.seq ?_
  obtain ⟨c2_1, h⟩ := if_some h
  obtain ⟨c2_2, h⟩ := if_some h
  refine WC.reg (n := 14) (by assumption) [(2, .val (.ptr 2 (0 + ((a1.fdiv (2 ^ 6))).toNat * 1))), (3, .val (.p (.s (.int .u64 ((get4 a0.a0 a0.a1 a0.a2 a0.a3 ((a1.fdiv (2 ^ 6))))))))), (6, .val (.p (.s (.int .u64 (((get4 a0.a0 a0.a1 a0.a2 a0.a3 ((a1.fdiv (2 ^ 6))))).fdiv (2 ^ (min ((bits .and .u8 a1 63)).toNat IntKind.u64.bits)))))))] [4] [] ⟨[(4, .p (.s (.bool (((bits .and .u64 ((((get4 a0.a0 a0.a1 a0.a2 a0.a3 ((a1.fdiv (2 ^ 6))))).fdiv (2 ^ (min ((bits .and .u8 a1 63)).toNat IntKind.u64.bits)))) 1) == 1)))))], [], ⟨[], false⟩, []⟩ (And.intro (IxA4 2 0 ((a1.fdiv (2 ^ 6))) c2_1) (And.intro (LdA4 Try.prog 22 [] .u64 a0.a0 a0.a1 a0.a2 a0.a3 [] ((a1.fdiv (2 ^ 6))) c2_1 rfl rfl) (And.intro (Shr .u64 ((get4 a0.a0 a0.a1 a0.a2 a0.a3 ((a1.fdiv (2 ^ 6))))) ((bits .and .u8 a1 63)) c2_2) (trivial)))) (by kernel_rfl) ?_
  refine WX.ret ?_
  exact WC.outP (by rw [← Option.some.inj h]; kernel_rfl)
def tide_Step (k : Nat) (a0 : api_Tide) (a1 : api_TideState) (a2 : Int) : Option (api_TideState) :=
  (tide_may k a0).bind fun t2_2 => (tide_state k a0 a1).bind fun t2_4 => (tide_New).bind fun t3_2 => ((if ((t2_4.Age == t3_2.Age) && true) = true then some true else (class_Has t2_2.Class a2).bind fun t3_4 => some ((!t3_4))) : Option (Bool)).bind fun v3 => (if v3 = true then (tide_New).bind fun t5_2 => some t5_2 else some ((api_TideState.mk ((minI ((IntKind.i64.wrap (t2_4.Age + 1))) t2_2.Least)))))
theorem tide_Step_ok {k : Nat} {a0 : api_Tide} {a1 : api_TideState} {a2 : Int} {r : api_TideState} (h : tide_Step k a0 a1 a2 = some r) : Ans Try.prog 17 [.agg [.s (.int .u64 a0.Class.a0), .s (.int .u64 a0.Class.a1), .s (.int .u64 a0.Class.a2), .s (.int .u64 a0.Class.a3), .s (.int .i64 a0.Least)], .agg [.s (.int .i64 a1.Age)], .s (.int .u8 a2)] (.agg [.s (.int .i64 r.Age)]) := by
  refine W_fn Try.func17 rfl (by kernel_rfl) (by kernel_rfl) ?_
  intro X hro hn
  unfold tide_Step at h
  refine WX.seq ?_
  refine WC.reg (n := 31) (by assumption) [] [2, 3, 4, 6] [3, 4, 6] ⟨[(2, .p (.s (.int .u8 a2))), (3, .ptr 3 0), (4, .ptr 4 0), (6, .ptr 6 0)], [(3, .box 26 [.p (.s (.int .u64 a0.Class.a0)), .p (.s (.int .u64 a0.Class.a1)), .p (.s (.int .u64 a0.Class.a2)), .p (.s (.int .u64 a0.Class.a3)), .p (.s (.int .i64 a0.Least))]), (4, .box 28 [.p (.s (.int .i64 a1.Age))]), (6, .box 28 [.p (.s (.int .i64 0))])], ⟨[], false⟩, []⟩ trivial (by kernel_rfl) ?_
  refine WX.seq ?_
  obtain ⟨t2_2, h2_1, h⟩ := bind_some h
  obtain ⟨t2_4, h2_3, h⟩ := bind_some h
  refine WC.drw (n := 31) (by assumption) [(5, []), (6, [])] [] [(1, .resP (.agg [.s (.int .u64 t2_2.Class.a0), .s (.int .u64 t2_2.Class.a1), .s (.int .u64 t2_2.Class.a2), .s (.int .u64 t2_2.Class.a3), .s (.int .i64 t2_2.Least)])), (4, .resP (.agg [.s (.int .i64 t2_4.Age)]))] [2, 3, 4, 6] [3, 4, 6] ⟨[(2, .p (.s (.int .u8 a2))), (3, .ptr 3 0), (4, .ptr 4 0), (6, .ptr 6 0)], [(3, .box 26 [.p (.s (.int .u64 t2_2.Class.a0)), .p (.s (.int .u64 t2_2.Class.a1)), .p (.s (.int .u64 t2_2.Class.a2)), .p (.s (.int .u64 t2_2.Class.a3)), .p (.s (.int .i64 t2_2.Least))]), (4, .box 28 [.p (.s (.int .i64 t2_4.Age))]), (6, .box 28 [.p (.s (.int .i64 0))])], ⟨[], false⟩, []⟩ (And.intro ((tide_may_ok h2_1)) (And.intro ((tide_state_ok h2_3)) (trivial))) (by kernel_rfl) (by kernel_rfl) (by kernel_rfl) (by kernel_rfl) ?_
  refine WX.seq ?_
  refine WX.seq ?_
  obtain ⟨t3_2, h3_1, h⟩ := bind_some h
  obtain ⟨m3_1, g3, h⟩ := bind_some h
  refine WC.via (α := Bool) (fun v3 => ⟨[(3, .ptr 3 0), (4, .ptr 4 0), (6, .ptr 6 0), (21, .p (.s (.bool v3)))], [(3, .box 26 [.p (.s (.int .u64 t2_2.Class.a0)), .p (.s (.int .u64 t2_2.Class.a1)), .p (.s (.int .u64 t2_2.Class.a2)), .p (.s (.int .u64 t2_2.Class.a3)), .p (.s (.int .i64 t2_2.Least))]), (4, .box 28 [.p (.s (.int .i64 t2_4.Age))]), (6, .box 28 [.p (.s (.int .i64 0))])], ⟨[], false⟩, []⟩) m3_1 (fun hk => ?_) ?_
  · rcases if_or g3 with ⟨b3_3, g3⟩ | ⟨b3_3, g3⟩
    · exact WC.drw (n := 31) (by assumption) [] [] [(1, .resP (.agg [.s (.int .i64 t3_2.Age)])), (3, .val (.p (.s (.bool true))))] [3, 4, 6, 21] [3, 4, 6] ⟨[(3, .ptr 3 0), (4, .ptr 4 0), (6, .ptr 6 0), (21, .p (.s (.bool true)))], [(3, .box 26 [.p (.s (.int .u64 t2_2.Class.a0)), .p (.s (.int .u64 t2_2.Class.a1)), .p (.s (.int .u64 t2_2.Class.a2)), .p (.s (.int .u64 t2_2.Class.a3)), .p (.s (.int .i64 t2_2.Least))]), (4, .box 28 [.p (.s (.int .i64 t2_4.Age))]), (6, .box 28 [.p (.s (.int .i64 0))])], ⟨[], false⟩, []⟩ (And.intro ((tide_New_ok h3_1)) (And.intro (Bl b3_3) (trivial))) (by kernel_rfl) (by kernel_rfl) (by kernel_rfl) (by kernel_rfl) (hk true (Option.some.inj g3))
    · obtain ⟨t3_4, h3_3, g3⟩ := bind_some g3
      exact WC.drw (n := 31) (by assumption) [] [] [(1, .resP (.agg [.s (.int .i64 t3_2.Age)])), (3, .val (.p (.s (.bool false)))), (7, .resP (.s (.bool t3_4)))] [3, 4, 6, 21] [3, 4, 6] ⟨[(3, .ptr 3 0), (4, .ptr 4 0), (6, .ptr 6 0), (21, .p (.s (.bool ((!t3_4)))))], [(3, .box 26 [.p (.s (.int .u64 t2_2.Class.a0)), .p (.s (.int .u64 t2_2.Class.a1)), .p (.s (.int .u64 t2_2.Class.a2)), .p (.s (.int .u64 t2_2.Class.a3)), .p (.s (.int .i64 t2_2.Least))]), (4, .box 28 [.p (.s (.int .i64 t2_4.Age))]), (6, .box 28 [.p (.s (.int .i64 0))])], ⟨[], false⟩, []⟩ (And.intro ((tide_New_ok h3_1)) (And.intro (Bl b3_3) (And.intro ((class_Has_ok h3_3)) (trivial)))) (by kernel_rfl) (by kernel_rfl) (by kernel_rfl) (by kernel_rfl) (hk ((!t3_4)) (Option.some.inj g3))
  rcases if_or h with ⟨c4, h⟩ | ⟨c4, h⟩
  · refine WC.condT c4 (by kernel_rfl) ?_
    refine WX.seq ?_
    obtain ⟨t5_2, h5_1, h⟩ := bind_some h
    refine WC.reg (n := 31) (by assumption) [(0, .resP (.agg [.s (.int .i64 t5_2.Age)]))] [6] [6] ⟨[(6, .ptr 6 0)], [(6, .box 28 [.p (.s (.int .i64 t5_2.Age))])], ⟨[], false⟩, []⟩ (And.intro ((tide_New_ok h5_1)) (trivial)) (by kernel_rfl) ?_
    refine WX.ret ?_
    exact WC.outP (by rw [← Option.some.inj h]; kernel_rfl)
  · refine WC.condF c4 (by kernel_rfl) ?_
    refine WX.skip ?_
    refine WX.seq ?_
    refine WC.reg (n := 31) (by assumption) [] [4, 6] [4, 6] ⟨[(4, .ptr 4 0), (6, .ptr 6 0)], [(4, .box 28 [.p (.s (.int .i64 ((minI ((IntKind.i64.wrap (t2_4.Age + 1))) t2_2.Least))))]), (6, .box 28 [.p (.s (.int .i64 0))])], ⟨[], false⟩, []⟩ trivial (by kernel_rfl) ?_
    refine WX.seq ?_
    refine WC.reg (n := 31) (by assumption) [] [6] [6] ⟨[(6, .ptr 6 0)], [(6, .box 28 [.p (.s (.int .i64 ((minI ((IntKind.i64.wrap (t2_4.Age + 1))) t2_2.Least))))])], ⟨[], false⟩, []⟩ trivial (by kernel_rfl) ?_
    refine WX.ret ?_
    exact WC.outP (by rw [← Option.some.inj h]; kernel_rfl)
def tide_Ready (k : Nat) (a0 : api_Tide) (a1 : api_TideState) : Option (Bool) :=
  (tide_state k a0 a1).bind fun t2_2 => (tide_may k a0).bind fun t2_4 => some ((t2_2.Age == t2_4.Least))
theorem tide_Ready_ok {k : Nat} {a0 : api_Tide} {a1 : api_TideState} {r : Bool} (h : tide_Ready k a0 a1 = some r) : Ans Try.prog 19 [.agg [.s (.int .u64 a0.Class.a0), .s (.int .u64 a0.Class.a1), .s (.int .u64 a0.Class.a2), .s (.int .u64 a0.Class.a3), .s (.int .i64 a0.Least)], .agg [.s (.int .i64 a1.Age)]] (.s (.bool r)) := by
  refine W_fn Try.func19 rfl (by kernel_rfl) (by kernel_rfl) ?_
  intro X hro hn
  unfold tide_Ready at h
  refine WX.seq ?_
  refine WC.reg (n := 13) (by assumption) [] [2, 3] [2, 3] ⟨[(2, .ptr 2 0), (3, .ptr 3 0)], [(2, .box 26 [.p (.s (.int .u64 a0.Class.a0)), .p (.s (.int .u64 a0.Class.a1)), .p (.s (.int .u64 a0.Class.a2)), .p (.s (.int .u64 a0.Class.a3)), .p (.s (.int .i64 a0.Least))]), (3, .box 28 [.p (.s (.int .i64 a1.Age))])], ⟨[], false⟩, []⟩ trivial (by kernel_rfl) ?_
  refine WX.seq ?_
  obtain ⟨t2_2, h2_1, h⟩ := bind_some h
  obtain ⟨t2_4, h2_3, h⟩ := bind_some h
  refine WC.drw (n := 13) (by assumption) [] [] [(2, .resP (.agg [.s (.int .i64 t2_2.Age)])), (5, .resP (.agg [.s (.int .u64 t2_4.Class.a0), .s (.int .u64 t2_4.Class.a1), .s (.int .u64 t2_4.Class.a2), .s (.int .u64 t2_4.Class.a3), .s (.int .i64 t2_4.Least)]))] [4] [] ⟨[(4, .p (.s (.bool ((t2_2.Age == t2_4.Least)))))], [], ⟨[], false⟩, []⟩ (And.intro ((tide_state_ok h2_1)) (And.intro ((tide_may_ok h2_3)) (trivial))) (by kernel_rfl) (by kernel_rfl) (by kernel_rfl) (by kernel_rfl) ?_
  refine WX.ret ?_
  exact WC.outP (by rw [← Option.some.inj h]; kernel_rfl)
def slices_Index_int_int_l0 (a0 : (List Int)) (a1 : Int) (J3 : Unit → Option (Int)) : Nat → Int → Option (Int)
  | 0, _ => none
  | k + 1, x20_1_1 => (if (decide (x20_1_1 < (a0.length : Int))) = true then (at_ a0 x20_1_1).bind fun t38_2 => (if (a1 == t38_2) = true then some x20_1_1 else slices_Index_int_int_l0 a0 a1 J3 k ((IntKind.i64.wrap (x20_1_1 + 1)))) else J3 ())
def slices_Index_int_int (k : Nat) (a0 : (List Int)) (a1 : Int) : Option (Int) :=
  jn (fun (v3 : Unit) => some ((-1))) fun J3 => slices_Index_int_int_l0 a0 a1 J3 k 0
theorem slices_Index_int_int_ok {k : Nat} {a0 : (List Int)} {a1 : Int} {r : Int} (h : slices_Index_int_int k a0 a1 = some r) : Ans Try.prog 48 [slV (eI .i64) a0, .s (.int .i64 a1)] (.s (.int .i64 r)) := by
  refine W_fn Try.func48 rfl (by kernel_rfl) (by kernel_rfl) ?_
  intro X hro hn
  unfold slices_Index_int_int at h
  refine WX.seq ?_
  refine WC.reg (n := 19) (by assumption) [] [0, 1] [] ⟨[(0, .p (slV (eI .i64) a0)), (1, .p (.s (.int .i64 a1)))], [], ⟨[], false⟩, []⟩ trivial (by kernel_rfl) ?_
  refine WX.seq ?_
  refine WX.seq ?_
  refine WC.reg (n := 19) (by assumption) [] [0, 1, 7, 8] [] ⟨[(0, .p (slV (eI .i64) a0)), (1, .p (.s (.int .i64 a1))), (7, .p (.s (.int .i64 ((a0.length : Int))))), (8, .p (.s (.int .i64 0)))], [], ⟨[], false⟩, []⟩ trivial (by kernel_rfl) ?_
  obtain ⟨J3, eJ3, h⟩ := jn_some h
  try dsimp only at h
  refine WC.join (α := Unit) (fun v3 => ⟨[], [], ⟨[], false⟩, []⟩) (fun v3 => J3 v3 = some r) ?_ (fun hJ3 => ?_)
  · rintro _ h
    rw [eJ3] at h
    try dsimp only at h
    refine WX.seq ?_
    refine WC.reg (n := 19) (by assumption) [] [4] [] ⟨[(4, .p (.s (.int .i64 ((-1)))))], [], ⟨[], false⟩, []⟩ trivial (by kernel_rfl) ?_
    refine WX.ret ?_
    exact WC.outP (by rw [← Option.some.inj h]; kernel_rfl)
  · skip
    refine WX.block ?_
    refine WC.loop (V := Int) (slices_Index_int_int_l0 a0 a1 J3) r (fun v20 => ⟨[(0, .p (slV (eI .i64) a0)), (1, .p (.s (.int .i64 a1))), (7, .p (.s (.int .i64 ((a0.length : Int))))), (8, .p (.s (.int .i64 v20)))], [], ⟨[], false⟩, []⟩) _ 0 h (fun _ => rfl) [0, 1, 7, 8] [] (by kernel_rfl) ?_
    clear h; rintro k x20_1_1 h K20 hnext20 hexit20
    rw [slices_Index_int_int_l0] at h
    refine WX.seq ?_
    refine WC.reg (n := 19) (by assumption) [] [0, 1, 7, 8, 9] [] ⟨[(0, .p (slV (eI .i64) a0)), (1, .p (.s (.int .i64 a1))), (7, .p (.s (.int .i64 ((a0.length : Int))))), (8, .p (.s (.int .i64 x20_1_1))), (9, .p (.s (.bool ((decide (x20_1_1 < (a0.length : Int)))))))], [], ⟨[], false⟩, []⟩ trivial (by kernel_rfl) ?_
    refine WX.seq ?_
    rcases if_or h with ⟨c36, h⟩ | ⟨c36, h⟩
    · refine WC.condT c36 (by kernel_rfl) ?_
      refine WX.skip ?_
      refine WX.seq ?_
      refine WX.block ?_
      refine WX.seq ?_
      refine WC.reg (n := 19) (by assumption) [] [0, 1, 5, 7, 8] [] ⟨[(0, .p (slV (eI .i64) a0)), (1, .p (.s (.int .i64 a1))), (5, .p (.s (.int .i64 x20_1_1))), (7, .p (.s (.int .i64 ((a0.length : Int))))), (8, .p (.s (.int .i64 x20_1_1)))], [], ⟨[], false⟩, []⟩ trivial (by kernel_rfl) ?_
      refine WX.seq ?_
      obtain ⟨t38_2, h38_1, h⟩ := bind_some h
      refine WC.reg (n := 19) (by assumption) [(3, .val (.p (.rop ((eI .i64).cells t38_2 ++ encL (eI .i64) (a0.drop (x20_1_1.toNat + 1))))))] [0, 1, 5, 7, 8, 16] [] ⟨[(0, .p (slV (eI .i64) a0)), (1, .p (.s (.int .i64 a1))), (5, .p (.s (.int .i64 x20_1_1))), (7, .p (.s (.int .i64 ((a0.length : Int))))), (8, .p (.s (.int .i64 x20_1_1))), (16, .p (.s (.bool ((a1 == t38_2)))))], [], ⟨[], false⟩, []⟩ (And.intro (Ix (eI .i64) h38_1) (trivial)) (by kernel_rfl) ?_
      rcases if_or h with ⟨c39, h⟩ | ⟨c39, h⟩
      · refine WC.condT c39 (by kernel_rfl) ?_
        refine WX.seq ?_
        refine WC.reg (n := 19) (by assumption) [] [4] [] ⟨[(4, .p (.s (.int .i64 x20_1_1)))], [], ⟨[], false⟩, []⟩ trivial (by kernel_rfl) ?_
        refine WX.ret ?_
        refine WC.ret_all (hexit20 _ _ (by simp) ?_)
        exact WC.outP (by rw [← Option.some.inj h]; kernel_rfl)
      · refine WC.condF c39 (by kernel_rfl) ?_
        refine WX.skip ?_
        refine WX.popBlk ?_
        refine WC.reg (n := 19) (by assumption) [] [0, 1, 7, 8] [] ⟨[(0, .p (slV (eI .i64) a0)), (1, .p (.s (.int .i64 a1))), (7, .p (.s (.int .i64 ((a0.length : Int))))), (8, .p (.s (.int .i64 ((IntKind.i64.wrap (x20_1_1 + 1))))))], [], ⟨[], false⟩, []⟩ trivial (by kernel_rfl) ?_
        exact WC.next [0, 1, 7, 8] [] (by kernel_rfl) (hnext20 ((IntKind.i64.wrap (x20_1_1 + 1))) h)
    · refine WC.condF c36 (by kernel_rfl) ?_
      refine WX.exit ?_
      refine WX.popCodeExit ?_
      refine WC.exit_nil (hexit20 _ _ (by simp) ?_)
      refine WX.popBlkHit ?_
      exact WC.keep [] [] (by kernel_rfl) (hJ3 () h)
def slices_Contains_int_int (k : Nat) (a0 : (List Int)) (a1 : Int) : Option (Bool) :=
  (slices_Index_int_int k a0 a1).bind fun t2_2 => some ((decide (t2_2 ≥ 0)))
theorem slices_Contains_int_int_ok {k : Nat} {a0 : (List Int)} {a1 : Int} {r : Bool} (h : slices_Contains_int_int k a0 a1 = some r) : Ans Try.prog 28 [slV (eI .i64) a0, .s (.int .i64 a1)] (.s (.bool r)) := by
  refine W_fn Try.func28 rfl (by kernel_rfl) (by kernel_rfl) ?_
  intro X hro hn
  unfold slices_Contains_int_int at h
  refine WX.seq ?_
  refine WC.reg (n := 9) (by assumption) [] [0, 1] [] ⟨[(0, .p (slV (eI .i64) a0)), (1, .p (.s (.int .i64 a1)))], [], ⟨[], false⟩, []⟩ trivial (by kernel_rfl) ?_
  refine WX.seq ?_
  obtain ⟨t2_2, h2_1, h⟩ := bind_some h
  refine WC.reg (n := 9) (by assumption) [(2, .resP (.s (.int .i64 t2_2)))] [4] [] ⟨[(4, .p (.s (.bool ((decide (t2_2 ≥ 0))))))], [], ⟨[], false⟩, []⟩ (And.intro ((slices_Index_int_int_ok h2_1)) (trivial)) (by kernel_rfl) ?_
  refine WX.ret ?_
  exact WC.outP (by rw [← Option.some.inj h]; kernel_rfl)
def tide_Run_l0 (a0 : api_Tide) (a2 : (List Int)) (a3 : (List Int)) (J5 : (List Int × Int) → Option (api_TideState × (List Int))) : Nat → (List Int × Int × Int) → Option (api_TideState × (List Int))
  | 0, _ => none
  | k + 1, (x40_1_1, x40_1_2, x40_1_3) => (if (decide (x40_1_2 < (IntKind.i64.wrap ((a2.length : Int) + 1)))) = true then (slices_Contains_int_int k a3 x40_1_2).bind fun t76_2 => jn (fun (v77 : Int) => (tide_Ready k a0 ((api_TideState.mk v77))).bind fun t80_2 => jn (fun (v81 : List Int) => (if (decide (x40_1_2 < (a2.length : Int))) = true then (at_ a2 x40_1_2).bind fun t86_2 => (tide_Step k a0 ((api_TideState.mk v77)) t86_2).bind fun t86_4 => tide_Run_l0 a0 a2 a3 J5 k (v81, (IntKind.i64.wrap (x40_1_2 + 1)), t86_4.Age) else tide_Run_l0 a0 a2 a3 J5 k (v81, (IntKind.i64.wrap (x40_1_2 + 1)), v77))) fun J81 => (if t80_2 = true then (if okApp 8 (x40_1_1.length + ([x40_1_2]).length) then J81 (x40_1_1 ++ ([x40_1_2])) else none) else J81 x40_1_1)) fun J77 => (if t76_2 = true then (tide_Trigger k a0 ((api_TideState.mk x40_1_3))).bind fun t92_2 => J77 t92_2.Age else J77 x40_1_3) else J5 (x40_1_1, x40_1_3))
def tide_Run (k : Nat) (a0 : api_Tide) (a1 : api_TideState) (a2 : (List Int)) (a3 : (List Int)) : Option (api_TideState × (List Int)) :=
  (tide_state k a0 a1).bind fun t2_2 => jn (fun (v5 : List Int × Int) => some ((api_TideState.mk v5.2), v5.1)) fun J5 => tide_Run_l0 a0 a2 a3 J5 k (([] : List Int), 0, t2_2.Age)
theorem tide_Run_ok {k : Nat} {a0 : api_Tide} {a1 : api_TideState} {a2 : (List Int)} {a3 : (List Int)} {r : api_TideState × (List Int)} (h : tide_Run k a0 a1 a2 a3 = some r) : AnsO Try.prog 21 [] [.p (.agg [.s (.int .u64 a0.Class.a0), .s (.int .u64 a0.Class.a1), .s (.int .u64 a0.Class.a2), .s (.int .u64 a0.Class.a3), .s (.int .i64 a0.Least)]), .p (.agg [.s (.int .i64 a1.Age)]), .p (slV (eI .u8) a2), .p (slV (eI .i64) a3)] [(33, rowV 3 (eI .i64) r.2)] (.tup [.agg [.p (.s (.int .i64 r.1.Age))], .own 33]) := by
  refine W_fnO [33] Try.func21 rfl (by kernel_rfl) (by kernel_rfl) (by kernel_rfl) (by kernel_rfl) ?_
  intro X hro hn
  unfold tide_Run at h
  refine WX.seq ?_
  refine WC.reg (n := 48) (by assumption) [] [2, 3, 4, 5, 8] [4, 5, 8] ⟨[(2, .p (slV (eI .u8) a2)), (3, .p (slV (eI .i64) a3)), (4, .ptr 4 0), (5, .ptr 5 0), (8, .ptr 8 0)], [(4, .box 26 [.p (.s (.int .u64 a0.Class.a0)), .p (.s (.int .u64 a0.Class.a1)), .p (.s (.int .u64 a0.Class.a2)), .p (.s (.int .u64 a0.Class.a3)), .p (.s (.int .i64 a0.Least))]), (5, .box 28 [.p (.s (.int .i64 a1.Age))]), (8, .box 28 [.p (.s (.int .i64 0))])], ⟨[], false⟩, []⟩ trivial (by kernel_rfl) ?_
  refine WX.seq ?_
  obtain ⟨t2_2, h2_1, h⟩ := bind_some h
  refine WC.reg (n := 48) (by assumption) [(2, .resP (.agg [.s (.int .i64 t2_2.Age)]))] [2, 3, 4, 5, 8] [4, 5, 8] ⟨[(2, .p (slV (eI .u8) a2)), (3, .p (slV (eI .i64) a3)), (4, .ptr 4 0), (5, .ptr 5 0), (8, .ptr 8 0)], [(4, .box 26 [.p (.s (.int .u64 a0.Class.a0)), .p (.s (.int .u64 a0.Class.a1)), .p (.s (.int .u64 a0.Class.a2)), .p (.s (.int .u64 a0.Class.a3)), .p (.s (.int .i64 a0.Least))]), (5, .box 28 [.p (.s (.int .i64 t2_2.Age))]), (8, .box 28 [.p (.s (.int .i64 0))])], ⟨[], false⟩, []⟩ (And.intro ((tide_state_ok h2_1)) (trivial)) (by kernel_rfl) ?_
  refine WX.seq ?_
  refine WC.reg (n := 48) (by assumption) [] [2, 3, 4, 5, 8, 10] [4, 5, 8] ⟨[(2, .p (slV (eI .u8) a2)), (3, .p (slV (eI .i64) a3)), (4, .ptr 4 0), (5, .ptr 5 0), (8, .ptr 8 0), (10, .p (.sl .nil 0 []))], [(4, .box 26 [.p (.s (.int .u64 a0.Class.a0)), .p (.s (.int .u64 a0.Class.a1)), .p (.s (.int .u64 a0.Class.a2)), .p (.s (.int .u64 a0.Class.a3)), .p (.s (.int .i64 a0.Least))]), (5, .box 28 [.p (.s (.int .i64 t2_2.Age))]), (8, .box 28 [.p (.s (.int .i64 0))])], ⟨[], false⟩, []⟩ trivial (by kernel_rfl) ?_
  refine WX.seq ?_
  refine WX.seq ?_
  refine WC.reg (n := 48) (by assumption) [] [2, 3, 4, 5, 8, 10, 17, 18] [4, 5, 8] ⟨[(2, .p (slV (eI .u8) a2)), (3, .p (slV (eI .i64) a3)), (4, .ptr 4 0), (5, .ptr 5 0), (8, .ptr 8 0), (10, .p (.sl .nil 0 [])), (17, .p (.s (.int .i64 ((IntKind.i64.wrap ((a2.length : Int) + 1)))))), (18, .p (.s (.int .i64 0)))], [(4, .box 26 [.p (.s (.int .u64 a0.Class.a0)), .p (.s (.int .u64 a0.Class.a1)), .p (.s (.int .u64 a0.Class.a2)), .p (.s (.int .u64 a0.Class.a3)), .p (.s (.int .i64 a0.Least))]), (5, .box 28 [.p (.s (.int .i64 t2_2.Age))]), (8, .box 28 [.p (.s (.int .i64 0))])], ⟨[], false⟩, []⟩ trivial (by kernel_rfl) ?_
  obtain ⟨J5, eJ5, h⟩ := jn_some h
  try dsimp only at h
  refine WC.join (α := List Int × Int) (fun v5 => ⟨[(5, .ptr 5 0), (8, .ptr 8 0), (10, .own 33)], [(5, .box 28 [.p (.s (.int .i64 v5.2))]), (8, .box 28 [.p (.s (.int .i64 0))]), (33, rowV 3 (eI .i64) v5.1)], ⟨[], false⟩, []⟩) (fun v5 => J5 v5 = some r) ?_ (fun hJ5 => ?_)
  · rintro ⟨y5_1, y5_2⟩ h
    rw [eJ5] at h
    try dsimp only at h
    refine WX.seq ?_
    refine WC.reg (n := 48) (by assumption) [] [8, 9] [8, 33] ⟨[(8, .ptr 8 0), (9, .own 33)], [(8, .box 28 [.p (.s (.int .i64 y5_2))]), (33, rowV 3 (eI .i64) y5_1)], ⟨[], false⟩, []⟩ trivial (by kernel_rfl) ?_
    refine WX.ret ?_
    exact WC.outO (by rw [← Option.some.inj h]; kernel_rfl)
  · replace hJ5 := fun y5_1 y5_2 => hJ5 (y5_1, y5_2)
    refine WX.block ?_
    refine WC.nil (n := 48) (by assumption) [10] none 33 3 1 (by kernel_rfl) [2, 3, 4, 5, 8, 10, 17, 18] [4, 5, 8, 33] (st' := ⟨[(2, .p (slV (eI .u8) a2)), (3, .p (slV (eI .i64) a3)), (4, .ptr 4 0), (5, .ptr 5 0), (8, .ptr 8 0), (10, .own 33), (17, .p (.s (.int .i64 ((IntKind.i64.wrap ((a2.length : Int) + 1)))))), (18, .p (.s (.int .i64 0)))], [(4, .box 26 [.p (.s (.int .u64 a0.Class.a0)), .p (.s (.int .u64 a0.Class.a1)), .p (.s (.int .u64 a0.Class.a2)), .p (.s (.int .u64 a0.Class.a3)), .p (.s (.int .i64 a0.Least))]), (5, .box 28 [.p (.s (.int .i64 t2_2.Age))]), (8, .box 28 [.p (.s (.int .i64 0))]), (33, rowV 3 (eI .i64) (([] : List Int)))], ⟨[], false⟩, []⟩) (by kernel_rfl) ?_
    refine WC.loop (V := List Int × Int × Int) (tide_Run_l0 a0 a2 a3 J5) r (fun v40 => ⟨[(2, .p (slV (eI .u8) a2)), (3, .p (slV (eI .i64) a3)), (4, .ptr 4 0), (5, .ptr 5 0), (8, .ptr 8 0), (10, .own 33), (17, .p (.s (.int .i64 ((IntKind.i64.wrap ((a2.length : Int) + 1)))))), (18, .p (.s (.int .i64 v40.2.1)))], [(4, .box 26 [.p (.s (.int .u64 a0.Class.a0)), .p (.s (.int .u64 a0.Class.a1)), .p (.s (.int .u64 a0.Class.a2)), .p (.s (.int .u64 a0.Class.a3)), .p (.s (.int .i64 a0.Least))]), (5, .box 28 [.p (.s (.int .i64 v40.2.2))]), (8, .box 28 [.p (.s (.int .i64 0))]), (33, rowV 3 (eI .i64) v40.1)], ⟨[], false⟩, []⟩) _ (([] : List Int), 0, t2_2.Age) h (fun _ => rfl) [2, 3, 4, 5, 8, 10, 17, 18] [4, 5, 8, 33] (by kernel_rfl) ?_
    clear h; rintro k ⟨x40_1_1, x40_1_2, x40_1_3⟩ h K40 hnext40 hexit40
    rw [tide_Run_l0] at h
    refine WX.seq ?_
    refine WC.reg (n := 48) (by assumption) [] [2, 3, 4, 5, 8, 10, 17, 18, 19] [4, 5, 8, 33] ⟨[(2, .p (slV (eI .u8) a2)), (3, .p (slV (eI .i64) a3)), (4, .ptr 4 0), (5, .ptr 5 0), (8, .ptr 8 0), (10, .own 33), (17, .p (.s (.int .i64 ((IntKind.i64.wrap ((a2.length : Int) + 1)))))), (18, .p (.s (.int .i64 x40_1_2))), (19, .p (.s (.bool ((decide (x40_1_2 < (IntKind.i64.wrap ((a2.length : Int) + 1))))))))], [(4, .box 26 [.p (.s (.int .u64 a0.Class.a0)), .p (.s (.int .u64 a0.Class.a1)), .p (.s (.int .u64 a0.Class.a2)), .p (.s (.int .u64 a0.Class.a3)), .p (.s (.int .i64 a0.Least))]), (5, .box 28 [.p (.s (.int .i64 x40_1_3))]), (8, .box 28 [.p (.s (.int .i64 0))]), (33, rowV 3 (eI .i64) x40_1_1)], ⟨[], false⟩, []⟩ trivial (by kernel_rfl) ?_
    refine WX.seq ?_
    rcases if_or h with ⟨c74, h⟩ | ⟨c74, h⟩
    · refine WC.condT c74 (by kernel_rfl) ?_
      refine WX.skip ?_
      refine WX.seq ?_
      refine WX.block ?_
      refine WX.seq ?_
      refine WC.reg (n := 48) (by assumption) [] [2, 3, 4, 5, 8, 10, 11, 17, 18] [4, 5, 8, 33] ⟨[(2, .p (slV (eI .u8) a2)), (3, .p (slV (eI .i64) a3)), (4, .ptr 4 0), (5, .ptr 5 0), (8, .ptr 8 0), (10, .own 33), (11, .p (.s (.int .i64 x40_1_2))), (17, .p (.s (.int .i64 ((IntKind.i64.wrap ((a2.length : Int) + 1)))))), (18, .p (.s (.int .i64 x40_1_2)))], [(4, .box 26 [.p (.s (.int .u64 a0.Class.a0)), .p (.s (.int .u64 a0.Class.a1)), .p (.s (.int .u64 a0.Class.a2)), .p (.s (.int .u64 a0.Class.a3)), .p (.s (.int .i64 a0.Least))]), (5, .box 28 [.p (.s (.int .i64 x40_1_3))]), (8, .box 28 [.p (.s (.int .i64 0))]), (33, rowV 3 (eI .i64) x40_1_1)], ⟨[], false⟩, []⟩ trivial (by kernel_rfl) ?_
      refine WX.seq ?_
      refine WX.seq ?_
      obtain ⟨t76_2, h76_1, h⟩ := bind_some h
      refine WC.reg (n := 48) (by assumption) [(2, .resP (.s (.bool t76_2)))] [2, 3, 4, 5, 8, 10, 11, 17, 18, 23] [4, 5, 8, 33] ⟨[(2, .p (slV (eI .u8) a2)), (3, .p (slV (eI .i64) a3)), (4, .ptr 4 0), (5, .ptr 5 0), (8, .ptr 8 0), (10, .own 33), (11, .p (.s (.int .i64 x40_1_2))), (17, .p (.s (.int .i64 ((IntKind.i64.wrap ((a2.length : Int) + 1)))))), (18, .p (.s (.int .i64 x40_1_2))), (23, .p (.s (.bool t76_2)))], [(4, .box 26 [.p (.s (.int .u64 a0.Class.a0)), .p (.s (.int .u64 a0.Class.a1)), .p (.s (.int .u64 a0.Class.a2)), .p (.s (.int .u64 a0.Class.a3)), .p (.s (.int .i64 a0.Least))]), (5, .box 28 [.p (.s (.int .i64 x40_1_3))]), (8, .box 28 [.p (.s (.int .i64 0))]), (33, rowV 3 (eI .i64) x40_1_1)], ⟨[], false⟩, []⟩ (And.intro ((slices_Contains_int_int_ok h76_1)) (trivial)) (by kernel_rfl) ?_
      obtain ⟨J77, eJ77, h⟩ := jn_some h
      try dsimp only at h
      refine WC.join (α := Int) (fun v77 => ⟨[(2, .p (slV (eI .u8) a2)), (3, .p (slV (eI .i64) a3)), (4, .ptr 4 0), (5, .ptr 5 0), (8, .ptr 8 0), (10, .own 33), (11, .p (.s (.int .i64 x40_1_2))), (17, .p (.s (.int .i64 ((IntKind.i64.wrap ((a2.length : Int) + 1)))))), (18, .p (.s (.int .i64 x40_1_2)))], [(4, .box 26 [.p (.s (.int .u64 a0.Class.a0)), .p (.s (.int .u64 a0.Class.a1)), .p (.s (.int .u64 a0.Class.a2)), .p (.s (.int .u64 a0.Class.a3)), .p (.s (.int .i64 a0.Least))]), (5, .box 28 [.p (.s (.int .i64 v77))]), (8, .box 28 [.p (.s (.int .i64 0))]), (33, rowV 3 (eI .i64) x40_1_1)], ⟨[], false⟩, []⟩) (fun v77 => J77 v77 = some r) ?_ (fun hJ77 => ?_)
      · rintro y77_1 h
        rw [eJ77] at h
        try dsimp only at h
        refine WX.seq ?_
        refine WX.seq ?_
        obtain ⟨t80_2, h80_1, h⟩ := bind_some h
        refine WC.reg (n := 48) (by assumption) [(2, .resP (.s (.bool t80_2)))] [2, 3, 4, 5, 8, 10, 11, 17, 18, 29] [4, 5, 8, 33] ⟨[(2, .p (slV (eI .u8) a2)), (3, .p (slV (eI .i64) a3)), (4, .ptr 4 0), (5, .ptr 5 0), (8, .ptr 8 0), (10, .own 33), (11, .p (.s (.int .i64 x40_1_2))), (17, .p (.s (.int .i64 ((IntKind.i64.wrap ((a2.length : Int) + 1)))))), (18, .p (.s (.int .i64 x40_1_2))), (29, .p (.s (.bool t80_2)))], [(4, .box 26 [.p (.s (.int .u64 a0.Class.a0)), .p (.s (.int .u64 a0.Class.a1)), .p (.s (.int .u64 a0.Class.a2)), .p (.s (.int .u64 a0.Class.a3)), .p (.s (.int .i64 a0.Least))]), (5, .box 28 [.p (.s (.int .i64 y77_1))]), (8, .box 28 [.p (.s (.int .i64 0))]), (33, rowV 3 (eI .i64) x40_1_1)], ⟨[], false⟩, []⟩ (And.intro ((tide_Ready_ok h80_1)) (trivial)) (by kernel_rfl) ?_
        obtain ⟨J81, eJ81, h⟩ := jn_some h
        try dsimp only at h
        refine WC.join (α := List Int) (fun v81 => ⟨[(2, .p (slV (eI .u8) a2)), (3, .p (slV (eI .i64) a3)), (4, .ptr 4 0), (5, .ptr 5 0), (8, .ptr 8 0), (10, .own 33), (11, .p (.s (.int .i64 x40_1_2))), (17, .p (.s (.int .i64 ((IntKind.i64.wrap ((a2.length : Int) + 1)))))), (18, .p (.s (.int .i64 x40_1_2)))], [(4, .box 26 [.p (.s (.int .u64 a0.Class.a0)), .p (.s (.int .u64 a0.Class.a1)), .p (.s (.int .u64 a0.Class.a2)), .p (.s (.int .u64 a0.Class.a3)), .p (.s (.int .i64 a0.Least))]), (5, .box 28 [.p (.s (.int .i64 y77_1))]), (8, .box 28 [.p (.s (.int .i64 0))]), (33, rowV 3 (eI .i64) v81)], ⟨[], false⟩, []⟩) (fun v81 => J81 v81 = some r) ?_ (fun hJ81 => ?_)
        · rintro y81_1 h
          rw [eJ81] at h
          try dsimp only at h
          refine WX.seq ?_
          refine WC.reg (n := 48) (by assumption) [] [2, 3, 4, 5, 8, 10, 11, 17, 18, 37] [4, 5, 8, 33] ⟨[(2, .p (slV (eI .u8) a2)), (3, .p (slV (eI .i64) a3)), (4, .ptr 4 0), (5, .ptr 5 0), (8, .ptr 8 0), (10, .own 33), (11, .p (.s (.int .i64 x40_1_2))), (17, .p (.s (.int .i64 ((IntKind.i64.wrap ((a2.length : Int) + 1)))))), (18, .p (.s (.int .i64 x40_1_2))), (37, .p (.s (.bool ((decide (x40_1_2 < (a2.length : Int)))))))], [(4, .box 26 [.p (.s (.int .u64 a0.Class.a0)), .p (.s (.int .u64 a0.Class.a1)), .p (.s (.int .u64 a0.Class.a2)), .p (.s (.int .u64 a0.Class.a3)), .p (.s (.int .i64 a0.Least))]), (5, .box 28 [.p (.s (.int .i64 y77_1))]), (8, .box 28 [.p (.s (.int .i64 0))]), (33, rowV 3 (eI .i64) y81_1)], ⟨[], false⟩, []⟩ trivial (by kernel_rfl) ?_
          rcases if_or h with ⟨c85, h⟩ | ⟨c85, h⟩
          · refine WC.condT c85 (by kernel_rfl) ?_
            obtain ⟨t86_2, h86_1, h⟩ := bind_some h
            obtain ⟨t86_4, h86_3, h⟩ := bind_some h
            refine WC.drw (n := 48) (by assumption) [(7, [])] [] [(4, .val (.p (.rop ((eI .u8).cells t86_2 ++ encL (eI .u8) (a2.drop (x40_1_2.toNat + 1)))))), (6, .resP (.agg [.s (.int .i64 t86_4.Age)]))] [2, 3, 4, 5, 8, 10, 17, 18] [4, 5, 8, 33] ⟨[(2, .p (slV (eI .u8) a2)), (3, .p (slV (eI .i64) a3)), (4, .ptr 4 0), (5, .ptr 5 0), (8, .ptr 8 0), (10, .own 33), (17, .p (.s (.int .i64 ((IntKind.i64.wrap ((a2.length : Int) + 1)))))), (18, .p (.s (.int .i64 x40_1_2)))], [(4, .box 26 [.p (.s (.int .u64 a0.Class.a0)), .p (.s (.int .u64 a0.Class.a1)), .p (.s (.int .u64 a0.Class.a2)), .p (.s (.int .u64 a0.Class.a3)), .p (.s (.int .i64 a0.Least))]), (5, .box 28 [.p (.s (.int .i64 t86_4.Age))]), (8, .box 28 [.p (.s (.int .i64 0))]), (33, rowV 3 (eI .i64) y81_1)], ⟨[], false⟩, []⟩ (And.intro (Ix (eI .u8) h86_1) (And.intro ((tide_Step_ok h86_3)) (trivial))) (by kernel_rfl) (by kernel_rfl) (by kernel_rfl) (by kernel_rfl) ?_
            refine WX.popBlk ?_
            refine WC.reg (n := 48) (by assumption) [] [2, 3, 4, 5, 8, 10, 17, 18] [4, 5, 8, 33] ⟨[(2, .p (slV (eI .u8) a2)), (3, .p (slV (eI .i64) a3)), (4, .ptr 4 0), (5, .ptr 5 0), (8, .ptr 8 0), (10, .own 33), (17, .p (.s (.int .i64 ((IntKind.i64.wrap ((a2.length : Int) + 1)))))), (18, .p (.s (.int .i64 ((IntKind.i64.wrap (x40_1_2 + 1))))))], [(4, .box 26 [.p (.s (.int .u64 a0.Class.a0)), .p (.s (.int .u64 a0.Class.a1)), .p (.s (.int .u64 a0.Class.a2)), .p (.s (.int .u64 a0.Class.a3)), .p (.s (.int .i64 a0.Least))]), (5, .box 28 [.p (.s (.int .i64 t86_4.Age))]), (8, .box 28 [.p (.s (.int .i64 0))]), (33, rowV 3 (eI .i64) y81_1)], ⟨[], false⟩, []⟩ trivial (by kernel_rfl) ?_
            exact WC.next [2, 3, 4, 5, 8, 10, 17, 18] [4, 5, 8, 33] (by kernel_rfl) (hnext40 (y81_1, (IntKind.i64.wrap (x40_1_2 + 1)), t86_4.Age) h)
          · refine WC.condF c85 (by kernel_rfl) ?_
            refine WX.skip ?_
            refine WX.popBlk ?_
            refine WC.reg (n := 48) (by assumption) [] [2, 3, 4, 5, 8, 10, 17, 18] [4, 5, 8, 33] ⟨[(2, .p (slV (eI .u8) a2)), (3, .p (slV (eI .i64) a3)), (4, .ptr 4 0), (5, .ptr 5 0), (8, .ptr 8 0), (10, .own 33), (17, .p (.s (.int .i64 ((IntKind.i64.wrap ((a2.length : Int) + 1)))))), (18, .p (.s (.int .i64 ((IntKind.i64.wrap (x40_1_2 + 1))))))], [(4, .box 26 [.p (.s (.int .u64 a0.Class.a0)), .p (.s (.int .u64 a0.Class.a1)), .p (.s (.int .u64 a0.Class.a2)), .p (.s (.int .u64 a0.Class.a3)), .p (.s (.int .i64 a0.Least))]), (5, .box 28 [.p (.s (.int .i64 y77_1))]), (8, .box 28 [.p (.s (.int .i64 0))]), (33, rowV 3 (eI .i64) y81_1)], ⟨[], false⟩, []⟩ trivial (by kernel_rfl) ?_
            exact WC.next [2, 3, 4, 5, 8, 10, 17, 18] [4, 5, 8, 33] (by kernel_rfl) (hnext40 (y81_1, (IntKind.i64.wrap (x40_1_2 + 1)), y77_1) h)
        · replace hJ81 := fun y81_1 => hJ81 y81_1
          rcases if_or h with ⟨c89, h⟩ | ⟨c89, h⟩
          · refine WC.condT c89 (by kernel_rfl) ?_
            obtain ⟨c90_1, h⟩ := if_some h
            refine WC.reg (n := 48) (by assumption) [(3, .app (some 33) (rowV 3 (eI .i64) (x40_1_1 ++ ([x40_1_2]))))] [2, 3, 4, 5, 8, 10, 11, 17, 18] [4, 5, 8, 33] ⟨[(2, .p (slV (eI .u8) a2)), (3, .p (slV (eI .i64) a3)), (4, .ptr 4 0), (5, .ptr 5 0), (8, .ptr 8 0), (10, .own 33), (11, .p (.s (.int .i64 x40_1_2))), (17, .p (.s (.int .i64 ((IntKind.i64.wrap ((a2.length : Int) + 1)))))), (18, .p (.s (.int .i64 x40_1_2)))], [(4, .box 26 [.p (.s (.int .u64 a0.Class.a0)), .p (.s (.int .u64 a0.Class.a1)), .p (.s (.int .u64 a0.Class.a2)), .p (.s (.int .u64 a0.Class.a3)), .p (.s (.int .i64 a0.Least))]), (5, .box 28 [.p (.s (.int .i64 y77_1))]), (8, .box 28 [.p (.s (.int .i64 0))]), (33, rowV 3 (eI .i64) (x40_1_1 ++ ([x40_1_2])))], ⟨[], false⟩, []⟩ (And.intro (Ap (eI .i64) (some 33) 3 8 1 x40_1_1 ([x40_1_2]) c90_1) (trivial)) (by kernel_rfl) ?_
            exact WC.keep [2, 3, 4, 5, 8, 10, 11, 17, 18] [4, 5, 8, 33] (by kernel_rfl) (hJ81 (x40_1_1 ++ ([x40_1_2])) h)
          · refine WC.condF c89 (by kernel_rfl) ?_
            refine WX.skip ?_
            exact WC.keep [2, 3, 4, 5, 8, 10, 11, 17, 18] [4, 5, 8, 33] (by kernel_rfl) (hJ81 x40_1_1 h)
      · replace hJ77 := fun y77_1 => hJ77 y77_1
        rcases if_or h with ⟨c91, h⟩ | ⟨c91, h⟩
        · refine WC.condT c91 (by kernel_rfl) ?_
          obtain ⟨t92_2, h92_1, h⟩ := bind_some h
          refine WC.reg (n := 48) (by assumption) [(2, .resP (.agg [.s (.int .i64 t92_2.Age)]))] [2, 3, 4, 5, 8, 10, 11, 17, 18] [4, 5, 8, 33] ⟨[(2, .p (slV (eI .u8) a2)), (3, .p (slV (eI .i64) a3)), (4, .ptr 4 0), (5, .ptr 5 0), (8, .ptr 8 0), (10, .own 33), (11, .p (.s (.int .i64 x40_1_2))), (17, .p (.s (.int .i64 ((IntKind.i64.wrap ((a2.length : Int) + 1)))))), (18, .p (.s (.int .i64 x40_1_2)))], [(4, .box 26 [.p (.s (.int .u64 a0.Class.a0)), .p (.s (.int .u64 a0.Class.a1)), .p (.s (.int .u64 a0.Class.a2)), .p (.s (.int .u64 a0.Class.a3)), .p (.s (.int .i64 a0.Least))]), (5, .box 28 [.p (.s (.int .i64 t92_2.Age))]), (8, .box 28 [.p (.s (.int .i64 0))]), (33, rowV 3 (eI .i64) x40_1_1)], ⟨[], false⟩, []⟩ (And.intro ((tide_Trigger_ok h92_1)) (trivial)) (by kernel_rfl) ?_
          exact WC.keep [2, 3, 4, 5, 8, 10, 11, 17, 18] [4, 5, 8, 33] (by kernel_rfl) (hJ77 t92_2.Age h)
        · refine WC.condF c91 (by kernel_rfl) ?_
          refine WX.skip ?_
          exact WC.keep [2, 3, 4, 5, 8, 10, 11, 17, 18] [4, 5, 8, 33] (by kernel_rfl) (hJ77 x40_1_3 h)
    · refine WC.condF c74 (by kernel_rfl) ?_
      refine WX.exit ?_
      refine WX.popCodeExit ?_
      refine WC.exit_nil (hexit40 _ _ (by simp) ?_)
      refine WX.popBlkHit ?_
      exact WC.keep [5, 8, 10] [5, 8, 33] (by kernel_rfl) (hJ5 x40_1_1 x40_1_3 h)
theorem tide_Run_okP {k : Nat} {a0 : api_Tide} {a1 : api_TideState} {a2 : (List Int)} {a3 : (List Int)} {r : api_TideState × (List Int)} (h : tide_Run k a0 a1 a2 a3 = some r) : Ans Try.prog 21 [.agg [.s (.int .u64 a0.Class.a0), .s (.int .u64 a0.Class.a1), .s (.int .u64 a0.Class.a2), .s (.int .u64 a0.Class.a3), .s (.int .i64 a0.Least)], .agg [.s (.int .i64 a1.Age)], slV (eI .u8) a2, slV (eI .i64) a3] (.tup [.agg [.s (.int .i64 r.1.Age)], slV (eI .i64) r.2]) := AnsO.ans (args := [.agg [.s (.int .u64 a0.Class.a0), .s (.int .u64 a0.Class.a1), .s (.int .u64 a0.Class.a2), .s (.int .u64 a0.Class.a3), .s (.int .i64 a0.Least)], .agg [.s (.int .i64 a1.Age)], slV (eI .u8) a2, slV (eI .i64) a3]) (tide_Run_ok h) (by kernel_rfl)
def slices_Equal_int_int_l0 (a0 : (List Int)) (a1 : (List Int)) (J6 : Unit → Option (Bool)) : Nat → Int → Option (Bool)
  | 0, _ => none
  | k + 1, x23_1_1 => (if (decide (x23_1_1 < (a0.length : Int))) = true then (at_ a0 x23_1_1).bind fun t41_2 => (at_ a1 x23_1_1).bind fun t41_4 => (if (t41_2 != t41_4) = true then some false else slices_Equal_int_int_l0 a0 a1 J6 k ((IntKind.i64.wrap (x23_1_1 + 1)))) else J6 ())
def slices_Equal_int_int (k : Nat) (a0 : (List Int)) (a1 : (List Int)) : Option (Bool) :=
  (if ((a0.length : Int) != (a1.length : Int)) = true then some false else jn (fun (v6 : Unit) => some true) fun J6 => slices_Equal_int_int_l0 a0 a1 J6 k 0)
theorem slices_Equal_int_int_ok {k : Nat} {a0 : (List Int)} {a1 : (List Int)} {r : Bool} (h : slices_Equal_int_int k a0 a1 = some r) : Ans Try.prog 23 [slV (eI .i64) a0, slV (eI .i64) a1] (.s (.bool r)) := by
  refine W_fn Try.func23 rfl (by kernel_rfl) (by kernel_rfl) ?_
  intro X hro hn
  unfold slices_Equal_int_int at h
  refine WX.seq ?_
  refine WC.reg (n := 26) (by assumption) [] [0, 1] [] ⟨[(0, .p (slV (eI .i64) a0)), (1, .p (slV (eI .i64) a1))], [], ⟨[], false⟩, []⟩ trivial (by kernel_rfl) ?_
  refine WX.seq ?_
  refine WX.seq ?_
  refine WC.reg (n := 26) (by assumption) [] [0, 1, 10] [] ⟨[(0, .p (slV (eI .i64) a0)), (1, .p (slV (eI .i64) a1)), (10, .p (.s (.bool (((a0.length : Int) != (a1.length : Int))))))], [], ⟨[], false⟩, []⟩ trivial (by kernel_rfl) ?_
  rcases if_or h with ⟨c3, h⟩ | ⟨c3, h⟩
  · refine WC.condT c3 (by kernel_rfl) ?_
    refine WX.seq ?_
    refine WC.reg (n := 26) (by assumption) [] [4] [] ⟨[(4, .p (.s (.bool false)))], [], ⟨[], false⟩, []⟩ trivial (by kernel_rfl) ?_
    refine WX.ret ?_
    exact WC.outP (by rw [← Option.some.inj h]; kernel_rfl)
  · refine WC.condF c3 (by kernel_rfl) ?_
    refine WX.skip ?_
    refine WX.seq ?_
    refine WX.seq ?_
    refine WC.reg (n := 26) (by assumption) [] [0, 1, 12, 13] [] ⟨[(0, .p (slV (eI .i64) a0)), (1, .p (slV (eI .i64) a1)), (12, .p (.s (.int .i64 ((a0.length : Int))))), (13, .p (.s (.int .i64 0)))], [], ⟨[], false⟩, []⟩ trivial (by kernel_rfl) ?_
    obtain ⟨J6, eJ6, h⟩ := jn_some h
    try dsimp only at h
    refine WC.join (α := Unit) (fun v6 => ⟨[], [], ⟨[], false⟩, []⟩) (fun v6 => J6 v6 = some r) ?_ (fun hJ6 => ?_)
    · rintro _ h
      rw [eJ6] at h
      try dsimp only at h
      refine WX.seq ?_
      refine WC.reg (n := 26) (by assumption) [] [4] [] ⟨[(4, .p (.s (.bool true)))], [], ⟨[], false⟩, []⟩ trivial (by kernel_rfl) ?_
      refine WX.ret ?_
      exact WC.outP (by rw [← Option.some.inj h]; kernel_rfl)
    · skip
      refine WX.block ?_
      refine WC.loop (V := Int) (slices_Equal_int_int_l0 a0 a1 J6) r (fun v23 => ⟨[(0, .p (slV (eI .i64) a0)), (1, .p (slV (eI .i64) a1)), (12, .p (.s (.int .i64 ((a0.length : Int))))), (13, .p (.s (.int .i64 v23)))], [], ⟨[], false⟩, []⟩) _ 0 h (fun _ => rfl) [0, 1, 12, 13] [] (by kernel_rfl) ?_
      clear h; rintro k x23_1_1 h K23 hnext23 hexit23
      rw [slices_Equal_int_int_l0] at h
      refine WX.seq ?_
      refine WC.reg (n := 26) (by assumption) [] [0, 1, 12, 13, 14] [] ⟨[(0, .p (slV (eI .i64) a0)), (1, .p (slV (eI .i64) a1)), (12, .p (.s (.int .i64 ((a0.length : Int))))), (13, .p (.s (.int .i64 x23_1_1))), (14, .p (.s (.bool ((decide (x23_1_1 < (a0.length : Int)))))))], [], ⟨[], false⟩, []⟩ trivial (by kernel_rfl) ?_
      refine WX.seq ?_
      rcases if_or h with ⟨c39, h⟩ | ⟨c39, h⟩
      · refine WC.condT c39 (by kernel_rfl) ?_
        refine WX.skip ?_
        refine WX.seq ?_
        refine WX.block ?_
        refine WX.seq ?_
        refine WC.reg (n := 26) (by assumption) [] [0, 1, 5, 12, 13] [] ⟨[(0, .p (slV (eI .i64) a0)), (1, .p (slV (eI .i64) a1)), (5, .p (.s (.int .i64 x23_1_1))), (12, .p (.s (.int .i64 ((a0.length : Int))))), (13, .p (.s (.int .i64 x23_1_1)))], [], ⟨[], false⟩, []⟩ trivial (by kernel_rfl) ?_
        refine WX.seq ?_
        obtain ⟨t41_2, h41_1, h⟩ := bind_some h
        obtain ⟨t41_4, h41_3, h⟩ := bind_some h
        refine WC.drw (n := 26) (by assumption) [] [] [(2, .val (.p (.rop ((eI .i64).cells t41_2 ++ encL (eI .i64) (a0.drop (x23_1_1.toNat + 1)))))), (6, .val (.p (.rop ((eI .i64).cells t41_4 ++ encL (eI .i64) (a1.drop (x23_1_1.toNat + 1))))))] [0, 1, 12, 13, 24] [] ⟨[(0, .p (slV (eI .i64) a0)), (1, .p (slV (eI .i64) a1)), (12, .p (.s (.int .i64 ((a0.length : Int))))), (13, .p (.s (.int .i64 x23_1_1))), (24, .p (.s (.bool ((t41_2 != t41_4)))))], [], ⟨[], false⟩, []⟩ (And.intro (Ix (eI .i64) h41_1) (And.intro (Ix (eI .i64) h41_3) (trivial))) (by kernel_rfl) (by kernel_rfl) (by kernel_rfl) (by kernel_rfl) ?_
        rcases if_or h with ⟨c42, h⟩ | ⟨c42, h⟩
        · refine WC.condT c42 (by kernel_rfl) ?_
          refine WX.seq ?_
          refine WC.reg (n := 26) (by assumption) [] [4] [] ⟨[(4, .p (.s (.bool false)))], [], ⟨[], false⟩, []⟩ trivial (by kernel_rfl) ?_
          refine WX.ret ?_
          refine WC.ret_all (hexit23 _ _ (by simp) ?_)
          exact WC.outP (by rw [← Option.some.inj h]; kernel_rfl)
        · refine WC.condF c42 (by kernel_rfl) ?_
          refine WX.skip ?_
          refine WX.popBlk ?_
          refine WC.reg (n := 26) (by assumption) [] [0, 1, 12, 13] [] ⟨[(0, .p (slV (eI .i64) a0)), (1, .p (slV (eI .i64) a1)), (12, .p (.s (.int .i64 ((a0.length : Int))))), (13, .p (.s (.int .i64 ((IntKind.i64.wrap (x23_1_1 + 1))))))], [], ⟨[], false⟩, []⟩ trivial (by kernel_rfl) ?_
          exact WC.next [0, 1, 12, 13] [] (by kernel_rfl) (hnext23 ((IntKind.i64.wrap (x23_1_1 + 1))) h)
      · refine WC.condF c39 (by kernel_rfl) ?_
        refine WX.exit ?_
        refine WX.popCodeExit ?_
        refine WC.exit_nil (hexit23 _ _ (by simp) ?_)
        refine WX.popBlkHit ?_
        exact WC.keep [] [] (by kernel_rfl) (hJ6 () h)
def riddlelaw14_begun (k : Nat)  : Option (Bool) :=
  (tide_New).bind fun t4_2 => (tide_Run k ((api_Tide.mk ((Arr4.mk 0 ((bits .or .u64 0 8589934592)) 0 0)) 2)) t4_2 ([120, 97, 97, 97, 98]) ([1])).bind fun t4_4 => (slices_Equal_int_int k t4_4.2 ([3, 4])).bind fun t5_2 => some t5_2
theorem riddlelaw14_begun_ok {k : Nat}  {r : Bool} (h : riddlelaw14_begun k = some r) : Ans Try.prog 9 [] (.s (.bool r)) := by
  refine W_fn Try.func9 rfl (by kernel_rfl) (by kernel_rfl) ?_
  intro X hro hn
  unfold riddlelaw14_begun at h
  refine WX.seq ?_
  refine WC.reg (n := 23) (by assumption) [] [] [] ⟨[], [], ⟨[], false⟩, []⟩ trivial (by kernel_rfl) ?_
  refine WX.seq ?_
  refine WC.reg (n := 23) (by assumption) [] [1] [1] ⟨[(1, .ptr 1 0)], [(1, .box 26 [.p (.s (.int .u64 0)), .p (.s (.int .u64 0)), .p (.s (.int .u64 0)), .p (.s (.int .u64 0)), .p (.s (.int .i64 2))])], ⟨[], false⟩, []⟩ trivial (by kernel_rfl) ?_
  refine WX.seq ?_
  refine WC.reg (n := 23) (by assumption) [] [1] [1] ⟨[(1, .ptr 1 0)], [(1, .box 26 [.p (.s (.int .u64 0)), .p (.s (.int .u64 ((bits .or .u64 0 8589934592)))), .p (.s (.int .u64 0)), .p (.s (.int .u64 0)), .p (.s (.int .i64 2))])], ⟨[], false⟩, []⟩ trivial (by kernel_rfl) ?_
  refine WX.seq ?_
  obtain ⟨t4_2, h4_1, h⟩ := bind_some h
  obtain ⟨t4_4, h4_3, h⟩ := bind_some h
  refine WC.drw (n := 23) (by assumption) [(10, [8])] [2] [(1, .resP (.agg [.s (.int .i64 t4_2.Age)])), (5, .resP (.tup [.agg [.s (.int .i64 t4_4.1.Age)], slV (eI .i64) t4_4.2]))] [3] [] ⟨[(3, .p (slV (eI .i64) t4_4.2))], [], ⟨[], false⟩, []⟩ (And.intro ((tide_New_ok h4_1)) (And.intro ((tide_Run_okP h4_3)) (And.intro (And.intro (Eq.refl (some (.p (slV (eI .i64) t4_4.2) : AV))) (trivial)) (trivial)))) (by kernel_rfl) (by kernel_rfl) (by kernel_rfl) (by kernel_rfl) ?_
  refine WX.seq ?_
  obtain ⟨t5_2, h5_1, h⟩ := bind_some h
  refine WC.reg (n := 23) (by assumption) [(2, .res (.s (.bool t5_2)))] [0] [] ⟨[(0, .p (.s (.bool t5_2)))], [], ⟨[], false⟩, []⟩ (And.intro (And.intro (slices_Equal_int_int_ok h5_1) (rfl : (.s (.bool t5_2) : PV).flat = true)) (trivial)) (by kernel_rfl) ?_
  refine WX.ret ?_
  exact WC.outP (by rw [← Option.some.inj h]; kernel_rfl)
def riddleref14_Check (a0 : api_Tide) : Option (Int) :=
  (if ((((a0.Class.a0 == 0) && ((a0.Class.a1 == 0) && ((a0.Class.a2 == 0) && ((a0.Class.a3 == 0) && true))))) || ((((decide (a0.Least < 0))) || ((decide (a0.Least > 1000)))))) = true then some 1 else some 0)
theorem riddleref14_Check_ok {a0 : api_Tide} {r : Int} (h : riddleref14_Check a0 = some r) : Ans Try.prog 11 [.agg [.s (.int .u64 a0.Class.a0), .s (.int .u64 a0.Class.a1), .s (.int .u64 a0.Class.a2), .s (.int .u64 a0.Class.a3), .s (.int .i64 a0.Least)]] (.s (.int .i64 r)) := by
  refine W_fn Try.func11 rfl (by kernel_rfl) (by kernel_rfl) ?_
  intro X hro hn
  unfold riddleref14_Check at h
  refine WX.seq ?_
  refine WC.reg (n := 17) (by assumption) [] [1] [1] ⟨[(1, .ptr 1 0)], [(1, .box 26 [.p (.s (.int .u64 a0.Class.a0)), .p (.s (.int .u64 a0.Class.a1)), .p (.s (.int .u64 a0.Class.a2)), .p (.s (.int .u64 a0.Class.a3)), .p (.s (.int .i64 a0.Least))])], ⟨[], false⟩, []⟩ trivial (by kernel_rfl) ?_
  refine WX.seq ?_
  refine WX.seq ?_
  refine WC.via (α := Bool) (fun v2 => ⟨[(16, .p (.s (.bool v2)))], [], ⟨[], false⟩, []⟩) (((((a0.Class.a0 == 0) && ((a0.Class.a1 == 0) && ((a0.Class.a2 == 0) && ((a0.Class.a3 == 0) && true))))) || ((((decide (a0.Least < 0))) || ((decide (a0.Least > 1000))))))) (fun hk => ?_) ?_
  · rcases Bool.eq_false_or_eq_true (((a0.Class.a0 == 0) && ((a0.Class.a1 == 0) && ((a0.Class.a2 == 0) && ((a0.Class.a3 == 0) && true))))) with b2_4 | b2_4
    · exact WC.reg (n := 17) (by assumption) [(4, .val (.p (.s (.bool true))))] [16] [] ⟨[(16, .p (.s (.bool true)))], [], ⟨[], false⟩, []⟩ (And.intro (Bl b2_4) (trivial)) (by kernel_rfl) (hk true (by first | (rw [b2_4]; rfl) | simp [b2_4]))
    · rcases Bool.eq_false_or_eq_true ((decide (a0.Least < 0))) with b2_9 | b2_9
      · exact WC.reg (n := 17) (by assumption) [(4, .val (.p (.s (.bool false)))), (9, .val (.p (.s (.bool true))))] [16] [] ⟨[(16, .p (.s (.bool true)))], [], ⟨[], false⟩, []⟩ (And.intro (Bl b2_4) (And.intro (Bl b2_9) (trivial))) (by kernel_rfl) (hk true (by first | (rw [b2_4, b2_9]; rfl) | simp [b2_4, b2_9]))
      · exact WC.reg (n := 17) (by assumption) [(4, .val (.p (.s (.bool false)))), (9, .val (.p (.s (.bool false))))] [16] [] ⟨[(16, .p (.s (.bool ((decide (a0.Least > 1000))))))], [], ⟨[], false⟩, []⟩ (And.intro (Bl b2_4) (And.intro (Bl b2_9) (trivial))) (by kernel_rfl) (hk ((decide (a0.Least > 1000))) (by first | (rw [b2_4, b2_9]; rfl) | simp [b2_4, b2_9]))
  rcases if_or h with ⟨c3, h⟩ | ⟨c3, h⟩
  · refine WC.condT c3 (by kernel_rfl) ?_
    refine WX.seq ?_
    refine WC.reg (n := 17) (by assumption) [] [2] [] ⟨[(2, .p (.s (.int .i64 1)))], [], ⟨[], false⟩, []⟩ trivial (by kernel_rfl) ?_
    refine WX.ret ?_
    exact WC.outP (by rw [← Option.some.inj h]; kernel_rfl)
  · refine WC.condF c3 (by kernel_rfl) ?_
    refine WX.skip ?_
    refine WX.seq ?_
    refine WC.reg (n := 17) (by assumption) [] [2] [] ⟨[(2, .p (.s (.int .i64 0)))], [], ⟨[], false⟩, []⟩ trivial (by kernel_rfl) ?_
    refine WX.ret ?_
    exact WC.outP (by rw [← Option.some.inj h]; kernel_rfl)
def riddleref14_CheckState (a0 : api_Tide) (a1 : api_TideState) : Option (Int) :=
  (riddleref14_Check a0).bind fun t2_2 => (if (t2_2 != 0) = true then some t2_2 else (if (((decide (a1.Age < (-1)))) || ((decide (a1.Age > a0.Least)))) = true then some 1 else some 0))
theorem riddleref14_CheckState_ok {a0 : api_Tide} {a1 : api_TideState} {r : Int} (h : riddleref14_CheckState a0 a1 = some r) : Ans Try.prog 13 [.agg [.s (.int .u64 a0.Class.a0), .s (.int .u64 a0.Class.a1), .s (.int .u64 a0.Class.a2), .s (.int .u64 a0.Class.a3), .s (.int .i64 a0.Least)], .agg [.s (.int .i64 a1.Age)]] (.s (.int .i64 r)) := by
  refine W_fn Try.func13 rfl (by kernel_rfl) (by kernel_rfl) ?_
  intro X hro hn
  unfold riddleref14_CheckState at h
  refine WX.seq ?_
  refine WC.reg (n := 21) (by assumption) [] [2, 3] [2, 3] ⟨[(2, .ptr 2 0), (3, .ptr 3 0)], [(2, .box 26 [.p (.s (.int .u64 a0.Class.a0)), .p (.s (.int .u64 a0.Class.a1)), .p (.s (.int .u64 a0.Class.a2)), .p (.s (.int .u64 a0.Class.a3)), .p (.s (.int .i64 a0.Least))]), (3, .box 28 [.p (.s (.int .i64 a1.Age))])], ⟨[], false⟩, []⟩ trivial (by kernel_rfl) ?_
  refine WX.seq ?_
  refine WX.seq ?_
  obtain ⟨t2_2, h2_1, h⟩ := bind_some h
  refine WC.reg (n := 21) (by assumption) [(1, .resP (.s (.int .i64 t2_2)))] [2, 3, 5] [2, 3] ⟨[(2, .ptr 2 0), (3, .ptr 3 0), (5, .p (.s (.int .i64 t2_2)))], [(2, .box 26 [.p (.s (.int .u64 a0.Class.a0)), .p (.s (.int .u64 a0.Class.a1)), .p (.s (.int .u64 a0.Class.a2)), .p (.s (.int .u64 a0.Class.a3)), .p (.s (.int .i64 a0.Least))]), (3, .box 28 [.p (.s (.int .i64 a1.Age))])], ⟨[], false⟩, []⟩ (And.intro ((riddleref14_Check_ok h2_1)) (trivial)) (by kernel_rfl) ?_
  refine WX.seq ?_
  refine WC.reg (n := 21) (by assumption) [] [2, 3, 5, 9] [2, 3] ⟨[(2, .ptr 2 0), (3, .ptr 3 0), (5, .p (.s (.int .i64 t2_2))), (9, .p (.s (.bool ((t2_2 != 0)))))], [(2, .box 26 [.p (.s (.int .u64 a0.Class.a0)), .p (.s (.int .u64 a0.Class.a1)), .p (.s (.int .u64 a0.Class.a2)), .p (.s (.int .u64 a0.Class.a3)), .p (.s (.int .i64 a0.Least))]), (3, .box 28 [.p (.s (.int .i64 a1.Age))])], ⟨[], false⟩, []⟩ trivial (by kernel_rfl) ?_
  rcases if_or h with ⟨c4, h⟩ | ⟨c4, h⟩
  · refine WC.condT c4 (by kernel_rfl) ?_
    refine WX.seq ?_
    refine WC.reg (n := 21) (by assumption) [] [4] [] ⟨[(4, .p (.s (.int .i64 t2_2)))], [], ⟨[], false⟩, []⟩ trivial (by kernel_rfl) ?_
    refine WX.ret ?_
    exact WC.outP (by rw [← Option.some.inj h]; kernel_rfl)
  · refine WC.condF c4 (by kernel_rfl) ?_
    refine WX.skip ?_
    refine WX.seq ?_
    refine WX.seq ?_
    refine WC.via (α := Bool) (fun v6 => ⟨[(20, .p (.s (.bool v6)))], [], ⟨[], false⟩, []⟩) ((((decide (a1.Age < (-1)))) || ((decide (a1.Age > a0.Least))))) (fun hk => ?_) ?_
    · rcases Bool.eq_false_or_eq_true ((decide (a1.Age < (-1)))) with b6_3 | b6_3
      · exact WC.reg (n := 21) (by assumption) [(3, .val (.p (.s (.bool true))))] [20] [] ⟨[(20, .p (.s (.bool true)))], [], ⟨[], false⟩, []⟩ (And.intro (Bl b6_3) (trivial)) (by kernel_rfl) (hk true (by first | (rw [b6_3]; rfl) | simp [b6_3]))
      · exact WC.reg (n := 21) (by assumption) [(3, .val (.p (.s (.bool false))))] [20] [] ⟨[(20, .p (.s (.bool ((decide (a1.Age > a0.Least))))))], [], ⟨[], false⟩, []⟩ (And.intro (Bl b6_3) (trivial)) (by kernel_rfl) (hk ((decide (a1.Age > a0.Least))) (by first | (rw [b6_3]; rfl) | simp [b6_3]))
    rcases if_or h with ⟨c7, h⟩ | ⟨c7, h⟩
    · refine WC.condT c7 (by kernel_rfl) ?_
      refine WX.seq ?_
      refine WC.reg (n := 21) (by assumption) [] [4] [] ⟨[(4, .p (.s (.int .i64 1)))], [], ⟨[], false⟩, []⟩ trivial (by kernel_rfl) ?_
      refine WX.ret ?_
      exact WC.outP (by rw [← Option.some.inj h]; kernel_rfl)
    · refine WC.condF c7 (by kernel_rfl) ?_
      refine WX.skip ?_
      refine WX.seq ?_
      refine WC.reg (n := 21) (by assumption) [] [4] [] ⟨[(4, .p (.s (.int .i64 0)))], [], ⟨[], false⟩, []⟩ trivial (by kernel_rfl) ?_
      refine WX.ret ?_
      exact WC.outP (by rw [← Option.some.inj h]; kernel_rfl)
def riddleref02_With (a0 : (Arr4 Int)) (a1 : Int) : Option ((Arr4 Int)) :=
  (if 0 ≤ (IntKind.u8.wrap (a1.tdiv 64)) ∧ (IntKind.u8.wrap (a1.tdiv 64)) < 4 then (if ¬ (a1.tmod 64) < 0 then some ((Arr4.mk ((set4 0 ((IntKind.u8.wrap (a1.tdiv 64))) ((bits .or .u64 ((get4 a0.a0 a0.a1 a0.a2 a0.a3 ((IntKind.u8.wrap (a1.tdiv 64))))) ((IntKind.u64.wrap (1 * 2 ^ (min ((a1.tmod 64)).toNat IntKind.u64.bits)))))) a0.a0)) ((set4 1 ((IntKind.u8.wrap (a1.tdiv 64))) ((bits .or .u64 ((get4 a0.a0 a0.a1 a0.a2 a0.a3 ((IntKind.u8.wrap (a1.tdiv 64))))) ((IntKind.u64.wrap (1 * 2 ^ (min ((a1.tmod 64)).toNat IntKind.u64.bits)))))) a0.a1)) ((set4 2 ((IntKind.u8.wrap (a1.tdiv 64))) ((bits .or .u64 ((get4 a0.a0 a0.a1 a0.a2 a0.a3 ((IntKind.u8.wrap (a1.tdiv 64))))) ((IntKind.u64.wrap (1 * 2 ^ (min ((a1.tmod 64)).toNat IntKind.u64.bits)))))) a0.a2)) ((set4 3 ((IntKind.u8.wrap (a1.tdiv 64))) ((bits .or .u64 ((get4 a0.a0 a0.a1 a0.a2 a0.a3 ((IntKind.u8.wrap (a1.tdiv 64))))) ((IntKind.u64.wrap (1 * 2 ^ (min ((a1.tmod 64)).toNat IntKind.u64.bits)))))) a0.a3)))) else none) else none)
theorem riddleref02_With_ok {a0 : (Arr4 Int)} {a1 : Int} {r : (Arr4 Int)} (h : riddleref02_With a0 a1 = some r) : Ans Try.prog 62 [.agg [.s (.int .u64 a0.a0), .s (.int .u64 a0.a1), .s (.int .u64 a0.a2), .s (.int .u64 a0.a3)], .s (.int .u8 a1)] (.agg [.s (.int .u64 r.a0), .s (.int .u64 r.a1), .s (.int .u64 r.a2), .s (.int .u64 r.a3)]) := by
  refine W_fn Try.func62 rfl (by kernel_rfl) (by kernel_rfl) ?_
  intro X hro hn
  unfold riddleref02_With at h
  refine WX.seq ?_
  refine WC.reg (n := 15) (by assumption) [] [1, 2, 4] [2, 4] ⟨[(1, .p (.s (.int .u8 a1))), (2, .ptr 2 0), (4, .ptr 4 0)], [(2, .box 24 [.p (.s (.int .u64 a0.a0)), .p (.s (.int .u64 a0.a1)), .p (.s (.int .u64 a0.a2)), .p (.s (.int .u64 a0.a3))]), (4, .box 24 [.p (.s (.int .u64 0)), .p (.s (.int .u64 0)), .p (.s (.int .u64 0)), .p (.s (.int .u64 0))])], ⟨[], false⟩, []⟩ trivial (by kernel_rfl) ?_
  refine WX.seq ?_
  obtain ⟨c2_1, h⟩ := if_some h
  obtain ⟨c2_2, h⟩ := if_some h
  refine WC.reg (n := 15) (by assumption) [(2, .val (.ptr 2 (0 + ((IntKind.u8.wrap (a1.tdiv 64))).toNat * 1))), (3, .val (.p (.s (.int .u64 ((get4 a0.a0 a0.a1 a0.a2 a0.a3 ((IntKind.u8.wrap (a1.tdiv 64))))))))), (6, .val (.p (.s (.int .u64 (IntKind.u64.wrap (1 * 2 ^ (min ((a1.tmod 64)).toNat IntKind.u64.bits))))))), (8, .val (.ptr 2 (0 + ((IntKind.u8.wrap (a1.tdiv 64))).toNat * 1))), (9, .sto 2 (.box 24 [.p (.s (.int .u64 ((set4 0 ((IntKind.u8.wrap (a1.tdiv 64))) ((bits .or .u64 ((get4 a0.a0 a0.a1 a0.a2 a0.a3 ((IntKind.u8.wrap (a1.tdiv 64))))) ((IntKind.u64.wrap (1 * 2 ^ (min ((a1.tmod 64)).toNat IntKind.u64.bits)))))) a0.a0)))), .p (.s (.int .u64 ((set4 1 ((IntKind.u8.wrap (a1.tdiv 64))) ((bits .or .u64 ((get4 a0.a0 a0.a1 a0.a2 a0.a3 ((IntKind.u8.wrap (a1.tdiv 64))))) ((IntKind.u64.wrap (1 * 2 ^ (min ((a1.tmod 64)).toNat IntKind.u64.bits)))))) a0.a1)))), .p (.s (.int .u64 ((set4 2 ((IntKind.u8.wrap (a1.tdiv 64))) ((bits .or .u64 ((get4 a0.a0 a0.a1 a0.a2 a0.a3 ((IntKind.u8.wrap (a1.tdiv 64))))) ((IntKind.u64.wrap (1 * 2 ^ (min ((a1.tmod 64)).toNat IntKind.u64.bits)))))) a0.a2)))), .p (.s (.int .u64 ((set4 3 ((IntKind.u8.wrap (a1.tdiv 64))) ((bits .or .u64 ((get4 a0.a0 a0.a1 a0.a2 a0.a3 ((IntKind.u8.wrap (a1.tdiv 64))))) ((IntKind.u64.wrap (1 * 2 ^ (min ((a1.tmod 64)).toNat IntKind.u64.bits)))))) a0.a3))))]))] [2, 4] [2, 4] ⟨[(2, .ptr 2 0), (4, .ptr 4 0)], [(2, .box 24 [.p (.s (.int .u64 ((set4 0 ((IntKind.u8.wrap (a1.tdiv 64))) ((bits .or .u64 ((get4 a0.a0 a0.a1 a0.a2 a0.a3 ((IntKind.u8.wrap (a1.tdiv 64))))) ((IntKind.u64.wrap (1 * 2 ^ (min ((a1.tmod 64)).toNat IntKind.u64.bits)))))) a0.a0)))), .p (.s (.int .u64 ((set4 1 ((IntKind.u8.wrap (a1.tdiv 64))) ((bits .or .u64 ((get4 a0.a0 a0.a1 a0.a2 a0.a3 ((IntKind.u8.wrap (a1.tdiv 64))))) ((IntKind.u64.wrap (1 * 2 ^ (min ((a1.tmod 64)).toNat IntKind.u64.bits)))))) a0.a1)))), .p (.s (.int .u64 ((set4 2 ((IntKind.u8.wrap (a1.tdiv 64))) ((bits .or .u64 ((get4 a0.a0 a0.a1 a0.a2 a0.a3 ((IntKind.u8.wrap (a1.tdiv 64))))) ((IntKind.u64.wrap (1 * 2 ^ (min ((a1.tmod 64)).toNat IntKind.u64.bits)))))) a0.a2)))), .p (.s (.int .u64 ((set4 3 ((IntKind.u8.wrap (a1.tdiv 64))) ((bits .or .u64 ((get4 a0.a0 a0.a1 a0.a2 a0.a3 ((IntKind.u8.wrap (a1.tdiv 64))))) ((IntKind.u64.wrap (1 * 2 ^ (min ((a1.tmod 64)).toNat IntKind.u64.bits)))))) a0.a3))))]), (4, .box 24 [.p (.s (.int .u64 0)), .p (.s (.int .u64 0)), .p (.s (.int .u64 0)), .p (.s (.int .u64 0))])], ⟨[], false⟩, []⟩ (And.intro (IxA4 2 0 ((IntKind.u8.wrap (a1.tdiv 64))) c2_1) (And.intro (LdA4 Try.prog 22 [] .u64 a0.a0 a0.a1 a0.a2 a0.a3 [] ((IntKind.u8.wrap (a1.tdiv 64))) c2_1 rfl rfl) (And.intro (Shl .u64 1 ((a1.tmod 64)) c2_2) (And.intro (IxA4 2 0 ((IntKind.u8.wrap (a1.tdiv 64))) c2_1) (And.intro (StA4 2 24 [] .u64 a0.a0 a0.a1 a0.a2 a0.a3 [] ((IntKind.u8.wrap (a1.tdiv 64))) ((bits .or .u64 ((get4 a0.a0 a0.a1 a0.a2 a0.a3 ((IntKind.u8.wrap (a1.tdiv 64))))) ((IntKind.u64.wrap (1 * 2 ^ (min ((a1.tmod 64)).toNat IntKind.u64.bits)))))) c2_1) (trivial)))))) (by kernel_rfl) ?_
  refine WX.seq ?_
  refine WC.reg (n := 15) (by assumption) [] [4] [4] ⟨[(4, .ptr 4 0)], [(4, .box 24 [.p (.s (.int .u64 ((set4 0 ((IntKind.u8.wrap (a1.tdiv 64))) ((bits .or .u64 ((get4 a0.a0 a0.a1 a0.a2 a0.a3 ((IntKind.u8.wrap (a1.tdiv 64))))) ((IntKind.u64.wrap (1 * 2 ^ (min ((a1.tmod 64)).toNat IntKind.u64.bits)))))) a0.a0)))), .p (.s (.int .u64 ((set4 1 ((IntKind.u8.wrap (a1.tdiv 64))) ((bits .or .u64 ((get4 a0.a0 a0.a1 a0.a2 a0.a3 ((IntKind.u8.wrap (a1.tdiv 64))))) ((IntKind.u64.wrap (1 * 2 ^ (min ((a1.tmod 64)).toNat IntKind.u64.bits)))))) a0.a1)))), .p (.s (.int .u64 ((set4 2 ((IntKind.u8.wrap (a1.tdiv 64))) ((bits .or .u64 ((get4 a0.a0 a0.a1 a0.a2 a0.a3 ((IntKind.u8.wrap (a1.tdiv 64))))) ((IntKind.u64.wrap (1 * 2 ^ (min ((a1.tmod 64)).toNat IntKind.u64.bits)))))) a0.a2)))), .p (.s (.int .u64 ((set4 3 ((IntKind.u8.wrap (a1.tdiv 64))) ((bits .or .u64 ((get4 a0.a0 a0.a1 a0.a2 a0.a3 ((IntKind.u8.wrap (a1.tdiv 64))))) ((IntKind.u64.wrap (1 * 2 ^ (min ((a1.tmod 64)).toNat IntKind.u64.bits)))))) a0.a3))))])], ⟨[], false⟩, []⟩ trivial (by kernel_rfl) ?_
  refine WX.ret ?_
  exact WC.outP (by rw [← Option.some.inj h]; kernel_rfl)
def riddleref02_Range_l0 (a1 : Int) (J4 : (Int × Int × Int × Int) → Option ((Arr4 Int))) : Nat → (Int × Int × Int × Int × Int) → Option ((Arr4 Int))
  | 0, _ => none
  | k + 1, (x15_1_1, x15_1_2, x15_1_3, x15_1_4, x15_1_5) => (if (decide (x15_1_1 ≤ (IntKind.i64.wrap a1))) = true then (riddleref02_With ((Arr4.mk x15_1_2 x15_1_3 x15_1_4 x15_1_5)) ((IntKind.u8.wrap x15_1_1))).bind fun t26_2 => riddleref02_Range_l0 a1 J4 k ((IntKind.i64.wrap (x15_1_1 + 1)), t26_2.a0, t26_2.a1, t26_2.a2, t26_2.a3) else J4 (x15_1_2, x15_1_3, x15_1_4, x15_1_5))
def riddleref02_Range (k : Nat) (a0 : Int) (a1 : Int) : Option ((Arr4 Int)) :=
  jn (fun (v4 : Int × Int × Int × Int) => some ((Arr4.mk v4.1 v4.2.1 v4.2.2.1 v4.2.2.2))) fun J4 => riddleref02_Range_l0 a1 J4 k ((IntKind.i64.wrap a0), 0, 0, 0, 0)
theorem riddleref02_Range_ok {k : Nat} {a0 : Int} {a1 : Int} {r : (Arr4 Int)} (h : riddleref02_Range k a0 a1 = some r) : Ans Try.prog 59 [.s (.int .u8 a0), .s (.int .u8 a1)] (.agg [.s (.int .u64 r.a0), .s (.int .u64 r.a1), .s (.int .u64 r.a2), .s (.int .u64 r.a3)]) := by
  refine W_fn Try.func59 rfl (by kernel_rfl) (by kernel_rfl) ?_
  intro X hro hn
  unfold riddleref02_Range at h
  refine WX.seq ?_
  refine WC.reg (n := 20) (by assumption) [] [0, 1, 4] [4] ⟨[(0, .p (.s (.int .u8 a0))), (1, .p (.s (.int .u8 a1))), (4, .ptr 4 0)], [(4, .box 24 [.p (.s (.int .u64 0)), .p (.s (.int .u64 0)), .p (.s (.int .u64 0)), .p (.s (.int .u64 0))])], ⟨[], false⟩, []⟩ trivial (by kernel_rfl) ?_
  refine WX.seq ?_
  refine WC.reg (n := 20) (by assumption) [] [0, 1, 4, 5] [4, 5] ⟨[(0, .p (.s (.int .u8 a0))), (1, .p (.s (.int .u8 a1))), (4, .ptr 4 0), (5, .ptr 5 0)], [(4, .box 24 [.p (.s (.int .u64 0)), .p (.s (.int .u64 0)), .p (.s (.int .u64 0)), .p (.s (.int .u64 0))]), (5, .box 24 [.p (.s (.int .u64 0)), .p (.s (.int .u64 0)), .p (.s (.int .u64 0)), .p (.s (.int .u64 0))])], ⟨[], false⟩, []⟩ trivial (by kernel_rfl) ?_
  refine WX.seq ?_
  refine WX.seq ?_
  refine WC.reg (n := 20) (by assumption) [] [1, 4, 5, 6] [4, 5] ⟨[(1, .p (.s (.int .u8 a1))), (4, .ptr 4 0), (5, .ptr 5 0), (6, .p (.s (.int .i64 ((IntKind.i64.wrap a0)))))], [(4, .box 24 [.p (.s (.int .u64 0)), .p (.s (.int .u64 0)), .p (.s (.int .u64 0)), .p (.s (.int .u64 0))]), (5, .box 24 [.p (.s (.int .u64 0)), .p (.s (.int .u64 0)), .p (.s (.int .u64 0)), .p (.s (.int .u64 0))])], ⟨[], false⟩, []⟩ trivial (by kernel_rfl) ?_
  obtain ⟨J4, eJ4, h⟩ := jn_some h
  try dsimp only at h
  refine WC.join (α := Int × Int × Int × Int) (fun v4 => ⟨[(4, .ptr 4 0), (5, .ptr 5 0)], [(4, .box 24 [.p (.s (.int .u64 0)), .p (.s (.int .u64 0)), .p (.s (.int .u64 0)), .p (.s (.int .u64 0))]), (5, .box 24 [.p (.s (.int .u64 v4.1)), .p (.s (.int .u64 v4.2.1)), .p (.s (.int .u64 v4.2.2.1)), .p (.s (.int .u64 v4.2.2.2))])], ⟨[], false⟩, []⟩) (fun v4 => J4 v4 = some r) ?_ (fun hJ4 => ?_)
  · rintro ⟨y4_1, y4_2, y4_3, y4_4⟩ h
    rw [eJ4] at h
    try dsimp only at h
    refine WX.seq ?_
    refine WC.reg (n := 20) (by assumption) [] [4] [4] ⟨[(4, .ptr 4 0)], [(4, .box 24 [.p (.s (.int .u64 y4_1)), .p (.s (.int .u64 y4_2)), .p (.s (.int .u64 y4_3)), .p (.s (.int .u64 y4_4))])], ⟨[], false⟩, []⟩ trivial (by kernel_rfl) ?_
    refine WX.ret ?_
    exact WC.outP (by rw [← Option.some.inj h]; kernel_rfl)
  · replace hJ4 := fun y4_1 y4_2 y4_3 y4_4 => hJ4 (y4_1, y4_2, y4_3, y4_4)
    refine WX.block ?_
    refine WC.loop (V := Int × Int × Int × Int × Int) (riddleref02_Range_l0 a1 J4) r (fun v15 => ⟨[(1, .p (.s (.int .u8 a1))), (4, .ptr 4 0), (5, .ptr 5 0), (6, .p (.s (.int .i64 v15.1)))], [(4, .box 24 [.p (.s (.int .u64 0)), .p (.s (.int .u64 0)), .p (.s (.int .u64 0)), .p (.s (.int .u64 0))]), (5, .box 24 [.p (.s (.int .u64 v15.2.1)), .p (.s (.int .u64 v15.2.2.1)), .p (.s (.int .u64 v15.2.2.2.1)), .p (.s (.int .u64 v15.2.2.2.2))])], ⟨[], false⟩, []⟩) _ ((IntKind.i64.wrap a0), 0, 0, 0, 0) h (fun _ => rfl) [1, 4, 5, 6] [4, 5] (by kernel_rfl) ?_
    clear h; rintro k ⟨x15_1_1, x15_1_2, x15_1_3, x15_1_4, x15_1_5⟩ h K15 hnext15 hexit15
    rw [riddleref02_Range_l0] at h
    refine WX.seq ?_
    refine WX.seq ?_
    refine WC.reg (n := 20) (by assumption) [] [1, 4, 5, 6, 12] [4, 5] ⟨[(1, .p (.s (.int .u8 a1))), (4, .ptr 4 0), (5, .ptr 5 0), (6, .p (.s (.int .i64 x15_1_1))), (12, .p (.s (.bool ((decide (x15_1_1 ≤ (IntKind.i64.wrap a1)))))))], [(4, .box 24 [.p (.s (.int .u64 0)), .p (.s (.int .u64 0)), .p (.s (.int .u64 0)), .p (.s (.int .u64 0))]), (5, .box 24 [.p (.s (.int .u64 x15_1_2)), .p (.s (.int .u64 x15_1_3)), .p (.s (.int .u64 x15_1_4)), .p (.s (.int .u64 x15_1_5))])], ⟨[], false⟩, []⟩ trivial (by kernel_rfl) ?_
    rcases if_or h with ⟨c25, h⟩ | ⟨c25, h⟩
    · refine WC.condT c25 (by kernel_rfl) ?_
      refine WX.skip ?_
      refine WX.seq ?_
      refine WX.block ?_
      obtain ⟨t26_2, h26_1, h⟩ := bind_some h
      refine WC.reg (n := 20) (by assumption) [(3, .resP (.agg [.s (.int .u64 t26_2.a0), .s (.int .u64 t26_2.a1), .s (.int .u64 t26_2.a2), .s (.int .u64 t26_2.a3)]))] [1, 4, 5, 6] [4, 5] ⟨[(1, .p (.s (.int .u8 a1))), (4, .ptr 4 0), (5, .ptr 5 0), (6, .p (.s (.int .i64 x15_1_1)))], [(4, .box 24 [.p (.s (.int .u64 0)), .p (.s (.int .u64 0)), .p (.s (.int .u64 0)), .p (.s (.int .u64 0))]), (5, .box 24 [.p (.s (.int .u64 t26_2.a0)), .p (.s (.int .u64 t26_2.a1)), .p (.s (.int .u64 t26_2.a2)), .p (.s (.int .u64 t26_2.a3))])], ⟨[], false⟩, []⟩ (And.intro ((riddleref02_With_ok h26_1)) (trivial)) (by kernel_rfl) ?_
      refine WX.popBlk ?_
      refine WC.reg (n := 20) (by assumption) [] [1, 4, 5, 6] [4, 5] ⟨[(1, .p (.s (.int .u8 a1))), (4, .ptr 4 0), (5, .ptr 5 0), (6, .p (.s (.int .i64 ((IntKind.i64.wrap (x15_1_1 + 1))))))], [(4, .box 24 [.p (.s (.int .u64 0)), .p (.s (.int .u64 0)), .p (.s (.int .u64 0)), .p (.s (.int .u64 0))]), (5, .box 24 [.p (.s (.int .u64 t26_2.a0)), .p (.s (.int .u64 t26_2.a1)), .p (.s (.int .u64 t26_2.a2)), .p (.s (.int .u64 t26_2.a3))])], ⟨[], false⟩, []⟩ trivial (by kernel_rfl) ?_
      exact WC.next [1, 4, 5, 6] [4, 5] (by kernel_rfl) (hnext15 ((IntKind.i64.wrap (x15_1_1 + 1)), t26_2.a0, t26_2.a1, t26_2.a2, t26_2.a3) h)
    · refine WC.condF c25 (by kernel_rfl) ?_
      refine WX.exit ?_
      refine WX.popCodeExit ?_
      refine WC.exit_nil (hexit15 _ _ (by simp) ?_)
      refine WX.popBlkHit ?_
      exact WC.keep [4, 5] [4, 5] (by kernel_rfl) (hJ4 x15_1_2 x15_1_3 x15_1_4 x15_1_5 h)
def riddleref02_Full (k : Nat)  : Option ((Arr4 Int)) :=
  (riddleref02_Range k 0 255).bind fun t2_2 => some t2_2
theorem riddleref02_Full_ok {k : Nat}  {r : (Arr4 Int)} (h : riddleref02_Full k = some r) : Ans Try.prog 50 [] (.agg [.s (.int .u64 r.a0), .s (.int .u64 r.a1), .s (.int .u64 r.a2), .s (.int .u64 r.a3)]) := by
  refine W_fn Try.func50 rfl (by kernel_rfl) (by kernel_rfl) ?_
  intro X hro hn
  unfold riddleref02_Full at h
  refine WX.seq ?_
  refine WC.reg (n := 2) (by assumption) [] [0] [0] ⟨[(0, .ptr 0 0)], [(0, .box 24 [.p (.s (.int .u64 0)), .p (.s (.int .u64 0)), .p (.s (.int .u64 0)), .p (.s (.int .u64 0))])], ⟨[], false⟩, []⟩ trivial (by kernel_rfl) ?_
  refine WX.seq ?_
  obtain ⟨t2_2, h2_1, h⟩ := bind_some h
  refine WC.reg (n := 2) (by assumption) [(0, .resP (.agg [.s (.int .u64 t2_2.a0), .s (.int .u64 t2_2.a1), .s (.int .u64 t2_2.a2), .s (.int .u64 t2_2.a3)]))] [0] [0] ⟨[(0, .ptr 0 0)], [(0, .box 24 [.p (.s (.int .u64 t2_2.a0)), .p (.s (.int .u64 t2_2.a1)), .p (.s (.int .u64 t2_2.a2)), .p (.s (.int .u64 t2_2.a3))])], ⟨[], false⟩, []⟩ (And.intro ((riddleref02_Range_ok h2_1)) (trivial)) (by kernel_rfl) ?_
  refine WX.ret ?_
  exact WC.outP (by rw [← Option.some.inj h]; kernel_rfl)
def riddleref14_may (k : Nat) (a0 : api_Tide) (a1 : api_TideState) : Option (api_Tide × api_TideState) :=
  (riddleref14_Check a0).bind fun t2_2 => jn (fun (v3 : Int × Int × Int × Int × Int) => (riddleref14_CheckState ((api_Tide.mk ((Arr4.mk v3.1 v3.2.1 v3.2.2.1 v3.2.2.2.1)) v3.2.2.2.2)) a1).bind fun t6_2 => (if (t6_2 != 0) = true then some ((api_Tide.mk ((Arr4.mk v3.1 v3.2.1 v3.2.2.1 v3.2.2.2.1)) v3.2.2.2.2), (api_TideState.mk ((-1)))) else some ((api_Tide.mk ((Arr4.mk v3.1 v3.2.1 v3.2.2.1 v3.2.2.2.1)) v3.2.2.2.2), a1))) fun J3 => (if (t2_2 != 0) = true then (riddleref02_Full k).bind fun t12_2 => J3 (t12_2.a0, t12_2.a1, t12_2.a2, t12_2.a3, 0) else J3 (a0.Class.a0, a0.Class.a1, a0.Class.a2, a0.Class.a3, a0.Least))
theorem riddleref14_may_ok {k : Nat} {a0 : api_Tide} {a1 : api_TideState} {r : api_Tide × api_TideState} (h : riddleref14_may k a0 a1 = some r) : Ans Try.prog 35 [.agg [.s (.int .u64 a0.Class.a0), .s (.int .u64 a0.Class.a1), .s (.int .u64 a0.Class.a2), .s (.int .u64 a0.Class.a3), .s (.int .i64 a0.Least)], .agg [.s (.int .i64 a1.Age)]] (.tup [.agg [.s (.int .u64 r.1.Class.a0), .s (.int .u64 r.1.Class.a1), .s (.int .u64 r.1.Class.a2), .s (.int .u64 r.1.Class.a3), .s (.int .i64 r.1.Least)], .agg [.s (.int .i64 r.2.Age)]]) := by
  refine W_fn Try.func35 rfl (by kernel_rfl) (by kernel_rfl) ?_
  intro X hro hn
  unfold riddleref14_may at h
  refine WX.seq ?_
  refine WC.reg (n := 18) (by assumption) [] [2, 3, 4, 5] [2, 3, 4, 5] ⟨[(2, .ptr 2 0), (3, .ptr 3 0), (4, .ptr 4 0), (5, .ptr 5 0)], [(2, .box 26 [.p (.s (.int .u64 a0.Class.a0)), .p (.s (.int .u64 a0.Class.a1)), .p (.s (.int .u64 a0.Class.a2)), .p (.s (.int .u64 a0.Class.a3)), .p (.s (.int .i64 a0.Least))]), (3, .box 28 [.p (.s (.int .i64 a1.Age))]), (4, .box 26 [.p (.s (.int .u64 0)), .p (.s (.int .u64 0)), .p (.s (.int .u64 0)), .p (.s (.int .u64 0)), .p (.s (.int .i64 0))]), (5, .box 28 [.p (.s (.int .i64 0))])], ⟨[], false⟩, []⟩ trivial (by kernel_rfl) ?_
  refine WX.seq ?_
  refine WX.seq ?_
  obtain ⟨t2_2, h2_1, h⟩ := bind_some h
  refine WC.reg (n := 18) (by assumption) [(1, .resP (.s (.int .i64 t2_2)))] [2, 3, 4, 5, 8] [2, 3, 4, 5] ⟨[(2, .ptr 2 0), (3, .ptr 3 0), (4, .ptr 4 0), (5, .ptr 5 0), (8, .p (.s (.bool ((t2_2 != 0)))))], [(2, .box 26 [.p (.s (.int .u64 a0.Class.a0)), .p (.s (.int .u64 a0.Class.a1)), .p (.s (.int .u64 a0.Class.a2)), .p (.s (.int .u64 a0.Class.a3)), .p (.s (.int .i64 a0.Least))]), (3, .box 28 [.p (.s (.int .i64 a1.Age))]), (4, .box 26 [.p (.s (.int .u64 0)), .p (.s (.int .u64 0)), .p (.s (.int .u64 0)), .p (.s (.int .u64 0)), .p (.s (.int .i64 0))]), (5, .box 28 [.p (.s (.int .i64 0))])], ⟨[], false⟩, []⟩ (And.intro ((riddleref14_Check_ok h2_1)) (trivial)) (by kernel_rfl) ?_
  obtain ⟨J3, eJ3, h⟩ := jn_some h
  try dsimp only at h
  refine WC.join (α := Int × Int × Int × Int × Int) (fun v3 => ⟨[(2, .ptr 2 0), (3, .ptr 3 0), (4, .ptr 4 0), (5, .ptr 5 0)], [(2, .box 26 [.p (.s (.int .u64 v3.1)), .p (.s (.int .u64 v3.2.1)), .p (.s (.int .u64 v3.2.2.1)), .p (.s (.int .u64 v3.2.2.2.1)), .p (.s (.int .i64 v3.2.2.2.2))]), (3, .box 28 [.p (.s (.int .i64 a1.Age))]), (4, .box 26 [.p (.s (.int .u64 0)), .p (.s (.int .u64 0)), .p (.s (.int .u64 0)), .p (.s (.int .u64 0)), .p (.s (.int .i64 0))]), (5, .box 28 [.p (.s (.int .i64 0))])], ⟨[], false⟩, []⟩) (fun v3 => J3 v3 = some r) ?_ (fun hJ3 => ?_)
  · rintro ⟨y3_1, y3_2, y3_3, y3_4, y3_5⟩ h
    rw [eJ3] at h
    try dsimp only at h
    refine WX.seq ?_
    refine WX.seq ?_
    obtain ⟨t6_2, h6_1, h⟩ := bind_some h
    refine WC.reg (n := 18) (by assumption) [(2, .resP (.s (.int .i64 t6_2)))] [2, 3, 4, 5, 14] [2, 3, 4, 5] ⟨[(2, .ptr 2 0), (3, .ptr 3 0), (4, .ptr 4 0), (5, .ptr 5 0), (14, .p (.s (.bool ((t6_2 != 0)))))], [(2, .box 26 [.p (.s (.int .u64 y3_1)), .p (.s (.int .u64 y3_2)), .p (.s (.int .u64 y3_3)), .p (.s (.int .u64 y3_4)), .p (.s (.int .i64 y3_5))]), (3, .box 28 [.p (.s (.int .i64 a1.Age))]), (4, .box 26 [.p (.s (.int .u64 0)), .p (.s (.int .u64 0)), .p (.s (.int .u64 0)), .p (.s (.int .u64 0)), .p (.s (.int .i64 0))]), (5, .box 28 [.p (.s (.int .i64 0))])], ⟨[], false⟩, []⟩ (And.intro ((riddleref14_CheckState_ok h6_1)) (trivial)) (by kernel_rfl) ?_
    rcases if_or h with ⟨c7, h⟩ | ⟨c7, h⟩
    · refine WC.condT c7 (by kernel_rfl) ?_
      refine WC.reg (n := 18) (by assumption) [] [2, 3, 4, 5] [2, 3, 4, 5] ⟨[(2, .ptr 2 0), (3, .ptr 3 0), (4, .ptr 4 0), (5, .ptr 5 0)], [(2, .box 26 [.p (.s (.int .u64 y3_1)), .p (.s (.int .u64 y3_2)), .p (.s (.int .u64 y3_3)), .p (.s (.int .u64 y3_4)), .p (.s (.int .i64 y3_5))]), (3, .box 28 [.p (.s (.int .i64 ((-1))))]), (4, .box 26 [.p (.s (.int .u64 0)), .p (.s (.int .u64 0)), .p (.s (.int .u64 0)), .p (.s (.int .u64 0)), .p (.s (.int .i64 0))]), (5, .box 28 [.p (.s (.int .i64 0))])], ⟨[], false⟩, []⟩ trivial (by kernel_rfl) ?_
      refine WX.seq ?_
      refine WC.drw (n := 18) (by assumption) [(2, [1]), (3, [])] [] [] [4, 5] [4, 5] ⟨[(4, .ptr 4 0), (5, .ptr 5 0)], [(4, .box 26 [.p (.s (.int .u64 y3_1)), .p (.s (.int .u64 y3_2)), .p (.s (.int .u64 y3_3)), .p (.s (.int .u64 y3_4)), .p (.s (.int .i64 y3_5))]), (5, .box 28 [.p (.s (.int .i64 ((-1))))])], ⟨[], false⟩, []⟩ (And.intro (And.intro (Eq.refl (some (.agg [.p (.s (.int .i64 ((-1))))] : AV))) (trivial)) (trivial)) (by kernel_rfl) (by kernel_rfl) (by kernel_rfl) (by kernel_rfl) ?_
      refine WX.ret ?_
      exact WC.outP (by rw [← Option.some.inj h]; kernel_rfl)
    · refine WC.condF c7 (by kernel_rfl) ?_
      refine WX.skip ?_
      refine WX.seq ?_
      refine WC.drw (n := 18) (by assumption) [(2, [1]), (3, [])] [] [] [4, 5] [4, 5] ⟨[(4, .ptr 4 0), (5, .ptr 5 0)], [(4, .box 26 [.p (.s (.int .u64 y3_1)), .p (.s (.int .u64 y3_2)), .p (.s (.int .u64 y3_3)), .p (.s (.int .u64 y3_4)), .p (.s (.int .i64 y3_5))]), (5, .box 28 [.p (.s (.int .i64 a1.Age))])], ⟨[], false⟩, []⟩ (And.intro (And.intro (Eq.refl (some (.agg [.p (.s (.int .i64 a1.Age))] : AV))) (trivial)) (trivial)) (by kernel_rfl) (by kernel_rfl) (by kernel_rfl) (by kernel_rfl) ?_
      refine WX.ret ?_
      exact WC.outP (by rw [← Option.some.inj h]; kernel_rfl)
  · replace hJ3 := fun y3_1 y3_2 y3_3 y3_4 y3_5 => hJ3 (y3_1, y3_2, y3_3, y3_4, y3_5)
    rcases if_or h with ⟨c11, h⟩ | ⟨c11, h⟩
    · refine WC.condT c11 (by kernel_rfl) ?_
      obtain ⟨t12_2, h12_1, h⟩ := bind_some h
      refine WC.reg (n := 18) (by assumption) [(0, .resP (.agg [.s (.int .u64 t12_2.a0), .s (.int .u64 t12_2.a1), .s (.int .u64 t12_2.a2), .s (.int .u64 t12_2.a3)]))] [2, 3, 4, 5] [2, 3, 4, 5] ⟨[(2, .ptr 2 0), (3, .ptr 3 0), (4, .ptr 4 0), (5, .ptr 5 0)], [(2, .box 26 [.p (.s (.int .u64 t12_2.a0)), .p (.s (.int .u64 t12_2.a1)), .p (.s (.int .u64 t12_2.a2)), .p (.s (.int .u64 t12_2.a3)), .p (.s (.int .i64 0))]), (3, .box 28 [.p (.s (.int .i64 a1.Age))]), (4, .box 26 [.p (.s (.int .u64 0)), .p (.s (.int .u64 0)), .p (.s (.int .u64 0)), .p (.s (.int .u64 0)), .p (.s (.int .i64 0))]), (5, .box 28 [.p (.s (.int .i64 0))])], ⟨[], false⟩, []⟩ (And.intro ((riddleref02_Full_ok h12_1)) (trivial)) (by kernel_rfl) ?_
      exact WC.keep [2, 3, 4, 5] [2, 3, 4, 5] (by kernel_rfl) (hJ3 t12_2.a0 t12_2.a1 t12_2.a2 t12_2.a3 0 h)
    · refine WC.condF c11 (by kernel_rfl) ?_
      refine WX.skip ?_
      exact WC.keep [2, 3, 4, 5] [2, 3, 4, 5] (by kernel_rfl) (hJ3 a0.Class.a0 a0.Class.a1 a0.Class.a2 a0.Class.a3 a0.Least h)
def riddleref14_Trigger (k : Nat) (a0 : api_Tide) (a1 : api_TideState) : Option (api_TideState) :=
  (riddleref14_may k a0 a1).bind fun t2_2 => some ((api_TideState.mk ((maxI t2_2.2.Age 0))))
theorem riddleref14_Trigger_ok {k : Nat} {a0 : api_Tide} {a1 : api_TideState} {r : api_TideState} (h : riddleref14_Trigger k a0 a1 = some r) : Ans Try.prog 16 [.agg [.s (.int .u64 a0.Class.a0), .s (.int .u64 a0.Class.a1), .s (.int .u64 a0.Class.a2), .s (.int .u64 a0.Class.a3), .s (.int .i64 a0.Least)], .agg [.s (.int .i64 a1.Age)]] (.agg [.s (.int .i64 r.Age)]) := by
  refine W_fn Try.func16 rfl (by kernel_rfl) (by kernel_rfl) ?_
  intro X hro hn
  unfold riddleref14_Trigger at h
  refine WX.seq ?_
  refine WC.reg (n := 16) (by assumption) [] [2, 3, 4] [2, 3, 4] ⟨[(2, .ptr 2 0), (3, .ptr 3 0), (4, .ptr 4 0)], [(2, .box 26 [.p (.s (.int .u64 a0.Class.a0)), .p (.s (.int .u64 a0.Class.a1)), .p (.s (.int .u64 a0.Class.a2)), .p (.s (.int .u64 a0.Class.a3)), .p (.s (.int .i64 a0.Least))]), (3, .box 28 [.p (.s (.int .i64 a1.Age))]), (4, .box 28 [.p (.s (.int .i64 0))])], ⟨[], false⟩, []⟩ trivial (by kernel_rfl) ?_
  refine WX.seq ?_
  obtain ⟨t2_2, h2_1, h⟩ := bind_some h
  refine WC.reg (n := 16) (by assumption) [(2, .resP (.tup [.agg [.s (.int .u64 t2_2.1.Class.a0), .s (.int .u64 t2_2.1.Class.a1), .s (.int .u64 t2_2.1.Class.a2), .s (.int .u64 t2_2.1.Class.a3), .s (.int .i64 t2_2.1.Least)], .agg [.s (.int .i64 t2_2.2.Age)]]))] [3, 4] [3, 4] ⟨[(3, .ptr 3 0), (4, .ptr 4 0)], [(3, .box 28 [.p (.s (.int .i64 t2_2.2.Age))]), (4, .box 28 [.p (.s (.int .i64 0))])], ⟨[], false⟩, []⟩ (And.intro ((riddleref14_may_ok h2_1)) (trivial)) (by kernel_rfl) ?_
  refine WX.seq ?_
  refine WC.reg (n := 16) (by assumption) [] [3, 4] [3, 4] ⟨[(3, .ptr 3 0), (4, .ptr 4 0)], [(3, .box 28 [.p (.s (.int .i64 ((maxI t2_2.2.Age 0))))]), (4, .box 28 [.p (.s (.int .i64 0))])], ⟨[], false⟩, []⟩ trivial (by kernel_rfl) ?_
  refine WX.seq ?_
  refine WC.reg (n := 16) (by assumption) [] [4] [4] ⟨[(4, .ptr 4 0)], [(4, .box 28 [.p (.s (.int .i64 ((maxI t2_2.2.Age 0))))])], ⟨[], false⟩, []⟩ trivial (by kernel_rfl) ?_
  refine WX.ret ?_
  exact WC.outP (by rw [← Option.some.inj h]; kernel_rfl)
def riddleref02_Has (a0 : (Arr4 Int)) (a1 : Int) : Option (Bool) :=
  (if 0 ≤ (IntKind.u8.wrap (a1.tdiv 64)) ∧ (IntKind.u8.wrap (a1.tdiv 64)) < 4 then (if ¬ (a1.tmod 64) < 0 then some (((((((get4 a0.a0 a0.a1 a0.a2 a0.a3 ((IntKind.u8.wrap (a1.tdiv 64))))).fdiv (2 ^ (min ((a1.tmod 64)).toNat IntKind.u64.bits)))).tmod 2) == 1)) else none) else none)
theorem riddleref02_Has_ok {a0 : (Arr4 Int)} {a1 : Int} {r : Bool} (h : riddleref02_Has a0 a1 = some r) : Ans Try.prog 38 [.agg [.s (.int .u64 a0.a0), .s (.int .u64 a0.a1), .s (.int .u64 a0.a2), .s (.int .u64 a0.a3)], .s (.int .u8 a1)] (.s (.bool r)) := by
  refine W_fn Try.func38 rfl (by kernel_rfl) (by kernel_rfl) ?_
  intro X hro hn
  unfold riddleref02_Has at h
  refine WX.seq ?_
  refine WC.reg (n := 14) (by assumption) [] [1, 2] [2] ⟨[(1, .p (.s (.int .u8 a1))), (2, .ptr 2 0)], [(2, .box 24 [.p (.s (.int .u64 a0.a0)), .p (.s (.int .u64 a0.a1)), .p (.s (.int .u64 a0.a2)), .p (.s (.int .u64 a0.a3))])], ⟨[], false⟩, []⟩ trivial (by kernel_rfl) ?_
  refine WX.seq ?_
  obtain ⟨c2_1, h⟩ := if_some h
  obtain ⟨c2_2, h⟩ := if_some h
  refine WC.reg (n := 14) (by assumption) [(2, .val (.ptr 2 (0 + ((IntKind.u8.wrap (a1.tdiv 64))).toNat * 1))), (3, .val (.p (.s (.int .u64 ((get4 a0.a0 a0.a1 a0.a2 a0.a3 ((IntKind.u8.wrap (a1.tdiv 64))))))))), (6, .val (.p (.s (.int .u64 (((get4 a0.a0 a0.a1 a0.a2 a0.a3 ((IntKind.u8.wrap (a1.tdiv 64))))).fdiv (2 ^ (min ((a1.tmod 64)).toNat IntKind.u64.bits)))))))] [4] [] ⟨[(4, .p (.s (.bool (((((((get4 a0.a0 a0.a1 a0.a2 a0.a3 ((IntKind.u8.wrap (a1.tdiv 64))))).fdiv (2 ^ (min ((a1.tmod 64)).toNat IntKind.u64.bits)))).tmod 2) == 1)))))], [], ⟨[], false⟩, []⟩ (And.intro (IxA4 2 0 ((IntKind.u8.wrap (a1.tdiv 64))) c2_1) (And.intro (LdA4 Try.prog 22 [] .u64 a0.a0 a0.a1 a0.a2 a0.a3 [] ((IntKind.u8.wrap (a1.tdiv 64))) c2_1 rfl rfl) (And.intro (Shr .u64 ((get4 a0.a0 a0.a1 a0.a2 a0.a3 ((IntKind.u8.wrap (a1.tdiv 64))))) ((a1.tmod 64)) c2_2) (trivial)))) (by kernel_rfl) ?_
  refine WX.ret ?_
  exact WC.outP (by rw [← Option.some.inj h]; kernel_rfl)
def riddleref14_Step (k : Nat) (a0 : api_Tide) (a1 : api_TideState) (a2 : Int) : Option (api_TideState) :=
  (riddleref14_may k a0 a1).bind fun t2_2 => ((if (t2_2.2.Age == (-1)) = true then some true else (riddleref02_Has t2_2.1.Class a2).bind fun t3_2 => some ((!t3_2))) : Option (Bool)).bind fun v3 => (if v3 = true then some ((api_TideState.mk ((-1)))) else some ((api_TideState.mk ((minI ((IntKind.i64.wrap (t2_2.2.Age + 1))) t2_2.1.Least)))))
theorem riddleref14_Step_ok {k : Nat} {a0 : api_Tide} {a1 : api_TideState} {a2 : Int} {r : api_TideState} (h : riddleref14_Step k a0 a1 a2 = some r) : Ans Try.prog 18 [.agg [.s (.int .u64 a0.Class.a0), .s (.int .u64 a0.Class.a1), .s (.int .u64 a0.Class.a2), .s (.int .u64 a0.Class.a3), .s (.int .i64 a0.Least)], .agg [.s (.int .i64 a1.Age)], .s (.int .u8 a2)] (.agg [.s (.int .i64 r.Age)]) := by
  refine W_fn Try.func18 rfl (by kernel_rfl) (by kernel_rfl) ?_
  intro X hro hn
  unfold riddleref14_Step at h
  refine WX.seq ?_
  refine WC.reg (n := 31) (by assumption) [] [2, 3, 4, 6] [3, 4, 6] ⟨[(2, .p (.s (.int .u8 a2))), (3, .ptr 3 0), (4, .ptr 4 0), (6, .ptr 6 0)], [(3, .box 26 [.p (.s (.int .u64 a0.Class.a0)), .p (.s (.int .u64 a0.Class.a1)), .p (.s (.int .u64 a0.Class.a2)), .p (.s (.int .u64 a0.Class.a3)), .p (.s (.int .i64 a0.Least))]), (4, .box 28 [.p (.s (.int .i64 a1.Age))]), (6, .box 28 [.p (.s (.int .i64 0))])], ⟨[], false⟩, []⟩ trivial (by kernel_rfl) ?_
  refine WX.seq ?_
  obtain ⟨t2_2, h2_1, h⟩ := bind_some h
  refine WC.reg (n := 31) (by assumption) [(2, .resP (.tup [.agg [.s (.int .u64 t2_2.1.Class.a0), .s (.int .u64 t2_2.1.Class.a1), .s (.int .u64 t2_2.1.Class.a2), .s (.int .u64 t2_2.1.Class.a3), .s (.int .i64 t2_2.1.Least)], .agg [.s (.int .i64 t2_2.2.Age)]]))] [2, 3, 4, 6] [3, 4, 6] ⟨[(2, .p (.s (.int .u8 a2))), (3, .ptr 3 0), (4, .ptr 4 0), (6, .ptr 6 0)], [(3, .box 26 [.p (.s (.int .u64 t2_2.1.Class.a0)), .p (.s (.int .u64 t2_2.1.Class.a1)), .p (.s (.int .u64 t2_2.1.Class.a2)), .p (.s (.int .u64 t2_2.1.Class.a3)), .p (.s (.int .i64 t2_2.1.Least))]), (4, .box 28 [.p (.s (.int .i64 t2_2.2.Age))]), (6, .box 28 [.p (.s (.int .i64 0))])], ⟨[], false⟩, []⟩ (And.intro ((riddleref14_may_ok h2_1)) (trivial)) (by kernel_rfl) ?_
  refine WX.seq ?_
  refine WX.seq ?_
  obtain ⟨m3_1, g3, h⟩ := bind_some h
  refine WC.via (α := Bool) (fun v3 => ⟨[(3, .ptr 3 0), (4, .ptr 4 0), (6, .ptr 6 0), (22, .p (.s (.bool v3)))], [(3, .box 26 [.p (.s (.int .u64 t2_2.1.Class.a0)), .p (.s (.int .u64 t2_2.1.Class.a1)), .p (.s (.int .u64 t2_2.1.Class.a2)), .p (.s (.int .u64 t2_2.1.Class.a3)), .p (.s (.int .i64 t2_2.1.Least))]), (4, .box 28 [.p (.s (.int .i64 t2_2.2.Age))]), (6, .box 28 [.p (.s (.int .i64 0))])], ⟨[], false⟩, []⟩) m3_1 (fun hk => ?_) ?_
  · rcases if_or g3 with ⟨b3_3, g3⟩ | ⟨b3_3, g3⟩
    · exact WC.reg (n := 31) (by assumption) [(3, .val (.p (.s (.bool true))))] [3, 4, 6, 22] [3, 4, 6] ⟨[(3, .ptr 3 0), (4, .ptr 4 0), (6, .ptr 6 0), (22, .p (.s (.bool true)))], [(3, .box 26 [.p (.s (.int .u64 t2_2.1.Class.a0)), .p (.s (.int .u64 t2_2.1.Class.a1)), .p (.s (.int .u64 t2_2.1.Class.a2)), .p (.s (.int .u64 t2_2.1.Class.a3)), .p (.s (.int .i64 t2_2.1.Least))]), (4, .box 28 [.p (.s (.int .i64 t2_2.2.Age))]), (6, .box 28 [.p (.s (.int .i64 0))])], ⟨[], false⟩, []⟩ (And.intro (Bl b3_3) (trivial)) (by kernel_rfl) (hk true (Option.some.inj g3))
    · obtain ⟨t3_2, h3_1, g3⟩ := bind_some g3
      exact WC.reg (n := 31) (by assumption) [(3, .val (.p (.s (.bool false)))), (7, .resP (.s (.bool t3_2)))] [3, 4, 6, 22] [3, 4, 6] ⟨[(3, .ptr 3 0), (4, .ptr 4 0), (6, .ptr 6 0), (22, .p (.s (.bool ((!t3_2)))))], [(3, .box 26 [.p (.s (.int .u64 t2_2.1.Class.a0)), .p (.s (.int .u64 t2_2.1.Class.a1)), .p (.s (.int .u64 t2_2.1.Class.a2)), .p (.s (.int .u64 t2_2.1.Class.a3)), .p (.s (.int .i64 t2_2.1.Least))]), (4, .box 28 [.p (.s (.int .i64 t2_2.2.Age))]), (6, .box 28 [.p (.s (.int .i64 0))])], ⟨[], false⟩, []⟩ (And.intro (Bl b3_3) (And.intro ((riddleref02_Has_ok h3_1)) (trivial))) (by kernel_rfl) (hk ((!t3_2)) (Option.some.inj g3))
  rcases if_or h with ⟨c4, h⟩ | ⟨c4, h⟩
  · refine WC.condT c4 (by kernel_rfl) ?_
    refine WX.seq ?_
    refine WC.reg (n := 31) (by assumption) [] [6] [6] ⟨[(6, .ptr 6 0)], [(6, .box 28 [.p (.s (.int .i64 ((-1))))])], ⟨[], false⟩, []⟩ trivial (by kernel_rfl) ?_
    refine WX.ret ?_
    exact WC.outP (by rw [← Option.some.inj h]; kernel_rfl)
  · refine WC.condF c4 (by kernel_rfl) ?_
    refine WX.skip ?_
    refine WX.seq ?_
    refine WC.reg (n := 31) (by assumption) [] [6] [6] ⟨[(6, .ptr 6 0)], [(6, .box 28 [.p (.s (.int .i64 ((minI ((IntKind.i64.wrap (t2_2.2.Age + 1))) t2_2.1.Least))))])], ⟨[], false⟩, []⟩ trivial (by kernel_rfl) ?_
    refine WX.ret ?_
    exact WC.outP (by rw [← Option.some.inj h]; kernel_rfl)
def riddleref14_Ready (k : Nat) (a0 : api_Tide) (a1 : api_TideState) : Option (Bool) :=
  (riddleref14_may k a0 a1).bind fun t2_2 => some ((t2_2.2.Age == t2_2.1.Least))
theorem riddleref14_Ready_ok {k : Nat} {a0 : api_Tide} {a1 : api_TideState} {r : Bool} (h : riddleref14_Ready k a0 a1 = some r) : Ans Try.prog 20 [.agg [.s (.int .u64 a0.Class.a0), .s (.int .u64 a0.Class.a1), .s (.int .u64 a0.Class.a2), .s (.int .u64 a0.Class.a3), .s (.int .i64 a0.Least)], .agg [.s (.int .i64 a1.Age)]] (.s (.bool r)) := by
  refine W_fn Try.func20 rfl (by kernel_rfl) (by kernel_rfl) ?_
  intro X hro hn
  unfold riddleref14_Ready at h
  refine WX.seq ?_
  refine WC.reg (n := 16) (by assumption) [] [2, 3] [2, 3] ⟨[(2, .ptr 2 0), (3, .ptr 3 0)], [(2, .box 26 [.p (.s (.int .u64 a0.Class.a0)), .p (.s (.int .u64 a0.Class.a1)), .p (.s (.int .u64 a0.Class.a2)), .p (.s (.int .u64 a0.Class.a3)), .p (.s (.int .i64 a0.Least))]), (3, .box 28 [.p (.s (.int .i64 a1.Age))])], ⟨[], false⟩, []⟩ trivial (by kernel_rfl) ?_
  refine WX.seq ?_
  obtain ⟨t2_2, h2_1, h⟩ := bind_some h
  refine WC.reg (n := 16) (by assumption) [(2, .resP (.tup [.agg [.s (.int .u64 t2_2.1.Class.a0), .s (.int .u64 t2_2.1.Class.a1), .s (.int .u64 t2_2.1.Class.a2), .s (.int .u64 t2_2.1.Class.a3), .s (.int .i64 t2_2.1.Least)], .agg [.s (.int .i64 t2_2.2.Age)]]))] [2, 3] [2, 3] ⟨[(2, .ptr 2 0), (3, .ptr 3 0)], [(2, .box 26 [.p (.s (.int .u64 t2_2.1.Class.a0)), .p (.s (.int .u64 t2_2.1.Class.a1)), .p (.s (.int .u64 t2_2.1.Class.a2)), .p (.s (.int .u64 t2_2.1.Class.a3)), .p (.s (.int .i64 t2_2.1.Least))]), (3, .box 28 [.p (.s (.int .i64 t2_2.2.Age))])], ⟨[], false⟩, []⟩ (And.intro ((riddleref14_may_ok h2_1)) (trivial)) (by kernel_rfl) ?_
  refine WX.seq ?_
  refine WC.reg (n := 16) (by assumption) [] [4] [] ⟨[(4, .p (.s (.bool ((t2_2.2.Age == t2_2.1.Least)))))], [], ⟨[], false⟩, []⟩ trivial (by kernel_rfl) ?_
  refine WX.ret ?_
  exact WC.outP (by rw [← Option.some.inj h]; kernel_rfl)
def riddlelaw14_TideSteps (k : Nat) (a0 : api_Tide) (a1 : api_TideState) (a2 : Int) : Option (Bool) :=
  (riddlelaw14_begun k).bind fun t2_2 => ((if t2_2 = true then (tide_Check a0).bind fun t2_4 => (riddleref14_Check a0).bind fun t2_6 => (if (t2_4 == t2_6) = true then (tide_CheckState a0 a1).bind fun t2_8 => (riddleref14_CheckState a0 a1).bind fun t2_10 => (if (t2_8 == t2_10) = true then (tide_New).bind fun t2_12 => (if ((t2_12.Age == ((-1))) && true) = true then (tide_Trigger k a0 a1).bind fun t2_14 => (riddleref14_Trigger k a0 a1).bind fun t2_16 => (if ((t2_14.Age == t2_16.Age) && true) = true then (tide_Step k a0 a1 a2).bind fun t2_18 => (riddleref14_Step k a0 a1 a2).bind fun t2_20 => (if ((t2_18.Age == t2_20.Age) && true) = true then (tide_Ready k a0 a1).bind fun t2_22 => (riddleref14_Ready k a0 a1).bind fun t2_24 => some ((t2_22 == t2_24)) else some false) else some false) else some false) else some false) else some false) else some false) : Option (Bool)).bind fun v2 => some v2
theorem riddlelaw14_TideSteps_ok {k : Nat} {a0 : api_Tide} {a1 : api_TideState} {a2 : Int} {r : Bool} (h : riddlelaw14_TideSteps k a0 a1 a2 = some r) : Ans Try.prog 3 [.agg [.s (.int .u64 a0.Class.a0), .s (.int .u64 a0.Class.a1), .s (.int .u64 a0.Class.a2), .s (.int .u64 a0.Class.a3), .s (.int .i64 a0.Least)], .agg [.s (.int .i64 a1.Age)], .s (.int .u8 a2)] (.s (.bool r)) := by
  refine W_fn Try.func3 rfl (by kernel_rfl) (by kernel_rfl) ?_
  intro X hro hn
  unfold riddlelaw14_TideSteps at h
  refine WX.seq ?_
  refine WC.reg (n := 58) (by assumption) [] [2, 3, 4] [3, 4] ⟨[(2, .p (.s (.int .u8 a2))), (3, .ptr 3 0), (4, .ptr 4 0)], [(3, .box 26 [.p (.s (.int .u64 a0.Class.a0)), .p (.s (.int .u64 a0.Class.a1)), .p (.s (.int .u64 a0.Class.a2)), .p (.s (.int .u64 a0.Class.a3)), .p (.s (.int .i64 a0.Least))]), (4, .box 28 [.p (.s (.int .i64 a1.Age))])], ⟨[], false⟩, []⟩ trivial (by kernel_rfl) ?_
  refine WX.seq ?_
  obtain ⟨t2_2, h2_1, h⟩ := bind_some h
  obtain ⟨m2_1, g2, h⟩ := bind_some h
  refine WC.via (α := Bool) (fun v2 => ⟨[(6, .p (.s (.bool v2)))], [], ⟨[], false⟩, []⟩) m2_1 (fun hk => ?_) ?_
  · rcases if_or g2 with ⟨b2_1, g2⟩ | ⟨b2_1, g2⟩
    · obtain ⟨t2_4, h2_3, g2⟩ := bind_some g2
      obtain ⟨t2_6, h2_5, g2⟩ := bind_some g2
      rcases if_or g2 with ⟨b2_8, g2⟩ | ⟨b2_8, g2⟩
      · obtain ⟨t2_8, h2_7, g2⟩ := bind_some g2
        obtain ⟨t2_10, h2_9, g2⟩ := bind_some g2
        rcases if_or g2 with ⟨b2_17, g2⟩ | ⟨b2_17, g2⟩
        · obtain ⟨t2_12, h2_11, g2⟩ := bind_some g2
          rcases if_or g2 with ⟨b2_22, g2⟩ | ⟨b2_22, g2⟩
          · obtain ⟨t2_14, h2_13, g2⟩ := bind_some g2
            obtain ⟨t2_16, h2_15, g2⟩ := bind_some g2
            rcases if_or g2 with ⟨b2_31, g2⟩ | ⟨b2_31, g2⟩
            · obtain ⟨t2_18, h2_17, g2⟩ := bind_some g2
              obtain ⟨t2_20, h2_19, g2⟩ := bind_some g2
              rcases if_or g2 with ⟨b2_42, g2⟩ | ⟨b2_42, g2⟩
              · obtain ⟨t2_22, h2_21, g2⟩ := bind_some g2
                obtain ⟨t2_24, h2_23, g2⟩ := bind_some g2
                exact WC.drw (n := 58) (by assumption) [] [] [(0, .resP (.s (.bool t2_2))), (1, .val (.p (.s (.bool true)))), (3, .resP (.s (.int .i64 t2_4))), (5, .resP (.s (.int .i64 t2_6))), (8, .val (.p (.s (.bool true)))), (11, .resP (.s (.int .i64 t2_8))), (14, .resP (.s (.int .i64 t2_10))), (17, .val (.p (.s (.bool true)))), (18, .resP (.agg [.s (.int .i64 t2_12.Age)])), (22, .val (.p (.s (.bool true)))), (25, .resP (.agg [.s (.int .i64 t2_14.Age)])), (28, .resP (.agg [.s (.int .i64 t2_16.Age)])), (31, .val (.p (.s (.bool true)))), (35, .resP (.agg [.s (.int .i64 t2_18.Age)])), (39, .resP (.agg [.s (.int .i64 t2_20.Age)])), (42, .val (.p (.s (.bool true)))), (45, .resP (.s (.bool t2_22))), (48, .resP (.s (.bool t2_24)))] [6] [] ⟨[(6, .p (.s (.bool ((t2_22 == t2_24)))))], [], ⟨[], false⟩, []⟩ (And.intro ((riddlelaw14_begun_ok h2_1)) (And.intro (Bl b2_1) (And.intro ((tide_Check_ok h2_3)) (And.intro ((riddleref14_Check_ok h2_5)) (And.intro (Bl b2_8) (And.intro ((tide_CheckState_ok h2_7)) (And.intro ((riddleref14_CheckState_ok h2_9)) (And.intro (Bl b2_17) (And.intro ((tide_New_ok h2_11)) (And.intro (Bl b2_22) (And.intro ((tide_Trigger_ok h2_13)) (And.intro ((riddleref14_Trigger_ok h2_15)) (And.intro (Bl b2_31) (And.intro ((tide_Step_ok h2_17)) (And.intro ((riddleref14_Step_ok h2_19)) (And.intro (Bl b2_42) (And.intro ((tide_Ready_ok h2_21)) (And.intro ((riddleref14_Ready_ok h2_23)) (trivial))))))))))))))))))) (by kernel_rfl) (by kernel_rfl) (by kernel_rfl) (by kernel_rfl) (hk ((t2_22 == t2_24)) (Option.some.inj g2))
              · exact WC.drw (n := 58) (by assumption) [] [] [(0, .resP (.s (.bool t2_2))), (1, .val (.p (.s (.bool true)))), (3, .resP (.s (.int .i64 t2_4))), (5, .resP (.s (.int .i64 t2_6))), (8, .val (.p (.s (.bool true)))), (11, .resP (.s (.int .i64 t2_8))), (14, .resP (.s (.int .i64 t2_10))), (17, .val (.p (.s (.bool true)))), (18, .resP (.agg [.s (.int .i64 t2_12.Age)])), (22, .val (.p (.s (.bool true)))), (25, .resP (.agg [.s (.int .i64 t2_14.Age)])), (28, .resP (.agg [.s (.int .i64 t2_16.Age)])), (31, .val (.p (.s (.bool true)))), (35, .resP (.agg [.s (.int .i64 t2_18.Age)])), (39, .resP (.agg [.s (.int .i64 t2_20.Age)])), (42, .val (.p (.s (.bool false))))] [6] [] ⟨[(6, .p (.s (.bool false)))], [], ⟨[], false⟩, []⟩ (And.intro ((riddlelaw14_begun_ok h2_1)) (And.intro (Bl b2_1) (And.intro ((tide_Check_ok h2_3)) (And.intro ((riddleref14_Check_ok h2_5)) (And.intro (Bl b2_8) (And.intro ((tide_CheckState_ok h2_7)) (And.intro ((riddleref14_CheckState_ok h2_9)) (And.intro (Bl b2_17) (And.intro ((tide_New_ok h2_11)) (And.intro (Bl b2_22) (And.intro ((tide_Trigger_ok h2_13)) (And.intro ((riddleref14_Trigger_ok h2_15)) (And.intro (Bl b2_31) (And.intro ((tide_Step_ok h2_17)) (And.intro ((riddleref14_Step_ok h2_19)) (And.intro (Bl b2_42) (trivial))))))))))))))))) (by kernel_rfl) (by kernel_rfl) (by kernel_rfl) (by kernel_rfl) (hk false (Option.some.inj g2))
            · exact WC.drw (n := 58) (by assumption) [] [] [(0, .resP (.s (.bool t2_2))), (1, .val (.p (.s (.bool true)))), (3, .resP (.s (.int .i64 t2_4))), (5, .resP (.s (.int .i64 t2_6))), (8, .val (.p (.s (.bool true)))), (11, .resP (.s (.int .i64 t2_8))), (14, .resP (.s (.int .i64 t2_10))), (17, .val (.p (.s (.bool true)))), (18, .resP (.agg [.s (.int .i64 t2_12.Age)])), (22, .val (.p (.s (.bool true)))), (25, .resP (.agg [.s (.int .i64 t2_14.Age)])), (28, .resP (.agg [.s (.int .i64 t2_16.Age)])), (31, .val (.p (.s (.bool false))))] [6] [] ⟨[(6, .p (.s (.bool false)))], [], ⟨[], false⟩, []⟩ (And.intro ((riddlelaw14_begun_ok h2_1)) (And.intro (Bl b2_1) (And.intro ((tide_Check_ok h2_3)) (And.intro ((riddleref14_Check_ok h2_5)) (And.intro (Bl b2_8) (And.intro ((tide_CheckState_ok h2_7)) (And.intro ((riddleref14_CheckState_ok h2_9)) (And.intro (Bl b2_17) (And.intro ((tide_New_ok h2_11)) (And.intro (Bl b2_22) (And.intro ((tide_Trigger_ok h2_13)) (And.intro ((riddleref14_Trigger_ok h2_15)) (And.intro (Bl b2_31) (trivial)))))))))))))) (by kernel_rfl) (by kernel_rfl) (by kernel_rfl) (by kernel_rfl) (hk false (Option.some.inj g2))
          · exact WC.drw (n := 58) (by assumption) [] [] [(0, .resP (.s (.bool t2_2))), (1, .val (.p (.s (.bool true)))), (3, .resP (.s (.int .i64 t2_4))), (5, .resP (.s (.int .i64 t2_6))), (8, .val (.p (.s (.bool true)))), (11, .resP (.s (.int .i64 t2_8))), (14, .resP (.s (.int .i64 t2_10))), (17, .val (.p (.s (.bool true)))), (18, .resP (.agg [.s (.int .i64 t2_12.Age)])), (22, .val (.p (.s (.bool false))))] [6] [] ⟨[(6, .p (.s (.bool false)))], [], ⟨[], false⟩, []⟩ (And.intro ((riddlelaw14_begun_ok h2_1)) (And.intro (Bl b2_1) (And.intro ((tide_Check_ok h2_3)) (And.intro ((riddleref14_Check_ok h2_5)) (And.intro (Bl b2_8) (And.intro ((tide_CheckState_ok h2_7)) (And.intro ((riddleref14_CheckState_ok h2_9)) (And.intro (Bl b2_17) (And.intro ((tide_New_ok h2_11)) (And.intro (Bl b2_22) (trivial))))))))))) (by kernel_rfl) (by kernel_rfl) (by kernel_rfl) (by kernel_rfl) (hk false (Option.some.inj g2))
        · exact WC.drw (n := 58) (by assumption) [] [] [(0, .resP (.s (.bool t2_2))), (1, .val (.p (.s (.bool true)))), (3, .resP (.s (.int .i64 t2_4))), (5, .resP (.s (.int .i64 t2_6))), (8, .val (.p (.s (.bool true)))), (11, .resP (.s (.int .i64 t2_8))), (14, .resP (.s (.int .i64 t2_10))), (17, .val (.p (.s (.bool false))))] [6] [] ⟨[(6, .p (.s (.bool false)))], [], ⟨[], false⟩, []⟩ (And.intro ((riddlelaw14_begun_ok h2_1)) (And.intro (Bl b2_1) (And.intro ((tide_Check_ok h2_3)) (And.intro ((riddleref14_Check_ok h2_5)) (And.intro (Bl b2_8) (And.intro ((tide_CheckState_ok h2_7)) (And.intro ((riddleref14_CheckState_ok h2_9)) (And.intro (Bl b2_17) (trivial))))))))) (by kernel_rfl) (by kernel_rfl) (by kernel_rfl) (by kernel_rfl) (hk false (Option.some.inj g2))
      · exact WC.drw (n := 58) (by assumption) [] [] [(0, .resP (.s (.bool t2_2))), (1, .val (.p (.s (.bool true)))), (3, .resP (.s (.int .i64 t2_4))), (5, .resP (.s (.int .i64 t2_6))), (8, .val (.p (.s (.bool false))))] [6] [] ⟨[(6, .p (.s (.bool false)))], [], ⟨[], false⟩, []⟩ (And.intro ((riddlelaw14_begun_ok h2_1)) (And.intro (Bl b2_1) (And.intro ((tide_Check_ok h2_3)) (And.intro ((riddleref14_Check_ok h2_5)) (And.intro (Bl b2_8) (trivial)))))) (by kernel_rfl) (by kernel_rfl) (by kernel_rfl) (by kernel_rfl) (hk false (Option.some.inj g2))
    · exact WC.drw (n := 58) (by assumption) [] [] [(0, .resP (.s (.bool t2_2))), (1, .val (.p (.s (.bool false))))] [6] [] ⟨[(6, .p (.s (.bool false)))], [], ⟨[], false⟩, []⟩ (And.intro ((riddlelaw14_begun_ok h2_1)) (And.intro (Bl b2_1) (trivial))) (by kernel_rfl) (by kernel_rfl) (by kernel_rfl) (by kernel_rfl) (hk false (Option.some.inj g2))
  refine WX.ret ?_
  exact WC.outP (by rw [← Option.some.inj h]; kernel_rfl)
def riddleref14_Run_l1 (a3 : (List Int)) (t2_2 : api_Tide × api_TideState) (x64_1_2 : Int) (J124 : Int → Option (api_TideState × (List Int))) : Nat → (Int × Int) → Option (api_TideState × (List Int))
  | 0, _ => none
  | k + 1, (x151_1_1, x151_1_2) => (if (decide (x151_1_1 < (a3.length : Int))) = true then (at_ a3 x151_1_1).bind fun t168_2 => (if (t168_2 == x64_1_2) = true then (riddleref14_Trigger k t2_2.1 ((api_TideState.mk x151_1_2))).bind fun t170_2 => riddleref14_Run_l1 a3 t2_2 x64_1_2 J124 k ((IntKind.i64.wrap (x151_1_1 + 1)), t170_2.Age) else riddleref14_Run_l1 a3 t2_2 x64_1_2 J124 k ((IntKind.i64.wrap (x151_1_1 + 1)), x151_1_2)) else J124 x151_1_2)
def riddleref14_Run_l0 (a2 : (List Int)) (a3 : (List Int)) (t2_2 : api_Tide × api_TideState) (J5 : (List Int × Int) → Option (api_TideState × (List Int))) : Nat → (List Int × Int × Int) → Option (api_TideState × (List Int))
  | 0, _ => none
  | k + 1, (x64_1_1, x64_1_2, x64_1_3) => (if (decide (x64_1_2 ≤ (a2.length : Int))) = true then jn (fun (v124 : Int) => (riddleref14_Ready k t2_2.1 ((api_TideState.mk v124))).bind fun t140_2 => jn (fun (v141 : List Int) => (if (decide (x64_1_2 < (a2.length : Int))) = true then (at_ a2 x64_1_2).bind fun t146_2 => (riddleref14_Step k t2_2.1 ((api_TideState.mk v124)) t146_2).bind fun t146_4 => riddleref14_Run_l0 a2 a3 t2_2 J5 k (v141, (IntKind.i64.wrap (x64_1_2 + 1)), t146_4.Age) else riddleref14_Run_l0 a2 a3 t2_2 J5 k (v141, (IntKind.i64.wrap (x64_1_2 + 1)), v124))) fun J141 => (if t140_2 = true then (if okApp 8 (x64_1_1.length + ([x64_1_2]).length) then J141 (x64_1_1 ++ ([x64_1_2])) else none) else J141 x64_1_1)) fun J124 => riddleref14_Run_l1 a3 t2_2 x64_1_2 J124 k (0, x64_1_3) else J5 (x64_1_1, x64_1_3))
def riddleref14_Run (k : Nat) (a0 : api_Tide) (a1 : api_TideState) (a2 : (List Int)) (a3 : (List Int)) : Option (api_TideState × (List Int)) :=
  (riddleref14_may k a0 a1).bind fun t2_2 => jn (fun (v5 : List Int × Int) => some ((api_TideState.mk v5.2), v5.1)) fun J5 => riddleref14_Run_l0 a2 a3 t2_2 J5 k (([] : List Int), 0, t2_2.2.Age)
theorem riddleref14_Run_ok {k : Nat} {a0 : api_Tide} {a1 : api_TideState} {a2 : (List Int)} {a3 : (List Int)} {r : api_TideState × (List Int)} (h : riddleref14_Run k a0 a1 a2 a3 = some r) : AnsO Try.prog 22 [] [.p (.agg [.s (.int .u64 a0.Class.a0), .s (.int .u64 a0.Class.a1), .s (.int .u64 a0.Class.a2), .s (.int .u64 a0.Class.a3), .s (.int .i64 a0.Least)]), .p (.agg [.s (.int .i64 a1.Age)]), .p (slV (eI .u8) a2), .p (slV (eI .i64) a3)] [(46, rowV 3 (eI .i64) r.2)] (.tup [.agg [.p (.s (.int .i64 r.1.Age))], .own 46]) := by
  refine W_fnO [46] Try.func22 rfl (by kernel_rfl) (by kernel_rfl) (by kernel_rfl) (by kernel_rfl) ?_
  intro X hro hn
  unfold riddleref14_Run at h
  refine WX.seq ?_
  refine WC.reg (n := 60) (by assumption) [] [2, 3, 4, 5, 8] [4, 5, 8] ⟨[(2, .p (slV (eI .u8) a2)), (3, .p (slV (eI .i64) a3)), (4, .ptr 4 0), (5, .ptr 5 0), (8, .ptr 8 0)], [(4, .box 26 [.p (.s (.int .u64 a0.Class.a0)), .p (.s (.int .u64 a0.Class.a1)), .p (.s (.int .u64 a0.Class.a2)), .p (.s (.int .u64 a0.Class.a3)), .p (.s (.int .i64 a0.Least))]), (5, .box 28 [.p (.s (.int .i64 a1.Age))]), (8, .box 28 [.p (.s (.int .i64 0))])], ⟨[], false⟩, []⟩ trivial (by kernel_rfl) ?_
  refine WX.seq ?_
  obtain ⟨t2_2, h2_1, h⟩ := bind_some h
  refine WC.reg (n := 60) (by assumption) [(2, .resP (.tup [.agg [.s (.int .u64 t2_2.1.Class.a0), .s (.int .u64 t2_2.1.Class.a1), .s (.int .u64 t2_2.1.Class.a2), .s (.int .u64 t2_2.1.Class.a3), .s (.int .i64 t2_2.1.Least)], .agg [.s (.int .i64 t2_2.2.Age)]]))] [2, 3, 4, 5, 8] [4, 5, 8] ⟨[(2, .p (slV (eI .u8) a2)), (3, .p (slV (eI .i64) a3)), (4, .ptr 4 0), (5, .ptr 5 0), (8, .ptr 8 0)], [(4, .box 26 [.p (.s (.int .u64 t2_2.1.Class.a0)), .p (.s (.int .u64 t2_2.1.Class.a1)), .p (.s (.int .u64 t2_2.1.Class.a2)), .p (.s (.int .u64 t2_2.1.Class.a3)), .p (.s (.int .i64 t2_2.1.Least))]), (5, .box 28 [.p (.s (.int .i64 t2_2.2.Age))]), (8, .box 28 [.p (.s (.int .i64 0))])], ⟨[], false⟩, []⟩ (And.intro ((riddleref14_may_ok h2_1)) (trivial)) (by kernel_rfl) ?_
  refine WX.seq ?_
  refine WC.reg (n := 60) (by assumption) [] [2, 3, 4, 5, 8, 10] [4, 5, 8] ⟨[(2, .p (slV (eI .u8) a2)), (3, .p (slV (eI .i64) a3)), (4, .ptr 4 0), (5, .ptr 5 0), (8, .ptr 8 0), (10, .p (.sl .nil 0 []))], [(4, .box 26 [.p (.s (.int .u64 t2_2.1.Class.a0)), .p (.s (.int .u64 t2_2.1.Class.a1)), .p (.s (.int .u64 t2_2.1.Class.a2)), .p (.s (.int .u64 t2_2.1.Class.a3)), .p (.s (.int .i64 t2_2.1.Least))]), (5, .box 28 [.p (.s (.int .i64 t2_2.2.Age))]), (8, .box 28 [.p (.s (.int .i64 0))])], ⟨[], false⟩, []⟩ trivial (by kernel_rfl) ?_
  refine WX.seq ?_
  refine WX.seq ?_
  refine WC.reg (n := 60) (by assumption) [] [2, 3, 4, 5, 8, 10, 11] [4, 5, 8] ⟨[(2, .p (slV (eI .u8) a2)), (3, .p (slV (eI .i64) a3)), (4, .ptr 4 0), (5, .ptr 5 0), (8, .ptr 8 0), (10, .p (.sl .nil 0 [])), (11, .p (.s (.int .i64 0)))], [(4, .box 26 [.p (.s (.int .u64 t2_2.1.Class.a0)), .p (.s (.int .u64 t2_2.1.Class.a1)), .p (.s (.int .u64 t2_2.1.Class.a2)), .p (.s (.int .u64 t2_2.1.Class.a3)), .p (.s (.int .i64 t2_2.1.Least))]), (5, .box 28 [.p (.s (.int .i64 t2_2.2.Age))]), (8, .box 28 [.p (.s (.int .i64 0))])], ⟨[], false⟩, []⟩ trivial (by kernel_rfl) ?_
  obtain ⟨J5, eJ5, h⟩ := jn_some h
  try dsimp only at h
  refine WC.join (α := List Int × Int) (fun v5 => ⟨[(5, .ptr 5 0), (8, .ptr 8 0), (10, .own 46)], [(5, .box 28 [.p (.s (.int .i64 v5.2))]), (8, .box 28 [.p (.s (.int .i64 0))]), (46, rowV 3 (eI .i64) v5.1)], ⟨[], false⟩, []⟩) (fun v5 => J5 v5 = some r) ?_ (fun hJ5 => ?_)
  · rintro ⟨y5_1, y5_2⟩ h
    rw [eJ5] at h
    try dsimp only at h
    refine WX.seq ?_
    refine WC.reg (n := 60) (by assumption) [] [8, 9] [8, 46] ⟨[(8, .ptr 8 0), (9, .own 46)], [(8, .box 28 [.p (.s (.int .i64 y5_2))]), (46, rowV 3 (eI .i64) y5_1)], ⟨[], false⟩, []⟩ trivial (by kernel_rfl) ?_
    refine WX.ret ?_
    exact WC.outO (by rw [← Option.some.inj h]; kernel_rfl)
  · replace hJ5 := fun y5_1 y5_2 => hJ5 (y5_1, y5_2)
    refine WX.block ?_
    refine WC.nil (n := 60) (by assumption) [10] none 46 3 1 (by kernel_rfl) [2, 3, 4, 5, 8, 10, 11] [4, 5, 8, 46] (st' := ⟨[(2, .p (slV (eI .u8) a2)), (3, .p (slV (eI .i64) a3)), (4, .ptr 4 0), (5, .ptr 5 0), (8, .ptr 8 0), (10, .own 46), (11, .p (.s (.int .i64 0)))], [(4, .box 26 [.p (.s (.int .u64 t2_2.1.Class.a0)), .p (.s (.int .u64 t2_2.1.Class.a1)), .p (.s (.int .u64 t2_2.1.Class.a2)), .p (.s (.int .u64 t2_2.1.Class.a3)), .p (.s (.int .i64 t2_2.1.Least))]), (5, .box 28 [.p (.s (.int .i64 t2_2.2.Age))]), (8, .box 28 [.p (.s (.int .i64 0))]), (46, rowV 3 (eI .i64) (([] : List Int)))], ⟨[], false⟩, []⟩) (by kernel_rfl) ?_
    refine WC.loop (V := List Int × Int × Int) (riddleref14_Run_l0 a2 a3 t2_2 J5) r (fun v64 => ⟨[(2, .p (slV (eI .u8) a2)), (3, .p (slV (eI .i64) a3)), (4, .ptr 4 0), (5, .ptr 5 0), (8, .ptr 8 0), (10, .own 46), (11, .p (.s (.int .i64 v64.2.1)))], [(4, .box 26 [.p (.s (.int .u64 t2_2.1.Class.a0)), .p (.s (.int .u64 t2_2.1.Class.a1)), .p (.s (.int .u64 t2_2.1.Class.a2)), .p (.s (.int .u64 t2_2.1.Class.a3)), .p (.s (.int .i64 t2_2.1.Least))]), (5, .box 28 [.p (.s (.int .i64 v64.2.2))]), (8, .box 28 [.p (.s (.int .i64 0))]), (46, rowV 3 (eI .i64) v64.1)], ⟨[], false⟩, []⟩) _ (([] : List Int), 0, t2_2.2.Age) h (fun _ => rfl) [2, 3, 4, 5, 8, 10, 11] [4, 5, 8, 46] (by kernel_rfl) ?_
    clear h; rintro k ⟨x64_1_1, x64_1_2, x64_1_3⟩ h K64 hnext64 hexit64
    rw [riddleref14_Run_l0] at h
    refine WX.seq ?_
    refine WX.seq ?_
    refine WC.reg (n := 60) (by assumption) [] [2, 3, 4, 5, 8, 10, 11, 22] [4, 5, 8, 46] ⟨[(2, .p (slV (eI .u8) a2)), (3, .p (slV (eI .i64) a3)), (4, .ptr 4 0), (5, .ptr 5 0), (8, .ptr 8 0), (10, .own 46), (11, .p (.s (.int .i64 x64_1_2))), (22, .p (.s (.bool ((decide (x64_1_2 ≤ (a2.length : Int)))))))], [(4, .box 26 [.p (.s (.int .u64 t2_2.1.Class.a0)), .p (.s (.int .u64 t2_2.1.Class.a1)), .p (.s (.int .u64 t2_2.1.Class.a2)), .p (.s (.int .u64 t2_2.1.Class.a3)), .p (.s (.int .i64 t2_2.1.Least))]), (5, .box 28 [.p (.s (.int .i64 x64_1_3))]), (8, .box 28 [.p (.s (.int .i64 0))]), (46, rowV 3 (eI .i64) x64_1_1)], ⟨[], false⟩, []⟩ trivial (by kernel_rfl) ?_
    rcases if_or h with ⟨c122, h⟩ | ⟨c122, h⟩
    · refine WC.condT c122 (by kernel_rfl) ?_
      refine WX.skip ?_
      refine WX.seq ?_
      refine WX.block ?_
      refine WX.seq ?_
      refine WX.seq ?_
      refine WC.reg (n := 60) (by assumption) [] [2, 3, 4, 5, 8, 10, 11, 12] [4, 5, 8, 46] ⟨[(2, .p (slV (eI .u8) a2)), (3, .p (slV (eI .i64) a3)), (4, .ptr 4 0), (5, .ptr 5 0), (8, .ptr 8 0), (10, .own 46), (11, .p (.s (.int .i64 x64_1_2))), (12, .p (.s (.int .i64 0)))], [(4, .box 26 [.p (.s (.int .u64 t2_2.1.Class.a0)), .p (.s (.int .u64 t2_2.1.Class.a1)), .p (.s (.int .u64 t2_2.1.Class.a2)), .p (.s (.int .u64 t2_2.1.Class.a3)), .p (.s (.int .i64 t2_2.1.Least))]), (5, .box 28 [.p (.s (.int .i64 x64_1_3))]), (8, .box 28 [.p (.s (.int .i64 0))]), (46, rowV 3 (eI .i64) x64_1_1)], ⟨[], false⟩, []⟩ trivial (by kernel_rfl) ?_
      obtain ⟨J124, eJ124, h⟩ := jn_some h
      try dsimp only at h
      refine WC.join (α := Int) (fun v124 => ⟨[(2, .p (slV (eI .u8) a2)), (3, .p (slV (eI .i64) a3)), (4, .ptr 4 0), (5, .ptr 5 0), (8, .ptr 8 0), (10, .own 46), (11, .p (.s (.int .i64 x64_1_2)))], [(4, .box 26 [.p (.s (.int .u64 t2_2.1.Class.a0)), .p (.s (.int .u64 t2_2.1.Class.a1)), .p (.s (.int .u64 t2_2.1.Class.a2)), .p (.s (.int .u64 t2_2.1.Class.a3)), .p (.s (.int .i64 t2_2.1.Least))]), (5, .box 28 [.p (.s (.int .i64 v124))]), (8, .box 28 [.p (.s (.int .i64 0))]), (46, rowV 3 (eI .i64) x64_1_1)], ⟨[], false⟩, []⟩) (fun v124 => J124 v124 = some r) ?_ (fun hJ124 => ?_)
      · rintro y124_1 h
        rw [eJ124] at h
        try dsimp only at h
        refine WX.seq ?_
        refine WX.seq ?_
        obtain ⟨t140_2, h140_1, h⟩ := bind_some h
        refine WC.reg (n := 60) (by assumption) [(2, .resP (.s (.bool t140_2)))] [2, 3, 4, 5, 8, 10, 11, 42] [4, 5, 8, 46] ⟨[(2, .p (slV (eI .u8) a2)), (3, .p (slV (eI .i64) a3)), (4, .ptr 4 0), (5, .ptr 5 0), (8, .ptr 8 0), (10, .own 46), (11, .p (.s (.int .i64 x64_1_2))), (42, .p (.s (.bool t140_2)))], [(4, .box 26 [.p (.s (.int .u64 t2_2.1.Class.a0)), .p (.s (.int .u64 t2_2.1.Class.a1)), .p (.s (.int .u64 t2_2.1.Class.a2)), .p (.s (.int .u64 t2_2.1.Class.a3)), .p (.s (.int .i64 t2_2.1.Least))]), (5, .box 28 [.p (.s (.int .i64 y124_1))]), (8, .box 28 [.p (.s (.int .i64 0))]), (46, rowV 3 (eI .i64) x64_1_1)], ⟨[], false⟩, []⟩ (And.intro ((riddleref14_Ready_ok h140_1)) (trivial)) (by kernel_rfl) ?_
        obtain ⟨J141, eJ141, h⟩ := jn_some h
        try dsimp only at h
        refine WC.join (α := List Int) (fun v141 => ⟨[(2, .p (slV (eI .u8) a2)), (3, .p (slV (eI .i64) a3)), (4, .ptr 4 0), (5, .ptr 5 0), (8, .ptr 8 0), (10, .own 46), (11, .p (.s (.int .i64 x64_1_2)))], [(4, .box 26 [.p (.s (.int .u64 t2_2.1.Class.a0)), .p (.s (.int .u64 t2_2.1.Class.a1)), .p (.s (.int .u64 t2_2.1.Class.a2)), .p (.s (.int .u64 t2_2.1.Class.a3)), .p (.s (.int .i64 t2_2.1.Least))]), (5, .box 28 [.p (.s (.int .i64 y124_1))]), (8, .box 28 [.p (.s (.int .i64 0))]), (46, rowV 3 (eI .i64) v141)], ⟨[], false⟩, []⟩) (fun v141 => J141 v141 = some r) ?_ (fun hJ141 => ?_)
        · rintro y141_1 h
          rw [eJ141] at h
          try dsimp only at h
          refine WX.seq ?_
          refine WC.reg (n := 60) (by assumption) [] [2, 3, 4, 5, 8, 10, 11, 50] [4, 5, 8, 46] ⟨[(2, .p (slV (eI .u8) a2)), (3, .p (slV (eI .i64) a3)), (4, .ptr 4 0), (5, .ptr 5 0), (8, .ptr 8 0), (10, .own 46), (11, .p (.s (.int .i64 x64_1_2))), (50, .p (.s (.bool ((decide (x64_1_2 < (a2.length : Int)))))))], [(4, .box 26 [.p (.s (.int .u64 t2_2.1.Class.a0)), .p (.s (.int .u64 t2_2.1.Class.a1)), .p (.s (.int .u64 t2_2.1.Class.a2)), .p (.s (.int .u64 t2_2.1.Class.a3)), .p (.s (.int .i64 t2_2.1.Least))]), (5, .box 28 [.p (.s (.int .i64 y124_1))]), (8, .box 28 [.p (.s (.int .i64 0))]), (46, rowV 3 (eI .i64) y141_1)], ⟨[], false⟩, []⟩ trivial (by kernel_rfl) ?_
          rcases if_or h with ⟨c145, h⟩ | ⟨c145, h⟩
          · refine WC.condT c145 (by kernel_rfl) ?_
            obtain ⟨t146_2, h146_1, h⟩ := bind_some h
            obtain ⟨t146_4, h146_3, h⟩ := bind_some h
            refine WC.drw (n := 60) (by assumption) [(7, [])] [] [(4, .val (.p (.rop ((eI .u8).cells t146_2 ++ encL (eI .u8) (a2.drop (x64_1_2.toNat + 1)))))), (6, .resP (.agg [.s (.int .i64 t146_4.Age)]))] [2, 3, 4, 5, 8, 10, 11] [4, 5, 8, 46] ⟨[(2, .p (slV (eI .u8) a2)), (3, .p (slV (eI .i64) a3)), (4, .ptr 4 0), (5, .ptr 5 0), (8, .ptr 8 0), (10, .own 46), (11, .p (.s (.int .i64 x64_1_2)))], [(4, .box 26 [.p (.s (.int .u64 t2_2.1.Class.a0)), .p (.s (.int .u64 t2_2.1.Class.a1)), .p (.s (.int .u64 t2_2.1.Class.a2)), .p (.s (.int .u64 t2_2.1.Class.a3)), .p (.s (.int .i64 t2_2.1.Least))]), (5, .box 28 [.p (.s (.int .i64 t146_4.Age))]), (8, .box 28 [.p (.s (.int .i64 0))]), (46, rowV 3 (eI .i64) y141_1)], ⟨[], false⟩, []⟩ (And.intro (Ix (eI .u8) h146_1) (And.intro ((riddleref14_Step_ok h146_3)) (trivial))) (by kernel_rfl) (by kernel_rfl) (by kernel_rfl) (by kernel_rfl) ?_
            refine WX.popBlk ?_
            refine WC.reg (n := 60) (by assumption) [] [2, 3, 4, 5, 8, 10, 11] [4, 5, 8, 46] ⟨[(2, .p (slV (eI .u8) a2)), (3, .p (slV (eI .i64) a3)), (4, .ptr 4 0), (5, .ptr 5 0), (8, .ptr 8 0), (10, .own 46), (11, .p (.s (.int .i64 ((IntKind.i64.wrap (x64_1_2 + 1))))))], [(4, .box 26 [.p (.s (.int .u64 t2_2.1.Class.a0)), .p (.s (.int .u64 t2_2.1.Class.a1)), .p (.s (.int .u64 t2_2.1.Class.a2)), .p (.s (.int .u64 t2_2.1.Class.a3)), .p (.s (.int .i64 t2_2.1.Least))]), (5, .box 28 [.p (.s (.int .i64 t146_4.Age))]), (8, .box 28 [.p (.s (.int .i64 0))]), (46, rowV 3 (eI .i64) y141_1)], ⟨[], false⟩, []⟩ trivial (by kernel_rfl) ?_
            exact WC.next [2, 3, 4, 5, 8, 10, 11] [4, 5, 8, 46] (by kernel_rfl) (hnext64 (y141_1, (IntKind.i64.wrap (x64_1_2 + 1)), t146_4.Age) h)
          · refine WC.condF c145 (by kernel_rfl) ?_
            refine WX.skip ?_
            refine WX.popBlk ?_
            refine WC.reg (n := 60) (by assumption) [] [2, 3, 4, 5, 8, 10, 11] [4, 5, 8, 46] ⟨[(2, .p (slV (eI .u8) a2)), (3, .p (slV (eI .i64) a3)), (4, .ptr 4 0), (5, .ptr 5 0), (8, .ptr 8 0), (10, .own 46), (11, .p (.s (.int .i64 ((IntKind.i64.wrap (x64_1_2 + 1))))))], [(4, .box 26 [.p (.s (.int .u64 t2_2.1.Class.a0)), .p (.s (.int .u64 t2_2.1.Class.a1)), .p (.s (.int .u64 t2_2.1.Class.a2)), .p (.s (.int .u64 t2_2.1.Class.a3)), .p (.s (.int .i64 t2_2.1.Least))]), (5, .box 28 [.p (.s (.int .i64 y124_1))]), (8, .box 28 [.p (.s (.int .i64 0))]), (46, rowV 3 (eI .i64) y141_1)], ⟨[], false⟩, []⟩ trivial (by kernel_rfl) ?_
            exact WC.next [2, 3, 4, 5, 8, 10, 11] [4, 5, 8, 46] (by kernel_rfl) (hnext64 (y141_1, (IntKind.i64.wrap (x64_1_2 + 1)), y124_1) h)
        · replace hJ141 := fun y141_1 => hJ141 y141_1
          rcases if_or h with ⟨c149, h⟩ | ⟨c149, h⟩
          · refine WC.condT c149 (by kernel_rfl) ?_
            obtain ⟨c150_1, h⟩ := if_some h
            refine WC.reg (n := 60) (by assumption) [(3, .app (some 46) (rowV 3 (eI .i64) (x64_1_1 ++ ([x64_1_2]))))] [2, 3, 4, 5, 8, 10, 11] [4, 5, 8, 46] ⟨[(2, .p (slV (eI .u8) a2)), (3, .p (slV (eI .i64) a3)), (4, .ptr 4 0), (5, .ptr 5 0), (8, .ptr 8 0), (10, .own 46), (11, .p (.s (.int .i64 x64_1_2)))], [(4, .box 26 [.p (.s (.int .u64 t2_2.1.Class.a0)), .p (.s (.int .u64 t2_2.1.Class.a1)), .p (.s (.int .u64 t2_2.1.Class.a2)), .p (.s (.int .u64 t2_2.1.Class.a3)), .p (.s (.int .i64 t2_2.1.Least))]), (5, .box 28 [.p (.s (.int .i64 y124_1))]), (8, .box 28 [.p (.s (.int .i64 0))]), (46, rowV 3 (eI .i64) (x64_1_1 ++ ([x64_1_2])))], ⟨[], false⟩, []⟩ (And.intro (Ap (eI .i64) (some 46) 3 8 1 x64_1_1 ([x64_1_2]) c150_1) (trivial)) (by kernel_rfl) ?_
            exact WC.keep [2, 3, 4, 5, 8, 10, 11] [4, 5, 8, 46] (by kernel_rfl) (hJ141 (x64_1_1 ++ ([x64_1_2])) h)
          · refine WC.condF c149 (by kernel_rfl) ?_
            refine WX.skip ?_
            exact WC.keep [2, 3, 4, 5, 8, 10, 11] [4, 5, 8, 46] (by kernel_rfl) (hJ141 x64_1_1 h)
      · replace hJ124 := fun y124_1 => hJ124 y124_1
        refine WX.block ?_
        refine WC.loop (V := Int × Int) (riddleref14_Run_l1 a3 t2_2 x64_1_2 J124) r (fun v151 => ⟨[(2, .p (slV (eI .u8) a2)), (3, .p (slV (eI .i64) a3)), (4, .ptr 4 0), (5, .ptr 5 0), (8, .ptr 8 0), (10, .own 46), (11, .p (.s (.int .i64 x64_1_2))), (12, .p (.s (.int .i64 v151.1)))], [(4, .box 26 [.p (.s (.int .u64 t2_2.1.Class.a0)), .p (.s (.int .u64 t2_2.1.Class.a1)), .p (.s (.int .u64 t2_2.1.Class.a2)), .p (.s (.int .u64 t2_2.1.Class.a3)), .p (.s (.int .i64 t2_2.1.Least))]), (5, .box 28 [.p (.s (.int .i64 v151.2))]), (8, .box 28 [.p (.s (.int .i64 0))]), (46, rowV 3 (eI .i64) x64_1_1)], ⟨[], false⟩, []⟩) _ (0, x64_1_3) h (fun _ => rfl) [2, 3, 4, 5, 8, 10, 11, 12] [4, 5, 8, 46] (by kernel_rfl) ?_
        clear h; rintro k ⟨x151_1_1, x151_1_2⟩ h K151 hnext151 hexit151
        rw [riddleref14_Run_l1] at h
        refine WX.seq ?_
        refine WX.seq ?_
        refine WC.reg (n := 60) (by assumption) [] [2, 3, 4, 5, 8, 10, 11, 12, 28] [4, 5, 8, 46] ⟨[(2, .p (slV (eI .u8) a2)), (3, .p (slV (eI .i64) a3)), (4, .ptr 4 0), (5, .ptr 5 0), (8, .ptr 8 0), (10, .own 46), (11, .p (.s (.int .i64 x64_1_2))), (12, .p (.s (.int .i64 x151_1_1))), (28, .p (.s (.bool ((decide (x151_1_1 < (a3.length : Int)))))))], [(4, .box 26 [.p (.s (.int .u64 t2_2.1.Class.a0)), .p (.s (.int .u64 t2_2.1.Class.a1)), .p (.s (.int .u64 t2_2.1.Class.a2)), .p (.s (.int .u64 t2_2.1.Class.a3)), .p (.s (.int .i64 t2_2.1.Least))]), (5, .box 28 [.p (.s (.int .i64 x151_1_2))]), (8, .box 28 [.p (.s (.int .i64 0))]), (46, rowV 3 (eI .i64) x64_1_1)], ⟨[], false⟩, []⟩ trivial (by kernel_rfl) ?_
        rcases if_or h with ⟨c167, h⟩ | ⟨c167, h⟩
        · refine WC.condT c167 (by kernel_rfl) ?_
          refine WX.skip ?_
          refine WX.seq ?_
          refine WX.block ?_
          refine WX.seq ?_
          obtain ⟨t168_2, h168_1, h⟩ := bind_some h
          refine WC.reg (n := 60) (by assumption) [(2, .val (.p (.rop ((eI .i64).cells t168_2 ++ encL (eI .i64) (a3.drop (x151_1_1.toNat + 1))))))] [2, 3, 4, 5, 8, 10, 11, 12, 36] [4, 5, 8, 46] ⟨[(2, .p (slV (eI .u8) a2)), (3, .p (slV (eI .i64) a3)), (4, .ptr 4 0), (5, .ptr 5 0), (8, .ptr 8 0), (10, .own 46), (11, .p (.s (.int .i64 x64_1_2))), (12, .p (.s (.int .i64 x151_1_1))), (36, .p (.s (.bool ((t168_2 == x64_1_2)))))], [(4, .box 26 [.p (.s (.int .u64 t2_2.1.Class.a0)), .p (.s (.int .u64 t2_2.1.Class.a1)), .p (.s (.int .u64 t2_2.1.Class.a2)), .p (.s (.int .u64 t2_2.1.Class.a3)), .p (.s (.int .i64 t2_2.1.Least))]), (5, .box 28 [.p (.s (.int .i64 x151_1_2))]), (8, .box 28 [.p (.s (.int .i64 0))]), (46, rowV 3 (eI .i64) x64_1_1)], ⟨[], false⟩, []⟩ (And.intro (Ix (eI .i64) h168_1) (trivial)) (by kernel_rfl) ?_
          rcases if_or h with ⟨c169, h⟩ | ⟨c169, h⟩
          · refine WC.condT c169 (by kernel_rfl) ?_
            obtain ⟨t170_2, h170_1, h⟩ := bind_some h
            refine WC.reg (n := 60) (by assumption) [(2, .resP (.agg [.s (.int .i64 t170_2.Age)]))] [2, 3, 4, 5, 8, 10, 11, 12] [4, 5, 8, 46] ⟨[(2, .p (slV (eI .u8) a2)), (3, .p (slV (eI .i64) a3)), (4, .ptr 4 0), (5, .ptr 5 0), (8, .ptr 8 0), (10, .own 46), (11, .p (.s (.int .i64 x64_1_2))), (12, .p (.s (.int .i64 x151_1_1)))], [(4, .box 26 [.p (.s (.int .u64 t2_2.1.Class.a0)), .p (.s (.int .u64 t2_2.1.Class.a1)), .p (.s (.int .u64 t2_2.1.Class.a2)), .p (.s (.int .u64 t2_2.1.Class.a3)), .p (.s (.int .i64 t2_2.1.Least))]), (5, .box 28 [.p (.s (.int .i64 t170_2.Age))]), (8, .box 28 [.p (.s (.int .i64 0))]), (46, rowV 3 (eI .i64) x64_1_1)], ⟨[], false⟩, []⟩ (And.intro ((riddleref14_Trigger_ok h170_1)) (trivial)) (by kernel_rfl) ?_
            refine WX.popBlk ?_
            refine WC.reg (n := 60) (by assumption) [] [2, 3, 4, 5, 8, 10, 11, 12] [4, 5, 8, 46] ⟨[(2, .p (slV (eI .u8) a2)), (3, .p (slV (eI .i64) a3)), (4, .ptr 4 0), (5, .ptr 5 0), (8, .ptr 8 0), (10, .own 46), (11, .p (.s (.int .i64 x64_1_2))), (12, .p (.s (.int .i64 ((IntKind.i64.wrap (x151_1_1 + 1))))))], [(4, .box 26 [.p (.s (.int .u64 t2_2.1.Class.a0)), .p (.s (.int .u64 t2_2.1.Class.a1)), .p (.s (.int .u64 t2_2.1.Class.a2)), .p (.s (.int .u64 t2_2.1.Class.a3)), .p (.s (.int .i64 t2_2.1.Least))]), (5, .box 28 [.p (.s (.int .i64 t170_2.Age))]), (8, .box 28 [.p (.s (.int .i64 0))]), (46, rowV 3 (eI .i64) x64_1_1)], ⟨[], false⟩, []⟩ trivial (by kernel_rfl) ?_
            exact WC.next [2, 3, 4, 5, 8, 10, 11, 12] [4, 5, 8, 46] (by kernel_rfl) (hnext151 ((IntKind.i64.wrap (x151_1_1 + 1)), t170_2.Age) h)
          · refine WC.condF c169 (by kernel_rfl) ?_
            refine WX.skip ?_
            refine WX.popBlk ?_
            refine WC.reg (n := 60) (by assumption) [] [2, 3, 4, 5, 8, 10, 11, 12] [4, 5, 8, 46] ⟨[(2, .p (slV (eI .u8) a2)), (3, .p (slV (eI .i64) a3)), (4, .ptr 4 0), (5, .ptr 5 0), (8, .ptr 8 0), (10, .own 46), (11, .p (.s (.int .i64 x64_1_2))), (12, .p (.s (.int .i64 ((IntKind.i64.wrap (x151_1_1 + 1))))))], [(4, .box 26 [.p (.s (.int .u64 t2_2.1.Class.a0)), .p (.s (.int .u64 t2_2.1.Class.a1)), .p (.s (.int .u64 t2_2.1.Class.a2)), .p (.s (.int .u64 t2_2.1.Class.a3)), .p (.s (.int .i64 t2_2.1.Least))]), (5, .box 28 [.p (.s (.int .i64 x151_1_2))]), (8, .box 28 [.p (.s (.int .i64 0))]), (46, rowV 3 (eI .i64) x64_1_1)], ⟨[], false⟩, []⟩ trivial (by kernel_rfl) ?_
            exact WC.next [2, 3, 4, 5, 8, 10, 11, 12] [4, 5, 8, 46] (by kernel_rfl) (hnext151 ((IntKind.i64.wrap (x151_1_1 + 1)), x151_1_2) h)
        · refine WC.condF c167 (by kernel_rfl) ?_
          refine WX.exit ?_
          refine WX.popCodeExit ?_
          refine WC.exit_nil (hexit151 _ _ (by simp) ?_)
          refine WX.popBlkHit ?_
          exact WC.keep [2, 3, 4, 5, 8, 10, 11] [4, 5, 8, 46] (by kernel_rfl) (hJ124 x151_1_2 h)
    · refine WC.condF c122 (by kernel_rfl) ?_
      refine WX.exit ?_
      refine WX.popCodeExit ?_
      refine WC.exit_nil (hexit64 _ _ (by simp) ?_)
      refine WX.popBlkHit ?_
      exact WC.keep [5, 8, 10] [5, 8, 46] (by kernel_rfl) (hJ5 x64_1_1 x64_1_3 h)
theorem riddleref14_Run_okP {k : Nat} {a0 : api_Tide} {a1 : api_TideState} {a2 : (List Int)} {a3 : (List Int)} {r : api_TideState × (List Int)} (h : riddleref14_Run k a0 a1 a2 a3 = some r) : Ans Try.prog 22 [.agg [.s (.int .u64 a0.Class.a0), .s (.int .u64 a0.Class.a1), .s (.int .u64 a0.Class.a2), .s (.int .u64 a0.Class.a3), .s (.int .i64 a0.Least)], .agg [.s (.int .i64 a1.Age)], slV (eI .u8) a2, slV (eI .i64) a3] (.tup [.agg [.s (.int .i64 r.1.Age)], slV (eI .i64) r.2]) := AnsO.ans (args := [.agg [.s (.int .u64 a0.Class.a0), .s (.int .u64 a0.Class.a1), .s (.int .u64 a0.Class.a2), .s (.int .u64 a0.Class.a3), .s (.int .i64 a0.Least)], .agg [.s (.int .i64 a1.Age)], slV (eI .u8) a2, slV (eI .i64) a3]) (riddleref14_Run_ok h) (by kernel_rfl)
def riddlelaw14_TideRuns (k : Nat) (a0 : api_Tide) (a1 : api_TideState) (a2 : (List Int)) (a3 : (List Int)) : Option (Bool) :=
  (if (((decide ((a2.length : Int) > 300))) || ((decide ((a3.length : Int) > 300)))) = true then some true else (tide_Run k a0 a1 a2 a3).bind fun t5_2 => (riddleref14_Run k a0 a1 a2 a3).bind fun t6_2 => (riddlelaw14_begun k).bind fun t7_2 => ((if t7_2 = true then (if ((t5_2.1.Age == t6_2.1.Age) && true) = true then (slices_Equal_int_int k t5_2.2 t6_2.2).bind fun t7_4 => some t7_4 else some false) else some false) : Option (Bool)).bind fun v7 => some v7)
theorem riddlelaw14_TideRuns_ok {k : Nat} {a0 : api_Tide} {a1 : api_TideState} {a2 : (List Int)} {a3 : (List Int)} {r : Bool} (h : riddlelaw14_TideRuns k a0 a1 a2 a3 = some r) : Ans Try.prog 4 [.agg [.s (.int .u64 a0.Class.a0), .s (.int .u64 a0.Class.a1), .s (.int .u64 a0.Class.a2), .s (.int .u64 a0.Class.a3), .s (.int .i64 a0.Least)], .agg [.s (.int .i64 a1.Age)], slV (eI .u8) a2, slV (eI .i64) a3] (.s (.bool r)) := by
  refine W_fn Try.func4 rfl (by kernel_rfl) (by kernel_rfl) ?_
  intro X hro hn
  unfold riddlelaw14_TideRuns at h
  refine WX.seq ?_
  refine WC.reg (n := 48) (by assumption) [] [2, 3, 4, 5] [4, 5] ⟨[(2, .p (slV (eI .u8) a2)), (3, .p (slV (eI .i64) a3)), (4, .ptr 4 0), (5, .ptr 5 0)], [(4, .box 26 [.p (.s (.int .u64 a0.Class.a0)), .p (.s (.int .u64 a0.Class.a1)), .p (.s (.int .u64 a0.Class.a2)), .p (.s (.int .u64 a0.Class.a3)), .p (.s (.int .i64 a0.Least))]), (5, .box 28 [.p (.s (.int .i64 a1.Age))])], ⟨[], false⟩, []⟩ trivial (by kernel_rfl) ?_
  refine WX.seq ?_
  refine WX.seq ?_
  refine WC.via (α := Bool) (fun v2 => ⟨[(2, .p (slV (eI .u8) a2)), (3, .p (slV (eI .i64) a3)), (4, .ptr 4 0), (5, .ptr 5 0), (20, .p (.s (.bool v2)))], [(4, .box 26 [.p (.s (.int .u64 a0.Class.a0)), .p (.s (.int .u64 a0.Class.a1)), .p (.s (.int .u64 a0.Class.a2)), .p (.s (.int .u64 a0.Class.a3)), .p (.s (.int .i64 a0.Least))]), (5, .box 28 [.p (.s (.int .i64 a1.Age))])], ⟨[], false⟩, []⟩) ((((decide ((a2.length : Int) > 300))) || ((decide ((a3.length : Int) > 300))))) (fun hk => ?_) ?_
  · rcases Bool.eq_false_or_eq_true ((decide ((a2.length : Int) > 300))) with b2_3 | b2_3
    · exact WC.reg (n := 48) (by assumption) [(3, .val (.p (.s (.bool true))))] [2, 3, 4, 5, 20] [4, 5] ⟨[(2, .p (slV (eI .u8) a2)), (3, .p (slV (eI .i64) a3)), (4, .ptr 4 0), (5, .ptr 5 0), (20, .p (.s (.bool true)))], [(4, .box 26 [.p (.s (.int .u64 a0.Class.a0)), .p (.s (.int .u64 a0.Class.a1)), .p (.s (.int .u64 a0.Class.a2)), .p (.s (.int .u64 a0.Class.a3)), .p (.s (.int .i64 a0.Least))]), (5, .box 28 [.p (.s (.int .i64 a1.Age))])], ⟨[], false⟩, []⟩ (And.intro (Bl b2_3) (trivial)) (by kernel_rfl) (hk true (by first | (rw [b2_3]; rfl) | simp [b2_3]))
    · exact WC.reg (n := 48) (by assumption) [(3, .val (.p (.s (.bool false))))] [2, 3, 4, 5, 20] [4, 5] ⟨[(2, .p (slV (eI .u8) a2)), (3, .p (slV (eI .i64) a3)), (4, .ptr 4 0), (5, .ptr 5 0), (20, .p (.s (.bool ((decide ((a3.length : Int) > 300))))))], [(4, .box 26 [.p (.s (.int .u64 a0.Class.a0)), .p (.s (.int .u64 a0.Class.a1)), .p (.s (.int .u64 a0.Class.a2)), .p (.s (.int .u64 a0.Class.a3)), .p (.s (.int .i64 a0.Least))]), (5, .box 28 [.p (.s (.int .i64 a1.Age))])], ⟨[], false⟩, []⟩ (And.intro (Bl b2_3) (trivial)) (by kernel_rfl) (hk ((decide ((a3.length : Int) > 300))) (by first | (rw [b2_3]; rfl) | simp [b2_3]))
  rcases if_or h with ⟨c3, h⟩ | ⟨c3, h⟩
  · refine WC.condT c3 (by kernel_rfl) ?_
    refine WX.seq ?_
    refine WC.reg (n := 48) (by assumption) [] [8] [] ⟨[(8, .p (.s (.bool true)))], [], ⟨[], false⟩, []⟩ trivial (by kernel_rfl) ?_
    refine WX.ret ?_
    exact WC.outP (by rw [← Option.some.inj h]; kernel_rfl)
  · refine WC.condF c3 (by kernel_rfl) ?_
    refine WX.skip ?_
    refine WX.seq ?_
    obtain ⟨t5_2, h5_1, h⟩ := bind_some h
    refine WC.reg (n := 48) (by assumption) [(4, .co [] [] [] [(26, rowV 3 (eI .i64) t5_2.2)] (.tup [.agg [.p (.s (.int .i64 t5_2.1.Age))], .own 26]))] [2, 3, 4, 5, 9, 10] [4, 5, 9, 26] ⟨[(2, .p (slV (eI .u8) a2)), (3, .p (slV (eI .i64) a3)), (4, .ptr 4 0), (5, .ptr 5 0), (9, .ptr 9 0), (10, .own 26)], [(4, .box 26 [.p (.s (.int .u64 a0.Class.a0)), .p (.s (.int .u64 a0.Class.a1)), .p (.s (.int .u64 a0.Class.a2)), .p (.s (.int .u64 a0.Class.a3)), .p (.s (.int .i64 a0.Least))]), (5, .box 28 [.p (.s (.int .i64 a1.Age))]), (9, .box 28 [.p (.s (.int .i64 t5_2.1.Age))]), (26, rowV 3 (eI .i64) t5_2.2)], ⟨[], false⟩, []⟩ (And.intro (And.intro ((tide_Run_ok h5_1).ren 33 26 (by kernel_rfl)) (trivial)) (trivial)) (by kernel_rfl) ?_
    refine WX.seq ?_
    obtain ⟨t6_2, h6_1, h⟩ := bind_some h
    refine WC.reg (n := 48) (by assumption) [(4, .co [] [] [] [(34, rowV 3 (eI .i64) t6_2.2)] (.tup [.agg [.p (.s (.int .i64 t6_2.1.Age))], .own 34]))] [9, 10, 11, 12] [9, 11, 26, 34] ⟨[(9, .ptr 9 0), (10, .own 26), (11, .ptr 11 0), (12, .own 34)], [(9, .box 28 [.p (.s (.int .i64 t5_2.1.Age))]), (11, .box 28 [.p (.s (.int .i64 t6_2.1.Age))]), (26, rowV 3 (eI .i64) t5_2.2), (34, rowV 3 (eI .i64) t6_2.2)], ⟨[], false⟩, []⟩ (And.intro (And.intro ((riddleref14_Run_ok h6_1).ren 46 34 (by kernel_rfl)) (trivial)) (trivial)) (by kernel_rfl) ?_
    refine WX.seq ?_
    obtain ⟨t7_2, h7_1, h⟩ := bind_some h
    obtain ⟨m7_1, g7, h⟩ := bind_some h
    refine WC.via (α := Bool) (fun v7 => ⟨[(8, .p (.s (.bool v7)))], [], ⟨[], false⟩, []⟩) m7_1 (fun hk => ?_) ?_
    · rcases if_or g7 with ⟨b7_1, g7⟩ | ⟨b7_1, g7⟩
      · rcases if_or g7 with ⟨b7_6, g7⟩ | ⟨b7_6, g7⟩
        · obtain ⟨t7_4, h7_3, g7⟩ := bind_some g7
          exact WC.reg (n := 48) (by assumption) [(0, .resP (.s (.bool t7_2))), (1, .val (.p (.s (.bool true)))), (6, .val (.p (.s (.bool true)))), (9, .res (.s (.bool t7_4)))] [8] [] ⟨[(8, .p (.s (.bool t7_4)))], [], ⟨[], false⟩, []⟩ (And.intro ((riddlelaw14_begun_ok h7_1)) (And.intro (Bl b7_1) (And.intro (Bl b7_6) (And.intro (And.intro (slices_Equal_int_int_ok h7_3) (rfl : (.s (.bool t7_4) : PV).flat = true)) (trivial))))) (by kernel_rfl) (hk t7_4 (Option.some.inj g7))
        · exact WC.reg (n := 48) (by assumption) [(0, .resP (.s (.bool t7_2))), (1, .val (.p (.s (.bool true)))), (6, .val (.p (.s (.bool false))))] [8] [] ⟨[(8, .p (.s (.bool false)))], [], ⟨[], false⟩, []⟩ (And.intro ((riddlelaw14_begun_ok h7_1)) (And.intro (Bl b7_1) (And.intro (Bl b7_6) (trivial)))) (by kernel_rfl) (hk false (Option.some.inj g7))
      · exact WC.reg (n := 48) (by assumption) [(0, .resP (.s (.bool t7_2))), (1, .val (.p (.s (.bool false))))] [8] [] ⟨[(8, .p (.s (.bool false)))], [], ⟨[], false⟩, []⟩ (And.intro ((riddlelaw14_begun_ok h7_1)) (And.intro (Bl b7_1) (trivial))) (by kernel_rfl) (hk false (Option.some.inj g7))
    refine WX.ret ?_
    exact WC.outP (by rw [← Option.some.inj h]; kernel_rfl)
def riddlelaw14_TideSmall (k : Nat) (a0 : api_Tide) (a1 : api_TideState) (a2 : (List Int)) (a3 : (List Int)) : Option (Bool) :=
  (riddlelaw14_begun k).bind fun t2_2 => ((if (!t2_2) = true then some true else (tide_Check a0).bind fun t2_4 => (if (t2_4 != 0) = true then some true else (tide_CheckState a0 a1).bind fun t2_6 => (if (t2_6 != 0) = true then some true else (if (decide ((a2.length : Int) > 300)) = true then some true else some ((decide ((a3.length : Int) > 300))))))) : Option (Bool)).bind fun v2 => (if v2 = true then (riddlelaw14_begun k).bind fun t4_2 => some t4_2 else (tide_Run k a0 a1 a2 a3).bind fun t5_2 => (tide_CheckState a0 t5_2.1).bind fun t6_2 => ((if (t6_2 == 0) = true then (tide_Trigger k a0 t5_2.1).bind fun t6_4 => (tide_CheckState a0 t6_4).bind fun t6_6 => some ((t6_6 == 0)) else some false) : Option (Bool)).bind fun v6 => some v6)
theorem riddlelaw14_TideSmall_ok {k : Nat} {a0 : api_Tide} {a1 : api_TideState} {a2 : (List Int)} {a3 : (List Int)} {r : Bool} (h : riddlelaw14_TideSmall k a0 a1 a2 a3 = some r) : Ans Try.prog 5 [.agg [.s (.int .u64 a0.Class.a0), .s (.int .u64 a0.Class.a1), .s (.int .u64 a0.Class.a2), .s (.int .u64 a0.Class.a3), .s (.int .i64 a0.Least)], .agg [.s (.int .i64 a1.Age)], slV (eI .u8) a2, slV (eI .i64) a3] (.s (.bool r)) := by
  refine W_fn Try.func5 rfl (by kernel_rfl) (by kernel_rfl) ?_
  intro X hro hn
  unfold riddlelaw14_TideSmall at h
  refine WX.seq ?_
  refine WC.reg (n := 55) (by assumption) [] [2, 3, 4, 5] [4, 5] ⟨[(2, .p (slV (eI .u8) a2)), (3, .p (slV (eI .i64) a3)), (4, .ptr 4 0), (5, .ptr 5 0)], [(4, .box 26 [.p (.s (.int .u64 a0.Class.a0)), .p (.s (.int .u64 a0.Class.a1)), .p (.s (.int .u64 a0.Class.a2)), .p (.s (.int .u64 a0.Class.a3)), .p (.s (.int .i64 a0.Least))]), (5, .box 28 [.p (.s (.int .i64 a1.Age))])], ⟨[], false⟩, []⟩ trivial (by kernel_rfl) ?_
  refine WX.seq ?_
  refine WX.seq ?_
  obtain ⟨t2_2, h2_1, h⟩ := bind_some h
  obtain ⟨m2_1, g2, h⟩ := bind_some h
  refine WC.via (α := Bool) (fun v2 => ⟨[(2, .p (slV (eI .u8) a2)), (3, .p (slV (eI .i64) a3)), (4, .ptr 4 0), (5, .ptr 5 0), (33, .p (.s (.bool v2)))], [(4, .box 26 [.p (.s (.int .u64 a0.Class.a0)), .p (.s (.int .u64 a0.Class.a1)), .p (.s (.int .u64 a0.Class.a2)), .p (.s (.int .u64 a0.Class.a3)), .p (.s (.int .i64 a0.Least))]), (5, .box 28 [.p (.s (.int .i64 a1.Age))])], ⟨[], false⟩, []⟩) m2_1 (fun hk => ?_) ?_
  · rcases if_or g2 with ⟨b2_2, g2⟩ | ⟨b2_2, g2⟩
    · exact WC.reg (n := 55) (by assumption) [(0, .resP (.s (.bool t2_2))), (2, .val (.p (.s (.bool true))))] [2, 3, 4, 5, 33] [4, 5] ⟨[(2, .p (slV (eI .u8) a2)), (3, .p (slV (eI .i64) a3)), (4, .ptr 4 0), (5, .ptr 5 0), (33, .p (.s (.bool true)))], [(4, .box 26 [.p (.s (.int .u64 a0.Class.a0)), .p (.s (.int .u64 a0.Class.a1)), .p (.s (.int .u64 a0.Class.a2)), .p (.s (.int .u64 a0.Class.a3)), .p (.s (.int .i64 a0.Least))]), (5, .box 28 [.p (.s (.int .i64 a1.Age))])], ⟨[], false⟩, []⟩ (And.intro ((riddlelaw14_begun_ok h2_1)) (And.intro (Bl b2_2) (trivial))) (by kernel_rfl) (hk true (Option.some.inj g2))
    · obtain ⟨t2_4, h2_3, g2⟩ := bind_some g2
      rcases if_or g2 with ⟨b2_7, g2⟩ | ⟨b2_7, g2⟩
      · exact WC.reg (n := 55) (by assumption) [(0, .resP (.s (.bool t2_2))), (2, .val (.p (.s (.bool false)))), (4, .resP (.s (.int .i64 t2_4))), (7, .val (.p (.s (.bool true))))] [2, 3, 4, 5, 33] [4, 5] ⟨[(2, .p (slV (eI .u8) a2)), (3, .p (slV (eI .i64) a3)), (4, .ptr 4 0), (5, .ptr 5 0), (33, .p (.s (.bool true)))], [(4, .box 26 [.p (.s (.int .u64 a0.Class.a0)), .p (.s (.int .u64 a0.Class.a1)), .p (.s (.int .u64 a0.Class.a2)), .p (.s (.int .u64 a0.Class.a3)), .p (.s (.int .i64 a0.Least))]), (5, .box 28 [.p (.s (.int .i64 a1.Age))])], ⟨[], false⟩, []⟩ (And.intro ((riddlelaw14_begun_ok h2_1)) (And.intro (Bl b2_2) (And.intro ((tide_Check_ok h2_3)) (And.intro (Bl b2_7) (trivial))))) (by kernel_rfl) (hk true (Option.some.inj g2))
      · obtain ⟨t2_6, h2_5, g2⟩ := bind_some g2
        rcases if_or g2 with ⟨b2_13, g2⟩ | ⟨b2_13, g2⟩
        · exact WC.reg (n := 55) (by assumption) [(0, .resP (.s (.bool t2_2))), (2, .val (.p (.s (.bool false)))), (4, .resP (.s (.int .i64 t2_4))), (7, .val (.p (.s (.bool false)))), (10, .resP (.s (.int .i64 t2_6))), (13, .val (.p (.s (.bool true))))] [2, 3, 4, 5, 33] [4, 5] ⟨[(2, .p (slV (eI .u8) a2)), (3, .p (slV (eI .i64) a3)), (4, .ptr 4 0), (5, .ptr 5 0), (33, .p (.s (.bool true)))], [(4, .box 26 [.p (.s (.int .u64 a0.Class.a0)), .p (.s (.int .u64 a0.Class.a1)), .p (.s (.int .u64 a0.Class.a2)), .p (.s (.int .u64 a0.Class.a3)), .p (.s (.int .i64 a0.Least))]), (5, .box 28 [.p (.s (.int .i64 a1.Age))])], ⟨[], false⟩, []⟩ (And.intro ((riddlelaw14_begun_ok h2_1)) (And.intro (Bl b2_2) (And.intro ((tide_Check_ok h2_3)) (And.intro (Bl b2_7) (And.intro ((tide_CheckState_ok h2_5)) (And.intro (Bl b2_13) (trivial))))))) (by kernel_rfl) (hk true (Option.some.inj g2))
        · rcases if_or g2 with ⟨b2_18, g2⟩ | ⟨b2_18, g2⟩
          · exact WC.reg (n := 55) (by assumption) [(0, .resP (.s (.bool t2_2))), (2, .val (.p (.s (.bool false)))), (4, .resP (.s (.int .i64 t2_4))), (7, .val (.p (.s (.bool false)))), (10, .resP (.s (.int .i64 t2_6))), (13, .val (.p (.s (.bool false)))), (18, .val (.p (.s (.bool true))))] [2, 3, 4, 5, 33] [4, 5] ⟨[(2, .p (slV (eI .u8) a2)), (3, .p (slV (eI .i64) a3)), (4, .ptr 4 0), (5, .ptr 5 0), (33, .p (.s (.bool true)))], [(4, .box 26 [.p (.s (.int .u64 a0.Class.a0)), .p (.s (.int .u64 a0.Class.a1)), .p (.s (.int .u64 a0.Class.a2)), .p (.s (.int .u64 a0.Class.a3)), .p (.s (.int .i64 a0.Least))]), (5, .box 28 [.p (.s (.int .i64 a1.Age))])], ⟨[], false⟩, []⟩ (And.intro ((riddlelaw14_begun_ok h2_1)) (And.intro (Bl b2_2) (And.intro ((tide_Check_ok h2_3)) (And.intro (Bl b2_7) (And.intro ((tide_CheckState_ok h2_5)) (And.intro (Bl b2_13) (And.intro (Bl b2_18) (trivial)))))))) (by kernel_rfl) (hk true (Option.some.inj g2))
          · exact WC.reg (n := 55) (by assumption) [(0, .resP (.s (.bool t2_2))), (2, .val (.p (.s (.bool false)))), (4, .resP (.s (.int .i64 t2_4))), (7, .val (.p (.s (.bool false)))), (10, .resP (.s (.int .i64 t2_6))), (13, .val (.p (.s (.bool false)))), (18, .val (.p (.s (.bool false))))] [2, 3, 4, 5, 33] [4, 5] ⟨[(2, .p (slV (eI .u8) a2)), (3, .p (slV (eI .i64) a3)), (4, .ptr 4 0), (5, .ptr 5 0), (33, .p (.s (.bool ((decide ((a3.length : Int) > 300))))))], [(4, .box 26 [.p (.s (.int .u64 a0.Class.a0)), .p (.s (.int .u64 a0.Class.a1)), .p (.s (.int .u64 a0.Class.a2)), .p (.s (.int .u64 a0.Class.a3)), .p (.s (.int .i64 a0.Least))]), (5, .box 28 [.p (.s (.int .i64 a1.Age))])], ⟨[], false⟩, []⟩ (And.intro ((riddlelaw14_begun_ok h2_1)) (And.intro (Bl b2_2) (And.intro ((tide_Check_ok h2_3)) (And.intro (Bl b2_7) (And.intro ((tide_CheckState_ok h2_5)) (And.intro (Bl b2_13) (And.intro (Bl b2_18) (trivial)))))))) (by kernel_rfl) (hk ((decide ((a3.length : Int) > 300))) (Option.some.inj g2))
  rcases if_or h with ⟨c3, h⟩ | ⟨c3, h⟩
  · refine WC.condT c3 (by kernel_rfl) ?_
    refine WX.seq ?_
    obtain ⟨t4_2, h4_1, h⟩ := bind_some h
    refine WC.reg (n := 55) (by assumption) [(0, .resP (.s (.bool t4_2)))] [8] [] ⟨[(8, .p (.s (.bool t4_2)))], [], ⟨[], false⟩, []⟩ (And.intro ((riddlelaw14_begun_ok h4_1)) (trivial)) (by kernel_rfl) ?_
    refine WX.ret ?_
    exact WC.outP (by rw [← Option.some.inj h]; kernel_rfl)
  · refine WC.condF c3 (by kernel_rfl) ?_
    refine WX.skip ?_
    refine WX.seq ?_
    obtain ⟨t5_2, h5_1, h⟩ := bind_some h
    refine WC.reg (n := 55) (by assumption) [(4, .co [] [] [] [(40, rowV 3 (eI .i64) t5_2.2)] (.tup [.agg [.p (.s (.int .i64 t5_2.1.Age))], .own 40]))] [4, 9] [4, 9] ⟨[(4, .ptr 4 0), (9, .ptr 9 0)], [(4, .box 26 [.p (.s (.int .u64 a0.Class.a0)), .p (.s (.int .u64 a0.Class.a1)), .p (.s (.int .u64 a0.Class.a2)), .p (.s (.int .u64 a0.Class.a3)), .p (.s (.int .i64 a0.Least))]), (9, .box 28 [.p (.s (.int .i64 t5_2.1.Age))])], ⟨[], false⟩, []⟩ (And.intro (And.intro ((tide_Run_ok h5_1).ren 33 40 (by kernel_rfl)) (trivial)) (trivial)) (by kernel_rfl) ?_
    refine WX.seq ?_
    obtain ⟨t6_2, h6_1, h⟩ := bind_some h
    obtain ⟨m6_1, g6, h⟩ := bind_some h
    refine WC.via (α := Bool) (fun v6 => ⟨[(8, .p (.s (.bool v6)))], [], ⟨[], false⟩, []⟩) m6_1 (fun hk => ?_) ?_
    · rcases if_or g6 with ⟨b6_4, g6⟩ | ⟨b6_4, g6⟩
      · obtain ⟨t6_4, h6_3, g6⟩ := bind_some g6
        obtain ⟨t6_6, h6_5, g6⟩ := bind_some g6
        exact WC.drw (n := 55) (by assumption) [] [] [(2, .resP (.s (.int .i64 t6_2))), (4, .val (.p (.s (.bool true)))), (8, .resP (.agg [.s (.int .i64 t6_4.Age)])), (9, .resP (.s (.int .i64 t6_6)))] [8] [] ⟨[(8, .p (.s (.bool ((t6_6 == 0)))))], [], ⟨[], false⟩, []⟩ (And.intro ((tide_CheckState_ok h6_1)) (And.intro (Bl b6_4) (And.intro ((tide_Trigger_ok h6_3)) (And.intro ((tide_CheckState_ok h6_5)) (trivial))))) (by kernel_rfl) (by kernel_rfl) (by kernel_rfl) (by kernel_rfl) (hk ((t6_6 == 0)) (Option.some.inj g6))
      · exact WC.drw (n := 55) (by assumption) [] [] [(2, .resP (.s (.int .i64 t6_2))), (4, .val (.p (.s (.bool false))))] [8] [] ⟨[(8, .p (.s (.bool false)))], [], ⟨[], false⟩, []⟩ (And.intro ((tide_CheckState_ok h6_1)) (And.intro (Bl b6_4) (trivial))) (by kernel_rfl) (by kernel_rfl) (by kernel_rfl) (by kernel_rfl) (hk false (Option.some.inj g6))
    refine WX.ret ?_
    exact WC.outP (by rw [← Option.some.inj h]; kernel_rfl)
def slices_Grow_byte_byte_v1 (a0 : Unit) (a1 : Int) : Option ((List Int)) :=
  jn (fun (v3 : Unit) => (if (decide ((IntKind.i64.wrap (a1 - 0)) > 0)) = true then (if okZ 1 ((IntKind.i64.wrap (a1 - 0))) then (if (0 : Int) ≤ 0 ∧ (0 : Int) ≤ 0 ∧ (0 : Int) ≤ ((List.replicate ((IntKind.i64.wrap (a1 - 0))).toNat (0 : Int)).length : Nat) then some (sub_ (List.replicate ((IntKind.i64.wrap (a1 - 0))).toNat (0 : Int)) 0 0) else none) else none) else some (([] : List Int)))) fun J3 => (if (decide (a1 < 0)) = true then none else J3 ())
theorem slices_Grow_byte_byte_v1_ok {a0 : Unit} {a1 : Int} {r : (List Int)} (h : slices_Grow_byte_byte_v1 a0 a1 = some r) : AnsO Try.prog 49 [] [.p (.sl .nil 0 []), .p (.s (.int .i64 a1))] [(0, rowV 5 (eI .u8) r)] (.own 0) := by
  refine W_fnO [0] Try.func49 rfl (by kernel_rfl) (by kernel_rfl) (by kernel_rfl) (by kernel_rfl) ?_
  intro X hro hn
  unfold slices_Grow_byte_byte_v1 at h
  refine WX.seq ?_
  refine WC.reg (n := 27) (by assumption) [] [0, 1] [] ⟨[(0, .p (.sl .nil 0 [])), (1, .p (.s (.int .i64 a1)))], [], ⟨[], false⟩, []⟩ trivial (by kernel_rfl) ?_
  refine WX.seq ?_
  refine WX.seq ?_
  refine WC.reg (n := 27) (by assumption) [] [0, 1, 6] [] ⟨[(0, .p (.sl .nil 0 [])), (1, .p (.s (.int .i64 a1))), (6, .p (.s (.bool ((decide (a1 < 0))))))], [], ⟨[], false⟩, []⟩ trivial (by kernel_rfl) ?_
  obtain ⟨J3, eJ3, h⟩ := jn_some h
  try dsimp only at h
  refine WC.join (α := Unit) (fun v3 => ⟨[(0, .p (.sl .nil 0 [])), (1, .p (.s (.int .i64 a1)))], [], ⟨[], false⟩, []⟩) (fun v3 => J3 v3 = some r) ?_ (fun hJ3 => ?_)
  · rintro _ h
    rw [eJ3] at h
    try dsimp only at h
    refine WX.seq ?_
    refine WX.seq ?_
    refine WC.reg (n := 27) (by assumption) [] [0, 1] [] ⟨[(0, .p (.sl .nil 0 [])), (1, .p (.s (.int .i64 ((IntKind.i64.wrap (a1 - 0))))))], [], ⟨[], false⟩, []⟩ trivial (by kernel_rfl) ?_
    refine WX.seq ?_
    refine WC.reg (n := 27) (by assumption) [] [0, 1, 16] [] ⟨[(0, .p (.sl .nil 0 [])), (1, .p (.s (.int .i64 ((IntKind.i64.wrap (a1 - 0)))))), (16, .p (.s (.bool ((decide ((IntKind.i64.wrap (a1 - 0)) > 0))))))], [], ⟨[], false⟩, []⟩ trivial (by kernel_rfl) ?_
    rcases if_or h with ⟨c7, h⟩ | ⟨c7, h⟩
    · refine WC.condT c7 (by kernel_rfl) ?_
      obtain ⟨c8_1, h⟩ := if_some h
      obtain ⟨c8_2, h⟩ := if_some h
      refine WC.reg (n := 27) (by assumption) [(5, .app none (rowV 5 (eI .u8) (List.replicate ((IntKind.i64.wrap (a1 - 0))).toNat (0 : Int)))), (8, .val (.sub 22 ((0 : Int).toNat * 1) ((0 : Int) - (0 : Int)).toNat))] [0] [22] ⟨[(0, .sub 22 0 ((0 : Int) - 0).toNat)], [(22, rowV 5 (eI .u8) (List.replicate ((IntKind.i64.wrap (a1 - 0))).toNat (0 : Int)))], ⟨[], false⟩, []⟩ (And.intro (ApZ (eI .u8) [.int .u8 0] (0 : Int) 5 1 ((IntKind.i64.wrap (a1 - 0))) rfl rfl c8_1) (And.intro (SlO (eI .u8) 22 (List.replicate ((IntKind.i64.wrap (a1 - 0))).toNat (0 : Int)) 0 0 c8_2) (trivial))) (by kernel_rfl) ?_
      refine WC.short (eI .u8) 0 22 5 (List.replicate ((IntKind.i64.wrap (a1 - 0))).toNat (0 : Int)) 0 c8_2 (n := 27) (by assumption) (by kernel_rfl) (by kernel_rfl) (by kernel_rfl) (⟨[(0, .own 0)], [(0, rowV 5 (eI .u8) (sub_ (List.replicate ((IntKind.i64.wrap (a1 - 0))).toNat (0 : Int)) 0 0))], ⟨[], false⟩, []⟩) (by kernel_rfl) ?_
      refine WX.seq ?_
      refine WC.reg (n := 27) (by assumption) [] [4] [0] ⟨[(4, .own 0)], [(0, rowV 5 (eI .u8) (sub_ (List.replicate ((IntKind.i64.wrap (a1 - 0))).toNat (0 : Int)) 0 0))], ⟨[], false⟩, []⟩ trivial (by kernel_rfl) ?_
      refine WX.ret ?_
      exact WC.outO (by rw [← Option.some.inj h]; kernel_rfl)
    · refine WC.condF c7 (by kernel_rfl) ?_
      refine WX.skip ?_
      refine WX.seq ?_
      refine WC.reg (n := 27) (by assumption) [] [4] [] ⟨[(4, .p (.sl .nil 0 []))], [], ⟨[], false⟩, []⟩ trivial (by kernel_rfl) ?_
      refine WX.ret ?_
      refine WC.nil (n := 27) (by assumption) [4] none 0 5 1 (by kernel_rfl) [4] [0] (st' := ⟨[(4, .own 0)], [(0, rowV 5 (eI .u8) (([] : List Int)))], ⟨[], false⟩, []⟩) (by kernel_rfl) ?_
      exact WC.outO (by rw [← Option.some.inj h]; kernel_rfl)
  · skip
    rcases if_or h with ⟨c11, h⟩ | ⟨c11, h⟩
    · refine WC.condT c11 (by kernel_rfl) ?_
      cases h
    · refine WC.condF c11 (by kernel_rfl) ?_
      refine WX.skip ?_
      exact WC.keep [0, 1] [] (by kernel_rfl) (hJ3 () h)
theorem slices_Grow_byte_byte_v1_okP {a0 : Unit} {a1 : Int} {r : (List Int)} (h : slices_Grow_byte_byte_v1 a0 a1 = some r) : Ans Try.prog 49 [.sl .nil 0 [], .s (.int .i64 a1)] (slV (eI .u8) r) := AnsO.ans (args := [.sl .nil 0 [], .s (.int .i64 a1)]) (slices_Grow_byte_byte_v1_ok h) (by kernel_rfl)
def slices_Concat_byte_byte_l0 (a0 : (List (List Int))) (J22 : List Int → Option ((List Int))) : Nat → (List Int × Int) → Option ((List Int))
  | 0, _ => none
  | k + 1, (x35_1_1, x35_1_2) => (if (decide (x35_1_2 < (a0.length : Int))) = true then (at_ a0 x35_1_2).bind fun t48_2 => (if okApp 1 (x35_1_1.length + t48_2.length) then slices_Concat_byte_byte_l0 a0 J22 k (x35_1_1 ++ t48_2, (IntKind.i64.wrap (x35_1_2 + 1))) else none) else J22 x35_1_1)
def slices_Concat_byte_byte_l1 (a0 : (List (List Int))) (J4 : Int → Option ((List Int))) : Nat → (Int × Int) → Option ((List Int))
  | 0, _ => none
  | k + 1, (x51_1_1, x51_1_2) => (if (decide (x51_1_2 < (a0.length : Int))) = true then (at_ a0 x51_1_2).bind fun t68_2 => (if (decide ((IntKind.i64.wrap (x51_1_1 + (t68_2.length : Int))) < 0)) = true then none else slices_Concat_byte_byte_l1 a0 J4 k ((IntKind.i64.wrap (x51_1_1 + (t68_2.length : Int))), (IntKind.i64.wrap (x51_1_2 + 1)))) else J4 x51_1_1)
def slices_Concat_byte_byte (k : Nat) (a0 : (List (List Int))) : Option ((List Int)) :=
  jn (fun (v4 : Int) => (slices_Grow_byte_byte_v1 (()) v4).bind fun t20_2 => jn (fun (v22 : List Int) => some v22) fun J22 => slices_Concat_byte_byte_l0 a0 J22 k (t20_2, 0)) fun J4 => slices_Concat_byte_byte_l1 a0 J4 k (0, 0)
theorem slices_Concat_byte_byte_ok {k : Nat} {a0 : (List (List Int))} {r : (List Int)} (h : slices_Concat_byte_byte k a0 = some r) : AnsO Try.prog 33 [] [.p (slV (eSl (eI .u8)) a0)] [(24, rowV 5 (eI .u8) r)] (.own 24) := by
  refine W_fnO [24] Try.func33 rfl (by kernel_rfl) (by kernel_rfl) (by kernel_rfl) (by kernel_rfl) ?_
  intro X hro hn
  unfold slices_Concat_byte_byte at h
  refine WX.seq ?_
  refine WC.reg (n := 36) (by assumption) [] [0] [] ⟨[(0, .p (slV (eSl (eI .u8)) a0))], [], ⟨[], false⟩, []⟩ trivial (by kernel_rfl) ?_
  refine WX.seq ?_
  refine WC.reg (n := 36) (by assumption) [] [0, 3] [] ⟨[(0, .p (slV (eSl (eI .u8)) a0)), (3, .p (.s (.int .i64 0)))], [], ⟨[], false⟩, []⟩ trivial (by kernel_rfl) ?_
  refine WX.seq ?_
  refine WX.seq ?_
  refine WC.reg (n := 36) (by assumption) [] [0, 3, 9, 10, 11] [] ⟨[(0, .p (slV (eSl (eI .u8)) a0)), (3, .p (.s (.int .i64 0))), (9, .p (slV (eSl (eI .u8)) a0)), (10, .p (.s (.int .i64 ((a0.length : Int))))), (11, .p (.s (.int .i64 0)))], [], ⟨[], false⟩, []⟩ trivial (by kernel_rfl) ?_
  obtain ⟨J4, eJ4, h⟩ := jn_some h
  try dsimp only at h
  refine WC.join (α := Int) (fun v4 => ⟨[(0, .p (slV (eSl (eI .u8)) a0)), (3, .p (.s (.int .i64 v4)))], [], ⟨[], false⟩, []⟩) (fun v4 => J4 v4 = some r) ?_ (fun hJ4 => ?_)
  · rintro y4_1 h
    rw [eJ4] at h
    try dsimp only at h
    refine WX.seq ?_
    obtain ⟨t20_2, h20_1, h⟩ := bind_some h
    refine WC.reg (n := 36) (by assumption) [(1, .co [0] [] [] [(24, rowV 5 (eI .u8) t20_2)] (.own 24))] [0, 6] [24] ⟨[(0, .p (slV (eSl (eI .u8)) a0)), (6, .own 24)], [(24, rowV 5 (eI .u8) t20_2)], ⟨[], false⟩, []⟩ (And.intro (And.intro ((slices_Grow_byte_byte_v1_ok h20_1).ren 0 24 (by kernel_rfl)) (trivial)) (trivial)) (by kernel_rfl) ?_
    refine WX.seq ?_
    refine WX.seq ?_
    refine WC.reg (n := 36) (by assumption) [] [6, 25, 26, 27] [24] ⟨[(6, .own 24), (25, .p (slV (eSl (eI .u8)) a0)), (26, .p (.s (.int .i64 ((a0.length : Int))))), (27, .p (.s (.int .i64 0)))], [(24, rowV 5 (eI .u8) t20_2)], ⟨[], false⟩, []⟩ trivial (by kernel_rfl) ?_
    obtain ⟨J22, eJ22, h⟩ := jn_some h
    try dsimp only at h
    refine WC.join (α := List Int) (fun v22 => ⟨[(6, .own 24)], [(24, rowV 5 (eI .u8) v22)], ⟨[], false⟩, []⟩) (fun v22 => J22 v22 = some r) ?_ (fun hJ22 => ?_)
    · rintro y22_1 h
      rw [eJ22] at h
      try dsimp only at h
      refine WX.seq ?_
      refine WC.reg (n := 36) (by assumption) [] [2] [24] ⟨[(2, .own 24)], [(24, rowV 5 (eI .u8) y22_1)], ⟨[], false⟩, []⟩ trivial (by kernel_rfl) ?_
      refine WX.ret ?_
      exact WC.outO (by rw [← Option.some.inj h]; kernel_rfl)
    · replace hJ22 := fun y22_1 => hJ22 y22_1
      refine WX.block ?_
      refine WC.loop (V := List Int × Int) (slices_Concat_byte_byte_l0 a0 J22) r (fun v35 => ⟨[(6, .own 24), (25, .p (slV (eSl (eI .u8)) a0)), (26, .p (.s (.int .i64 ((a0.length : Int))))), (27, .p (.s (.int .i64 v35.2)))], [(24, rowV 5 (eI .u8) v35.1)], ⟨[], false⟩, []⟩) _ (t20_2, 0) h (fun _ => rfl) [6, 25, 26, 27] [24] (by kernel_rfl) ?_
      clear h; rintro k ⟨x35_1_1, x35_1_2⟩ h K35 hnext35 hexit35
      rw [slices_Concat_byte_byte_l0] at h
      refine WX.seq ?_
      refine WC.reg (n := 36) (by assumption) [] [6, 25, 26, 27, 28] [24] ⟨[(6, .own 24), (25, .p (slV (eSl (eI .u8)) a0)), (26, .p (.s (.int .i64 ((a0.length : Int))))), (27, .p (.s (.int .i64 x35_1_2))), (28, .p (.s (.bool ((decide (x35_1_2 < (a0.length : Int)))))))], [(24, rowV 5 (eI .u8) x35_1_1)], ⟨[], false⟩, []⟩ trivial (by kernel_rfl) ?_
      refine WX.seq ?_
      rcases if_or h with ⟨c47, h⟩ | ⟨c47, h⟩
      · refine WC.condT c47 (by kernel_rfl) ?_
        refine WX.skip ?_
        refine WX.seq ?_
        refine WX.block ?_
        refine WX.seq ?_
        obtain ⟨t48_2, h48_1, h⟩ := bind_some h
        refine WC.reg (n := 36) (by assumption) [(0, .val (.p (.rop ((eSl (eI .u8)).cells t48_2 ++ encL (eSl (eI .u8)) (a0.drop (x35_1_2.toNat + 1))))))] [6, 8, 25, 26, 27] [24] ⟨[(6, .own 24), (8, .p (slV (eI .u8) t48_2)), (25, .p (slV (eSl (eI .u8)) a0)), (26, .p (.s (.int .i64 ((a0.length : Int))))), (27, .p (.s (.int .i64 x35_1_2)))], [(24, rowV 5 (eI .u8) x35_1_1)], ⟨[], false⟩, []⟩ (And.intro (Ix (eSl (eI .u8)) h48_1) (trivial)) (by kernel_rfl) ?_
        obtain ⟨c49_1, h⟩ := if_some h
        refine WC.reg (n := 36) (by assumption) [(2, .app (some 24) (rowV 5 (eI .u8) (x35_1_1 ++ t48_2)))] [6, 25, 26, 27] [33] ⟨[(6, .own 33), (25, .p (slV (eSl (eI .u8)) a0)), (26, .p (.s (.int .i64 ((a0.length : Int))))), (27, .p (.s (.int .i64 x35_1_2)))], [(33, rowV 5 (eI .u8) (x35_1_1 ++ t48_2))], ⟨[], false⟩, []⟩ (And.intro (ApS (eI .u8) (some 24) 5 1 x35_1_1 t48_2 c49_1) (trivial)) (by kernel_rfl) ?_
        refine WX.popBlk ?_
        refine WC.reg (n := 36) (by assumption) [] [6, 25, 26, 27] [33] ⟨[(6, .own 33), (25, .p (slV (eSl (eI .u8)) a0)), (26, .p (.s (.int .i64 ((a0.length : Int))))), (27, .p (.s (.int .i64 ((IntKind.i64.wrap (x35_1_2 + 1))))))], [(33, rowV 5 (eI .u8) (x35_1_1 ++ t48_2))], ⟨[], false⟩, []⟩ trivial (by kernel_rfl) ?_
        refine WC.ren (n := 36) (by assumption) 33 24 (by kernel_rfl) [6, 25, 26, 27] [24] (st' := ⟨[(6, .own 24), (25, .p (slV (eSl (eI .u8)) a0)), (26, .p (.s (.int .i64 ((a0.length : Int))))), (27, .p (.s (.int .i64 ((IntKind.i64.wrap (x35_1_2 + 1))))))], [(24, rowV 5 (eI .u8) (x35_1_1 ++ t48_2))], ⟨[], false⟩, []⟩) (by kernel_rfl) ?_
        exact WC.next [6, 25, 26, 27] [24] (by kernel_rfl) (hnext35 (x35_1_1 ++ t48_2, (IntKind.i64.wrap (x35_1_2 + 1))) h)
      · refine WC.condF c47 (by kernel_rfl) ?_
        refine WX.exit ?_
        refine WX.popCodeExit ?_
        refine WC.exit_nil (hexit35 _ _ (by simp) ?_)
        refine WX.popBlkHit ?_
        exact WC.keep [6] [24] (by kernel_rfl) (hJ22 x35_1_1 h)
  · replace hJ4 := fun y4_1 => hJ4 y4_1
    refine WX.block ?_
    refine WC.loop (V := Int × Int) (slices_Concat_byte_byte_l1 a0 J4) r (fun v51 => ⟨[(0, .p (slV (eSl (eI .u8)) a0)), (3, .p (.s (.int .i64 v51.1))), (9, .p (slV (eSl (eI .u8)) a0)), (10, .p (.s (.int .i64 ((a0.length : Int))))), (11, .p (.s (.int .i64 v51.2)))], [], ⟨[], false⟩, []⟩) _ (0, 0) h (fun _ => rfl) [0, 3, 9, 10, 11] [] (by kernel_rfl) ?_
    clear h; rintro k ⟨x51_1_1, x51_1_2⟩ h K51 hnext51 hexit51
    rw [slices_Concat_byte_byte_l1] at h
    refine WX.seq ?_
    refine WC.reg (n := 36) (by assumption) [] [0, 3, 9, 10, 11, 12] [] ⟨[(0, .p (slV (eSl (eI .u8)) a0)), (3, .p (.s (.int .i64 x51_1_1))), (9, .p (slV (eSl (eI .u8)) a0)), (10, .p (.s (.int .i64 ((a0.length : Int))))), (11, .p (.s (.int .i64 x51_1_2))), (12, .p (.s (.bool ((decide (x51_1_2 < (a0.length : Int)))))))], [], ⟨[], false⟩, []⟩ trivial (by kernel_rfl) ?_
    refine WX.seq ?_
    rcases if_or h with ⟨c67, h⟩ | ⟨c67, h⟩
    · refine WC.condT c67 (by kernel_rfl) ?_
      refine WX.skip ?_
      refine WX.seq ?_
      refine WX.block ?_
      refine WX.seq ?_
      obtain ⟨t68_2, h68_1, h⟩ := bind_some h
      refine WC.reg (n := 36) (by assumption) [(0, .val (.p (.rop ((eSl (eI .u8)).cells t68_2 ++ encL (eSl (eI .u8)) (a0.drop (x51_1_2.toNat + 1))))))] [0, 3, 5, 9, 10, 11] [] ⟨[(0, .p (slV (eSl (eI .u8)) a0)), (3, .p (.s (.int .i64 x51_1_1))), (5, .p (slV (eI .u8) t68_2)), (9, .p (slV (eSl (eI .u8)) a0)), (10, .p (.s (.int .i64 ((a0.length : Int))))), (11, .p (.s (.int .i64 x51_1_2)))], [], ⟨[], false⟩, []⟩ (And.intro (Ix (eSl (eI .u8)) h68_1) (trivial)) (by kernel_rfl) ?_
      refine WX.seq ?_
      refine WC.reg (n := 36) (by assumption) [] [0, 3, 9, 10, 11] [] ⟨[(0, .p (slV (eSl (eI .u8)) a0)), (3, .p (.s (.int .i64 ((IntKind.i64.wrap (x51_1_1 + (t68_2.length : Int))))))), (9, .p (slV (eSl (eI .u8)) a0)), (10, .p (.s (.int .i64 ((a0.length : Int))))), (11, .p (.s (.int .i64 x51_1_2)))], [], ⟨[], false⟩, []⟩ trivial (by kernel_rfl) ?_
      refine WX.seq ?_
      refine WC.reg (n := 36) (by assumption) [] [0, 3, 9, 10, 11, 20] [] ⟨[(0, .p (slV (eSl (eI .u8)) a0)), (3, .p (.s (.int .i64 ((IntKind.i64.wrap (x51_1_1 + (t68_2.length : Int))))))), (9, .p (slV (eSl (eI .u8)) a0)), (10, .p (.s (.int .i64 ((a0.length : Int))))), (11, .p (.s (.int .i64 x51_1_2))), (20, .p (.s (.bool ((decide ((IntKind.i64.wrap (x51_1_1 + (t68_2.length : Int))) < 0))))))], [], ⟨[], false⟩, []⟩ trivial (by kernel_rfl) ?_
      rcases if_or h with ⟨c71, h⟩ | ⟨c71, h⟩
      · refine WC.condT c71 (by kernel_rfl) ?_
        cases h
      · refine WC.condF c71 (by kernel_rfl) ?_
        refine WX.skip ?_
        refine WX.popBlk ?_
        refine WC.reg (n := 36) (by assumption) [] [0, 3, 9, 10, 11] [] ⟨[(0, .p (slV (eSl (eI .u8)) a0)), (3, .p (.s (.int .i64 ((IntKind.i64.wrap (x51_1_1 + (t68_2.length : Int))))))), (9, .p (slV (eSl (eI .u8)) a0)), (10, .p (.s (.int .i64 ((a0.length : Int))))), (11, .p (.s (.int .i64 ((IntKind.i64.wrap (x51_1_2 + 1))))))], [], ⟨[], false⟩, []⟩ trivial (by kernel_rfl) ?_
        exact WC.next [0, 3, 9, 10, 11] [] (by kernel_rfl) (hnext51 ((IntKind.i64.wrap (x51_1_1 + (t68_2.length : Int))), (IntKind.i64.wrap (x51_1_2 + 1))) h)
    · refine WC.condF c67 (by kernel_rfl) ?_
      refine WX.exit ?_
      refine WX.popCodeExit ?_
      refine WC.exit_nil (hexit51 _ _ (by simp) ?_)
      refine WX.popBlkHit ?_
      exact WC.keep [0, 3] [] (by kernel_rfl) (hJ4 x51_1_1 h)
theorem slices_Concat_byte_byte_okP {k : Nat} {a0 : (List (List Int))} {r : (List Int)} (h : slices_Concat_byte_byte k a0 = some r) : Ans Try.prog 33 [slV (eSl (eI .u8)) a0] (slV (eI .u8) r) := AnsO.ans (args := [slV (eSl (eI .u8)) a0]) (slices_Concat_byte_byte_ok h) (by kernel_rfl)
def riddlelaw14_TideParts_l0 (a2 : (List Int)) (t40_2 : api_TideState × (List Int)) (J43 : List Int → Option (Bool)) : Nat → (List Int × Int) → Option (Bool)
  | 0, _ => none
  | k + 1, (x62_1_1, x62_1_2) => (if (decide (x62_1_2 < (t40_2.2.length : Int))) = true then (at_ t40_2.2 x62_1_2).bind fun t81_2 => ((if (decide (t81_2 > 0)) = true then some true else (slices_Contains_int_int k x62_1_1 ((a2.length : Int))).bind fun t82_2 => some ((!t82_2))) : Option (Bool)).bind fun v82 => (if v82 = true then (if okApp 8 (x62_1_1.length + ([(IntKind.i64.wrap (t81_2 + (a2.length : Int)))]).length) then riddlelaw14_TideParts_l0 a2 t40_2 J43 k (x62_1_1 ++ ([(IntKind.i64.wrap (t81_2 + (a2.length : Int)))]), (IntKind.i64.wrap (x62_1_2 + 1))) else none) else riddlelaw14_TideParts_l0 a2 t40_2 J43 k (x62_1_1, (IntKind.i64.wrap (x62_1_2 + 1)))) else J43 x62_1_1)
def riddlelaw14_TideParts_l1 (a2 : (List Int)) (a3 : (List Int)) (a4 : (List Int)) (J7 : (List Int × List Int) → Option (Bool)) : Nat → (List Int × List Int × Int) → Option (Bool)
  | 0, _ => none
  | k + 1, (x87_1_1, x87_1_2, x87_1_3) => (if (decide (x87_1_3 < (a4.length : Int))) = true then (at_ a4 x87_1_3).bind fun t120_2 => (if (((decide (t120_2 < 0))) || ((decide (t120_2 > (IntKind.i64.wrap ((a2.length : Int) + (a3.length : Int))))))) = true then riddlelaw14_TideParts_l1 a2 a3 a4 J7 k (x87_1_1, x87_1_2, (IntKind.i64.wrap (x87_1_3 + 1))) else jn (fun (v125 : List Int) => (if (decide (t120_2 ≥ (a2.length : Int))) = true then (if okApp 8 (x87_1_2.length + ([(IntKind.i64.wrap (t120_2 - (a2.length : Int)))]).length) then riddlelaw14_TideParts_l1 a2 a3 a4 J7 k (v125, x87_1_2 ++ ([(IntKind.i64.wrap (t120_2 - (a2.length : Int)))]), (IntKind.i64.wrap (x87_1_3 + 1))) else none) else riddlelaw14_TideParts_l1 a2 a3 a4 J7 k (v125, x87_1_2, (IntKind.i64.wrap (x87_1_3 + 1))))) fun J125 => (if (decide (t120_2 ≤ (a2.length : Int))) = true then (if okApp 8 (x87_1_1.length + ([t120_2]).length) then J125 (x87_1_1 ++ ([t120_2])) else none) else J125 x87_1_1)) else J7 (x87_1_1, x87_1_2))
def riddlelaw14_TideParts (k : Nat) (a0 : api_Tide) (a1 : api_TideState) (a2 : (List Int)) (a3 : (List Int)) (a4 : (List Int)) : Option (Bool) :=
  (riddlelaw14_begun k).bind fun t2_2 => (if (((!t2_2)) || ((((decide ((a2.length : Int) > 200))) || ((((decide ((a3.length : Int) > 200))) || ((decide ((a4.length : Int) > 200)))))))) = true then (riddlelaw14_begun k).bind fun t4_2 => some t4_2 else jn (fun (v7 : List Int × List Int) => (tide_Run k a0 a1 a2 v7.1).bind fun t39_2 => (tide_Run k a0 t39_2.1 a3 v7.2).bind fun t40_2 => (slices_Concat_byte_byte k ([a2, a3])).bind fun t41_2 => (tide_Run k a0 a1 t41_2 a4).bind fun t41_4 => jn (fun (v43 : List Int) => ((if ((t40_2.1.Age == t41_4.1.Age) && true) = true then (slices_Equal_int_int k v43 t41_4.2).bind fun t61_2 => some t61_2 else some false) : Option (Bool)).bind fun v61 => some v61) fun J43 => riddlelaw14_TideParts_l0 a2 t40_2 J43 k (t39_2.2, 0)) fun J7 => riddlelaw14_TideParts_l1 a2 a3 a4 J7 k (([] : List Int), ([] : List Int), 0))
theorem riddlelaw14_TideParts_ok {k : Nat} {a0 : api_Tide} {a1 : api_TideState} {a2 : (List Int)} {a3 : (List Int)} {a4 : (List Int)} {r : Bool} (h : riddlelaw14_TideParts k a0 a1 a2 a3 a4 = some r) : Ans Try.prog 8 [.agg [.s (.int .u64 a0.Class.a0), .s (.int .u64 a0.Class.a1), .s (.int .u64 a0.Class.a2), .s (.int .u64 a0.Class.a3), .s (.int .i64 a0.Least)], .agg [.s (.int .i64 a1.Age)], slV (eI .u8) a2, slV (eI .u8) a3, slV (eI .i64) a4] (.s (.bool r)) := by
  refine W_fn Try.func8 rfl (by kernel_rfl) (by kernel_rfl) ?_
  intro X hro hn
  unfold riddlelaw14_TideParts at h
  refine WX.seq ?_
  refine WC.reg (n := 135) (by assumption) [] [2, 3, 4, 5, 6] [5, 6] ⟨[(2, .p (slV (eI .u8) a2)), (3, .p (slV (eI .u8) a3)), (4, .p (slV (eI .i64) a4)), (5, .ptr 5 0), (6, .ptr 6 0)], [(5, .box 26 [.p (.s (.int .u64 a0.Class.a0)), .p (.s (.int .u64 a0.Class.a1)), .p (.s (.int .u64 a0.Class.a2)), .p (.s (.int .u64 a0.Class.a3)), .p (.s (.int .i64 a0.Least))]), (6, .box 28 [.p (.s (.int .i64 a1.Age))])], ⟨[], false⟩, []⟩ trivial (by kernel_rfl) ?_
  refine WX.seq ?_
  refine WX.seq ?_
  obtain ⟨t2_2, h2_1, h⟩ := bind_some h
  refine WC.via (α := Bool) (fun v2 => ⟨[(2, .p (slV (eI .u8) a2)), (3, .p (slV (eI .u8) a3)), (4, .p (slV (eI .i64) a4)), (5, .ptr 5 0), (6, .ptr 6 0), (38, .p (.s (.bool v2)))], [(5, .box 26 [.p (.s (.int .u64 a0.Class.a0)), .p (.s (.int .u64 a0.Class.a1)), .p (.s (.int .u64 a0.Class.a2)), .p (.s (.int .u64 a0.Class.a3)), .p (.s (.int .i64 a0.Least))]), (6, .box 28 [.p (.s (.int .i64 a1.Age))])], ⟨[], false⟩, []⟩) ((((!t2_2)) || ((((decide ((a2.length : Int) > 200))) || ((((decide ((a3.length : Int) > 200))) || ((decide ((a4.length : Int) > 200))))))))) (fun hk => ?_) ?_
  · rcases Bool.eq_false_or_eq_true ((!t2_2)) with b2_2 | b2_2
    · exact WC.reg (n := 135) (by assumption) [(0, .resP (.s (.bool t2_2))), (2, .val (.p (.s (.bool true))))] [2, 3, 4, 5, 6, 38] [5, 6] ⟨[(2, .p (slV (eI .u8) a2)), (3, .p (slV (eI .u8) a3)), (4, .p (slV (eI .i64) a4)), (5, .ptr 5 0), (6, .ptr 6 0), (38, .p (.s (.bool true)))], [(5, .box 26 [.p (.s (.int .u64 a0.Class.a0)), .p (.s (.int .u64 a0.Class.a1)), .p (.s (.int .u64 a0.Class.a2)), .p (.s (.int .u64 a0.Class.a3)), .p (.s (.int .i64 a0.Least))]), (6, .box 28 [.p (.s (.int .i64 a1.Age))])], ⟨[], false⟩, []⟩ (And.intro ((riddlelaw14_begun_ok h2_1)) (And.intro (Bl b2_2) (trivial))) (by kernel_rfl) (hk true (by first | (rw [b2_2]; rfl) | simp [b2_2]))
    · rcases Bool.eq_false_or_eq_true ((decide ((a2.length : Int) > 200))) with b2_7 | b2_7
      · exact WC.reg (n := 135) (by assumption) [(0, .resP (.s (.bool t2_2))), (2, .val (.p (.s (.bool false)))), (7, .val (.p (.s (.bool true))))] [2, 3, 4, 5, 6, 38] [5, 6] ⟨[(2, .p (slV (eI .u8) a2)), (3, .p (slV (eI .u8) a3)), (4, .p (slV (eI .i64) a4)), (5, .ptr 5 0), (6, .ptr 6 0), (38, .p (.s (.bool true)))], [(5, .box 26 [.p (.s (.int .u64 a0.Class.a0)), .p (.s (.int .u64 a0.Class.a1)), .p (.s (.int .u64 a0.Class.a2)), .p (.s (.int .u64 a0.Class.a3)), .p (.s (.int .i64 a0.Least))]), (6, .box 28 [.p (.s (.int .i64 a1.Age))])], ⟨[], false⟩, []⟩ (And.intro ((riddlelaw14_begun_ok h2_1)) (And.intro (Bl b2_2) (And.intro (Bl b2_7) (trivial)))) (by kernel_rfl) (hk true (by first | (rw [b2_2, b2_7]; rfl) | simp [b2_2, b2_7]))
      · rcases Bool.eq_false_or_eq_true ((decide ((a3.length : Int) > 200))) with b2_12 | b2_12
        · exact WC.reg (n := 135) (by assumption) [(0, .resP (.s (.bool t2_2))), (2, .val (.p (.s (.bool false)))), (7, .val (.p (.s (.bool false)))), (12, .val (.p (.s (.bool true))))] [2, 3, 4, 5, 6, 38] [5, 6] ⟨[(2, .p (slV (eI .u8) a2)), (3, .p (slV (eI .u8) a3)), (4, .p (slV (eI .i64) a4)), (5, .ptr 5 0), (6, .ptr 6 0), (38, .p (.s (.bool true)))], [(5, .box 26 [.p (.s (.int .u64 a0.Class.a0)), .p (.s (.int .u64 a0.Class.a1)), .p (.s (.int .u64 a0.Class.a2)), .p (.s (.int .u64 a0.Class.a3)), .p (.s (.int .i64 a0.Least))]), (6, .box 28 [.p (.s (.int .i64 a1.Age))])], ⟨[], false⟩, []⟩ (And.intro ((riddlelaw14_begun_ok h2_1)) (And.intro (Bl b2_2) (And.intro (Bl b2_7) (And.intro (Bl b2_12) (trivial))))) (by kernel_rfl) (hk true (by first | (rw [b2_2, b2_7, b2_12]; rfl) | simp [b2_2, b2_7, b2_12]))
        · exact WC.reg (n := 135) (by assumption) [(0, .resP (.s (.bool t2_2))), (2, .val (.p (.s (.bool false)))), (7, .val (.p (.s (.bool false)))), (12, .val (.p (.s (.bool false))))] [2, 3, 4, 5, 6, 38] [5, 6] ⟨[(2, .p (slV (eI .u8) a2)), (3, .p (slV (eI .u8) a3)), (4, .p (slV (eI .i64) a4)), (5, .ptr 5 0), (6, .ptr 6 0), (38, .p (.s (.bool ((decide ((a4.length : Int) > 200))))))], [(5, .box 26 [.p (.s (.int .u64 a0.Class.a0)), .p (.s (.int .u64 a0.Class.a1)), .p (.s (.int .u64 a0.Class.a2)), .p (.s (.int .u64 a0.Class.a3)), .p (.s (.int .i64 a0.Least))]), (6, .box 28 [.p (.s (.int .i64 a1.Age))])], ⟨[], false⟩, []⟩ (And.intro ((riddlelaw14_begun_ok h2_1)) (And.intro (Bl b2_2) (And.intro (Bl b2_7) (And.intro (Bl b2_12) (trivial))))) (by kernel_rfl) (hk ((decide ((a4.length : Int) > 200))) (by first | (rw [b2_2, b2_7, b2_12]; rfl) | simp [b2_2, b2_7, b2_12]))
  rcases if_or h with ⟨c3, h⟩ | ⟨c3, h⟩
  · refine WC.condT c3 (by kernel_rfl) ?_
    refine WX.seq ?_
    obtain ⟨t4_2, h4_1, h⟩ := bind_some h
    refine WC.reg (n := 135) (by assumption) [(0, .resP (.s (.bool t4_2)))] [10] [] ⟨[(10, .p (.s (.bool t4_2)))], [], ⟨[], false⟩, []⟩ (And.intro ((riddlelaw14_begun_ok h4_1)) (trivial)) (by kernel_rfl) ?_
    refine WX.ret ?_
    exact WC.outP (by rw [← Option.some.inj h]; kernel_rfl)
  · refine WC.condF c3 (by kernel_rfl) ?_
    refine WX.skip ?_
    refine WX.seq ?_
    refine WC.reg (n := 135) (by assumption) [] [2, 3, 4, 5, 6, 11, 12] [5, 6] ⟨[(2, .p (slV (eI .u8) a2)), (3, .p (slV (eI .u8) a3)), (4, .p (slV (eI .i64) a4)), (5, .ptr 5 0), (6, .ptr 6 0), (11, .p (.sl .nil 0 [])), (12, .p (.sl .nil 0 []))], [(5, .box 26 [.p (.s (.int .u64 a0.Class.a0)), .p (.s (.int .u64 a0.Class.a1)), .p (.s (.int .u64 a0.Class.a2)), .p (.s (.int .u64 a0.Class.a3)), .p (.s (.int .i64 a0.Least))]), (6, .box 28 [.p (.s (.int .i64 a1.Age))])], ⟨[], false⟩, []⟩ trivial (by kernel_rfl) ?_
    refine WX.seq ?_
    refine WX.seq ?_
    refine WC.reg (n := 135) (by assumption) [] [2, 3, 4, 5, 6, 11, 12, 40, 41, 42] [5, 6] ⟨[(2, .p (slV (eI .u8) a2)), (3, .p (slV (eI .u8) a3)), (4, .p (slV (eI .i64) a4)), (5, .ptr 5 0), (6, .ptr 6 0), (11, .p (.sl .nil 0 [])), (12, .p (.sl .nil 0 [])), (40, .p (slV (eI .i64) a4)), (41, .p (.s (.int .i64 ((a4.length : Int))))), (42, .p (.s (.int .i64 0)))], [(5, .box 26 [.p (.s (.int .u64 a0.Class.a0)), .p (.s (.int .u64 a0.Class.a1)), .p (.s (.int .u64 a0.Class.a2)), .p (.s (.int .u64 a0.Class.a3)), .p (.s (.int .i64 a0.Least))]), (6, .box 28 [.p (.s (.int .i64 a1.Age))])], ⟨[], false⟩, []⟩ trivial (by kernel_rfl) ?_
    obtain ⟨J7, eJ7, h⟩ := jn_some h
    try dsimp only at h
    refine WC.join (α := List Int × List Int) (fun v7 => ⟨[(2, .p (slV (eI .u8) a2)), (3, .p (slV (eI .u8) a3)), (4, .p (slV (eI .i64) a4)), (5, .ptr 5 0), (6, .ptr 6 0), (11, .own 64), (12, .own 75)], [(5, .box 26 [.p (.s (.int .u64 a0.Class.a0)), .p (.s (.int .u64 a0.Class.a1)), .p (.s (.int .u64 a0.Class.a2)), .p (.s (.int .u64 a0.Class.a3)), .p (.s (.int .i64 a0.Least))]), (6, .box 28 [.p (.s (.int .i64 a1.Age))]), (64, rowV 3 (eI .i64) v7.1), (75, rowV 3 (eI .i64) v7.2)], ⟨[], false⟩, []⟩) (fun v7 => J7 v7 = some r) ?_ (fun hJ7 => ?_)
    · rintro ⟨y7_1, y7_2⟩ h
      rw [eJ7] at h
      try dsimp only at h
      refine WX.seq ?_
      obtain ⟨t39_2, h39_1, h⟩ := bind_some h
      refine WC.reg (n := 135) (by assumption) [(4, .co [] [] [64] [(82, rowV 3 (eI .i64) t39_2.2)] (.tup [.agg [.p (.s (.int .i64 t39_2.1.Age))], .own 82]))] [2, 3, 4, 5, 6, 12, 15, 16] [5, 6, 15, 75, 82] ⟨[(2, .p (slV (eI .u8) a2)), (3, .p (slV (eI .u8) a3)), (4, .p (slV (eI .i64) a4)), (5, .ptr 5 0), (6, .ptr 6 0), (12, .own 75), (15, .ptr 15 0), (16, .own 82)], [(5, .box 26 [.p (.s (.int .u64 a0.Class.a0)), .p (.s (.int .u64 a0.Class.a1)), .p (.s (.int .u64 a0.Class.a2)), .p (.s (.int .u64 a0.Class.a3)), .p (.s (.int .i64 a0.Least))]), (6, .box 28 [.p (.s (.int .i64 a1.Age))]), (15, .box 28 [.p (.s (.int .i64 t39_2.1.Age))]), (75, rowV 3 (eI .i64) y7_2), (82, rowV 3 (eI .i64) t39_2.2)], ⟨[], false⟩, []⟩ (And.intro (And.intro ((tide_Run_ok h39_1).ren 33 82 (by kernel_rfl)) (And.intro (rfl : (.tup [.agg [.p (.s (.int .i64 t39_2.1.Age))], .own 82] : AV).flat = true) (And.intro (flats_encL (eI .i64) (fun _ => rfl) t39_2.2) (trivial)))) (trivial)) (by kernel_rfl) ?_
      refine WX.seq ?_
      obtain ⟨t40_2, h40_1, h⟩ := bind_some h
      refine WC.reg (n := 135) (by assumption) [(4, .co [] [] [75] [(90, rowV 3 (eI .i64) t40_2.2)] (.tup [.agg [.p (.s (.int .i64 t40_2.1.Age))], .own 90]))] [2, 3, 4, 5, 6, 15, 16, 17] [5, 6, 15, 82, 90] ⟨[(2, .p (slV (eI .u8) a2)), (3, .p (slV (eI .u8) a3)), (4, .p (slV (eI .i64) a4)), (5, .ptr 5 0), (6, .ptr 6 0), (15, .ptr 15 0), (16, .own 82), (17, .own 90)], [(5, .box 26 [.p (.s (.int .u64 a0.Class.a0)), .p (.s (.int .u64 a0.Class.a1)), .p (.s (.int .u64 a0.Class.a2)), .p (.s (.int .u64 a0.Class.a3)), .p (.s (.int .i64 a0.Least))]), (6, .box 28 [.p (.s (.int .i64 a1.Age))]), (15, .box 28 [.p (.s (.int .i64 t40_2.1.Age))]), (82, rowV 3 (eI .i64) t39_2.2), (90, rowV 3 (eI .i64) t40_2.2)], ⟨[], false⟩, []⟩ (And.intro (And.intro ((tide_Run_ok h40_1).ren 33 90 (by kernel_rfl)) (And.intro (rfl : (.tup [.agg [.p (.s (.int .i64 t40_2.1.Age))], .own 90] : AV).flat = true) (And.intro (flats_encL (eI .i64) (fun _ => rfl) t40_2.2) (trivial)))) (trivial)) (by kernel_rfl) ?_
      refine WX.seq ?_
      obtain ⟨t41_2, h41_1, h⟩ := bind_some h
      obtain ⟨t41_4, h41_3, h⟩ := bind_some h
      refine WC.drw (n := 135) (by assumption) [(12, [10])] [18] [(5, .resP (slV (eI .u8) t41_2)), (7, .resP (.tup [.agg [.s (.int .i64 t41_4.1.Age)], slV (eI .i64) t41_4.2]))] [2, 15, 16, 17, 18, 19] [15, 18, 82, 90] ⟨[(2, .p (slV (eI .u8) a2)), (15, .ptr 15 0), (16, .own 82), (17, .own 90), (18, .ptr 18 0), (19, .p (slV (eI .i64) t41_4.2))], [(15, .box 28 [.p (.s (.int .i64 t40_2.1.Age))]), (18, .box 28 [.p (.s (.int .i64 t41_4.1.Age))]), (82, rowV 3 (eI .i64) t39_2.2), (90, rowV 3 (eI .i64) t40_2.2)], ⟨[], false⟩, []⟩ (And.intro ((slices_Concat_byte_byte_okP h41_1)) (And.intro ((tide_Run_okP h41_3)) (And.intro (And.intro (Eq.refl (some (.p (slV (eI .i64) t41_4.2) : AV))) (trivial)) (trivial)))) (by kernel_rfl) (by kernel_rfl) (by kernel_rfl) (by kernel_rfl) ?_
      refine WX.seq ?_
      refine WX.seq ?_
      refine WC.reg (n := 135) (by assumption) [] [2, 15, 16, 18, 19, 104, 105, 106] [15, 18, 82, 90] ⟨[(2, .p (slV (eI .u8) a2)), (15, .ptr 15 0), (16, .own 82), (18, .ptr 18 0), (19, .p (slV (eI .i64) t41_4.2)), (104, .own 90), (105, .p (.s (.int .i64 ((t40_2.2.length : Int))))), (106, .p (.s (.int .i64 0)))], [(15, .box 28 [.p (.s (.int .i64 t40_2.1.Age))]), (18, .box 28 [.p (.s (.int .i64 t41_4.1.Age))]), (82, rowV 3 (eI .i64) t39_2.2), (90, rowV 3 (eI .i64) t40_2.2)], ⟨[], false⟩, []⟩ trivial (by kernel_rfl) ?_
      obtain ⟨J43, eJ43, h⟩ := jn_some h
      try dsimp only at h
      refine WC.join (α := List Int) (fun v43 => ⟨[(15, .ptr 15 0), (16, .own 82), (18, .ptr 18 0), (19, .p (slV (eI .i64) t41_4.2))], [(15, .box 28 [.p (.s (.int .i64 t40_2.1.Age))]), (18, .box 28 [.p (.s (.int .i64 t41_4.1.Age))]), (82, rowV 3 (eI .i64) v43)], ⟨[], false⟩, []⟩) (fun v43 => J43 v43 = some r) ?_ (fun hJ43 => ?_)
      · rintro y43_1 h
        rw [eJ43] at h
        try dsimp only at h
        refine WX.seq ?_
        obtain ⟨m61_1, g61, h⟩ := bind_some h
        refine WC.via (α := Bool) (fun v61 => ⟨[(10, .p (.s (.bool v61)))], [], ⟨[], false⟩, []⟩) m61_1 (fun hk => ?_) ?_
        · rcases if_or g61 with ⟨b61_3, g61⟩ | ⟨b61_3, g61⟩
          · obtain ⟨t61_2, h61_1, g61⟩ := bind_some g61
            exact WC.reg (n := 135) (by assumption) [(3, .val (.p (.s (.bool true)))), (6, .res (.s (.bool t61_2)))] [10] [] ⟨[(10, .p (.s (.bool t61_2)))], [], ⟨[], false⟩, []⟩ (And.intro (Bl b61_3) (And.intro (And.intro (slices_Equal_int_int_ok h61_1) (rfl : (.s (.bool t61_2) : PV).flat = true)) (trivial))) (by kernel_rfl) (hk t61_2 (Option.some.inj g61))
          · exact WC.reg (n := 135) (by assumption) [(3, .val (.p (.s (.bool false))))] [10] [] ⟨[(10, .p (.s (.bool false)))], [], ⟨[], false⟩, []⟩ (And.intro (Bl b61_3) (trivial)) (by kernel_rfl) (hk false (Option.some.inj g61))
        refine WX.ret ?_
        exact WC.outP (by rw [← Option.some.inj h]; kernel_rfl)
      · replace hJ43 := fun y43_1 => hJ43 y43_1
        refine WX.block ?_
        refine WC.loop (V := List Int × Int) (riddlelaw14_TideParts_l0 a2 t40_2 J43) r (fun v62 => ⟨[(2, .p (slV (eI .u8) a2)), (15, .ptr 15 0), (16, .own 82), (18, .ptr 18 0), (19, .p (slV (eI .i64) t41_4.2)), (104, .own 90), (105, .p (.s (.int .i64 ((t40_2.2.length : Int))))), (106, .p (.s (.int .i64 v62.2)))], [(15, .box 28 [.p (.s (.int .i64 t40_2.1.Age))]), (18, .box 28 [.p (.s (.int .i64 t41_4.1.Age))]), (82, rowV 3 (eI .i64) v62.1), (90, rowV 3 (eI .i64) t40_2.2)], ⟨[], false⟩, []⟩) _ (t39_2.2, 0) h (fun _ => rfl) [2, 15, 16, 18, 19, 104, 105, 106] [15, 18, 82, 90] (by kernel_rfl) ?_
        clear h; rintro k ⟨x62_1_1, x62_1_2⟩ h K62 hnext62 hexit62
        rw [riddlelaw14_TideParts_l0] at h
        refine WX.seq ?_
        refine WC.reg (n := 135) (by assumption) [] [2, 15, 16, 18, 19, 104, 105, 106, 107] [15, 18, 82, 90] ⟨[(2, .p (slV (eI .u8) a2)), (15, .ptr 15 0), (16, .own 82), (18, .ptr 18 0), (19, .p (slV (eI .i64) t41_4.2)), (104, .own 90), (105, .p (.s (.int .i64 ((t40_2.2.length : Int))))), (106, .p (.s (.int .i64 x62_1_2))), (107, .p (.s (.bool ((decide (x62_1_2 < (t40_2.2.length : Int)))))))], [(15, .box 28 [.p (.s (.int .i64 t40_2.1.Age))]), (18, .box 28 [.p (.s (.int .i64 t41_4.1.Age))]), (82, rowV 3 (eI .i64) x62_1_1), (90, rowV 3 (eI .i64) t40_2.2)], ⟨[], false⟩, []⟩ trivial (by kernel_rfl) ?_
        refine WX.seq ?_
        rcases if_or h with ⟨c80, h⟩ | ⟨c80, h⟩
        · refine WC.condT c80 (by kernel_rfl) ?_
          refine WX.skip ?_
          refine WX.seq ?_
          refine WX.block ?_
          refine WX.seq ?_
          obtain ⟨t81_2, h81_1, h⟩ := bind_some h
          refine WC.reg (n := 135) (by assumption) [(0, .val (.ptr 90 (x62_1_2.toNat * 1))), (1, .val (.p (.s (.int .i64 t81_2))))] [2, 15, 16, 18, 19, 21, 104, 105, 106] [15, 18, 82, 90] ⟨[(2, .p (slV (eI .u8) a2)), (15, .ptr 15 0), (16, .own 82), (18, .ptr 18 0), (19, .p (slV (eI .i64) t41_4.2)), (21, .p (.s (.int .i64 t81_2))), (104, .own 90), (105, .p (.s (.int .i64 ((t40_2.2.length : Int))))), (106, .p (.s (.int .i64 x62_1_2)))], [(15, .box 28 [.p (.s (.int .i64 t40_2.1.Age))]), (18, .box 28 [.p (.s (.int .i64 t41_4.1.Age))]), (82, rowV 3 (eI .i64) x62_1_1), (90, rowV 3 (eI .i64) t40_2.2)], ⟨[], false⟩, []⟩ (And.intro (IxO 90 1 h81_1) (And.intro (LdO0 Try.prog (eI .i64) 3 h81_1) (trivial))) (by kernel_rfl) ?_
          refine WX.seq ?_
          obtain ⟨m82_1, g82, h⟩ := bind_some h
          refine WC.via (α := Bool) (fun v82 => ⟨[(2, .p (slV (eI .u8) a2)), (15, .ptr 15 0), (16, .own 82), (18, .ptr 18 0), (19, .p (slV (eI .i64) t41_4.2)), (21, .p (.s (.int .i64 t81_2))), (104, .own 90), (105, .p (.s (.int .i64 ((t40_2.2.length : Int))))), (106, .p (.s (.int .i64 x62_1_2))), (118, .p (.s (.bool v82)))], [(15, .box 28 [.p (.s (.int .i64 t40_2.1.Age))]), (18, .box 28 [.p (.s (.int .i64 t41_4.1.Age))]), (82, rowV 3 (eI .i64) x62_1_1), (90, rowV 3 (eI .i64) t40_2.2)], ⟨[], false⟩, []⟩) m82_1 (fun hk => ?_) ?_
          · rcases if_or g82 with ⟨b82_2, g82⟩ | ⟨b82_2, g82⟩
            · exact WC.reg (n := 135) (by assumption) [(2, .val (.p (.s (.bool true))))] [2, 15, 16, 18, 19, 21, 104, 105, 106, 118] [15, 18, 82, 90] ⟨[(2, .p (slV (eI .u8) a2)), (15, .ptr 15 0), (16, .own 82), (18, .ptr 18 0), (19, .p (slV (eI .i64) t41_4.2)), (21, .p (.s (.int .i64 t81_2))), (104, .own 90), (105, .p (.s (.int .i64 ((t40_2.2.length : Int))))), (106, .p (.s (.int .i64 x62_1_2))), (118, .p (.s (.bool true)))], [(15, .box 28 [.p (.s (.int .i64 t40_2.1.Age))]), (18, .box 28 [.p (.s (.int .i64 t41_4.1.Age))]), (82, rowV 3 (eI .i64) x62_1_1), (90, rowV 3 (eI .i64) t40_2.2)], ⟨[], false⟩, []⟩ (And.intro (Bl b82_2) (trivial)) (by kernel_rfl) (hk true (Option.some.inj g82))
            · obtain ⟨t82_2, h82_1, g82⟩ := bind_some g82
              exact WC.reg (n := 135) (by assumption) [(2, .val (.p (.s (.bool false)))), (6, .res (.s (.bool t82_2)))] [2, 15, 16, 18, 19, 21, 104, 105, 106, 118] [15, 18, 82, 90] ⟨[(2, .p (slV (eI .u8) a2)), (15, .ptr 15 0), (16, .own 82), (18, .ptr 18 0), (19, .p (slV (eI .i64) t41_4.2)), (21, .p (.s (.int .i64 t81_2))), (104, .own 90), (105, .p (.s (.int .i64 ((t40_2.2.length : Int))))), (106, .p (.s (.int .i64 x62_1_2))), (118, .p (.s (.bool ((!t82_2)))))], [(15, .box 28 [.p (.s (.int .i64 t40_2.1.Age))]), (18, .box 28 [.p (.s (.int .i64 t41_4.1.Age))]), (82, rowV 3 (eI .i64) x62_1_1), (90, rowV 3 (eI .i64) t40_2.2)], ⟨[], false⟩, []⟩ (And.intro (Bl b82_2) (And.intro (And.intro (slices_Contains_int_int_ok h82_1) (rfl : (.s (.bool t82_2) : PV).flat = true)) (trivial))) (by kernel_rfl) (hk ((!t82_2)) (Option.some.inj g82))
          rcases if_or h with ⟨c83, h⟩ | ⟨c83, h⟩
          · refine WC.condT c83 (by kernel_rfl) ?_
            obtain ⟨c84_1, h⟩ := if_some h
            refine WC.reg (n := 135) (by assumption) [(6, .app (some 82) (rowV 3 (eI .i64) (x62_1_1 ++ ([(IntKind.i64.wrap (t81_2 + (a2.length : Int)))]))))] [2, 15, 16, 18, 19, 104, 105, 106] [15, 18, 90, 125] ⟨[(2, .p (slV (eI .u8) a2)), (15, .ptr 15 0), (16, .own 125), (18, .ptr 18 0), (19, .p (slV (eI .i64) t41_4.2)), (104, .own 90), (105, .p (.s (.int .i64 ((t40_2.2.length : Int))))), (106, .p (.s (.int .i64 x62_1_2)))], [(15, .box 28 [.p (.s (.int .i64 t40_2.1.Age))]), (18, .box 28 [.p (.s (.int .i64 t41_4.1.Age))]), (90, rowV 3 (eI .i64) t40_2.2), (125, rowV 3 (eI .i64) (x62_1_1 ++ ([(IntKind.i64.wrap (t81_2 + (a2.length : Int)))])))], ⟨[], false⟩, []⟩ (And.intro (Ap (eI .i64) (some 82) 3 8 1 x62_1_1 ([(IntKind.i64.wrap (t81_2 + (a2.length : Int)))]) c84_1) (trivial)) (by kernel_rfl) ?_
            refine WX.popBlk ?_
            refine WC.reg (n := 135) (by assumption) [] [2, 15, 16, 18, 19, 104, 105, 106] [15, 18, 90, 125] ⟨[(2, .p (slV (eI .u8) a2)), (15, .ptr 15 0), (16, .own 125), (18, .ptr 18 0), (19, .p (slV (eI .i64) t41_4.2)), (104, .own 90), (105, .p (.s (.int .i64 ((t40_2.2.length : Int))))), (106, .p (.s (.int .i64 ((IntKind.i64.wrap (x62_1_2 + 1))))))], [(15, .box 28 [.p (.s (.int .i64 t40_2.1.Age))]), (18, .box 28 [.p (.s (.int .i64 t41_4.1.Age))]), (90, rowV 3 (eI .i64) t40_2.2), (125, rowV 3 (eI .i64) (x62_1_1 ++ ([(IntKind.i64.wrap (t81_2 + (a2.length : Int)))])))], ⟨[], false⟩, []⟩ trivial (by kernel_rfl) ?_
            refine WC.ren (n := 135) (by assumption) 125 82 (by kernel_rfl) [2, 15, 16, 18, 19, 104, 105, 106] [15, 18, 82, 90] (st' := ⟨[(2, .p (slV (eI .u8) a2)), (15, .ptr 15 0), (16, .own 82), (18, .ptr 18 0), (19, .p (slV (eI .i64) t41_4.2)), (104, .own 90), (105, .p (.s (.int .i64 ((t40_2.2.length : Int))))), (106, .p (.s (.int .i64 ((IntKind.i64.wrap (x62_1_2 + 1))))))], [(15, .box 28 [.p (.s (.int .i64 t40_2.1.Age))]), (18, .box 28 [.p (.s (.int .i64 t41_4.1.Age))]), (82, rowV 3 (eI .i64) (x62_1_1 ++ ([(IntKind.i64.wrap (t81_2 + (a2.length : Int)))]))), (90, rowV 3 (eI .i64) t40_2.2)], ⟨[], false⟩, []⟩) (by kernel_rfl) ?_
            exact WC.next [2, 15, 16, 18, 19, 104, 105, 106] [15, 18, 82, 90] (by kernel_rfl) (hnext62 (x62_1_1 ++ ([(IntKind.i64.wrap (t81_2 + (a2.length : Int)))]), (IntKind.i64.wrap (x62_1_2 + 1))) h)
          · refine WC.condF c83 (by kernel_rfl) ?_
            refine WX.skip ?_
            refine WX.popBlk ?_
            refine WC.reg (n := 135) (by assumption) [] [2, 15, 16, 18, 19, 104, 105, 106] [15, 18, 82, 90] ⟨[(2, .p (slV (eI .u8) a2)), (15, .ptr 15 0), (16, .own 82), (18, .ptr 18 0), (19, .p (slV (eI .i64) t41_4.2)), (104, .own 90), (105, .p (.s (.int .i64 ((t40_2.2.length : Int))))), (106, .p (.s (.int .i64 ((IntKind.i64.wrap (x62_1_2 + 1))))))], [(15, .box 28 [.p (.s (.int .i64 t40_2.1.Age))]), (18, .box 28 [.p (.s (.int .i64 t41_4.1.Age))]), (82, rowV 3 (eI .i64) x62_1_1), (90, rowV 3 (eI .i64) t40_2.2)], ⟨[], false⟩, []⟩ trivial (by kernel_rfl) ?_
            exact WC.next [2, 15, 16, 18, 19, 104, 105, 106] [15, 18, 82, 90] (by kernel_rfl) (hnext62 (x62_1_1, (IntKind.i64.wrap (x62_1_2 + 1))) h)
        · refine WC.condF c80 (by kernel_rfl) ?_
          refine WX.exit ?_
          refine WX.popCodeExit ?_
          refine WC.exit_nil (hexit62 _ _ (by simp) ?_)
          refine WX.popBlkHit ?_
          exact WC.keep [15, 16, 18, 19] [15, 18, 82] (by kernel_rfl) (hJ43 x62_1_1 h)
    · replace hJ7 := fun y7_1 y7_2 => hJ7 (y7_1, y7_2)
      refine WX.block ?_
      refine WC.nil (n := 135) (by assumption) [11] none 64 3 1 (by kernel_rfl) [2, 3, 4, 5, 6, 11, 12, 40, 41, 42] [5, 6, 64] (st' := ⟨[(2, .p (slV (eI .u8) a2)), (3, .p (slV (eI .u8) a3)), (4, .p (slV (eI .i64) a4)), (5, .ptr 5 0), (6, .ptr 6 0), (11, .own 64), (12, .p (.sl .nil 0 [])), (40, .p (slV (eI .i64) a4)), (41, .p (.s (.int .i64 ((a4.length : Int))))), (42, .p (.s (.int .i64 0)))], [(5, .box 26 [.p (.s (.int .u64 a0.Class.a0)), .p (.s (.int .u64 a0.Class.a1)), .p (.s (.int .u64 a0.Class.a2)), .p (.s (.int .u64 a0.Class.a3)), .p (.s (.int .i64 a0.Least))]), (6, .box 28 [.p (.s (.int .i64 a1.Age))]), (64, rowV 3 (eI .i64) (([] : List Int)))], ⟨[], false⟩, []⟩) (by kernel_rfl) ?_
      refine WC.nil (n := 135) (by assumption) [12] none 75 3 1 (by kernel_rfl) [2, 3, 4, 5, 6, 11, 12, 40, 41, 42] [5, 6, 64, 75] (st' := ⟨[(2, .p (slV (eI .u8) a2)), (3, .p (slV (eI .u8) a3)), (4, .p (slV (eI .i64) a4)), (5, .ptr 5 0), (6, .ptr 6 0), (11, .own 64), (12, .own 75), (40, .p (slV (eI .i64) a4)), (41, .p (.s (.int .i64 ((a4.length : Int))))), (42, .p (.s (.int .i64 0)))], [(5, .box 26 [.p (.s (.int .u64 a0.Class.a0)), .p (.s (.int .u64 a0.Class.a1)), .p (.s (.int .u64 a0.Class.a2)), .p (.s (.int .u64 a0.Class.a3)), .p (.s (.int .i64 a0.Least))]), (6, .box 28 [.p (.s (.int .i64 a1.Age))]), (64, rowV 3 (eI .i64) (([] : List Int))), (75, rowV 3 (eI .i64) (([] : List Int)))], ⟨[], false⟩, []⟩) (by kernel_rfl) ?_
      refine WC.loop (V := List Int × List Int × Int) (riddlelaw14_TideParts_l1 a2 a3 a4 J7) r (fun v87 => ⟨[(2, .p (slV (eI .u8) a2)), (3, .p (slV (eI .u8) a3)), (4, .p (slV (eI .i64) a4)), (5, .ptr 5 0), (6, .ptr 6 0), (11, .own 64), (12, .own 75), (40, .p (slV (eI .i64) a4)), (41, .p (.s (.int .i64 ((a4.length : Int))))), (42, .p (.s (.int .i64 v87.2.2)))], [(5, .box 26 [.p (.s (.int .u64 a0.Class.a0)), .p (.s (.int .u64 a0.Class.a1)), .p (.s (.int .u64 a0.Class.a2)), .p (.s (.int .u64 a0.Class.a3)), .p (.s (.int .i64 a0.Least))]), (6, .box 28 [.p (.s (.int .i64 a1.Age))]), (64, rowV 3 (eI .i64) v87.1), (75, rowV 3 (eI .i64) v87.2.1)], ⟨[], false⟩, []⟩) _ (([] : List Int), ([] : List Int), 0) h (fun _ => rfl) [2, 3, 4, 5, 6, 11, 12, 40, 41, 42] [5, 6, 64, 75] (by kernel_rfl) ?_
      clear h; rintro k ⟨x87_1_1, x87_1_2, x87_1_3⟩ h K87 hnext87 hexit87
      rw [riddlelaw14_TideParts_l1] at h
      refine WX.seq ?_
      refine WC.reg (n := 135) (by assumption) [] [2, 3, 4, 5, 6, 11, 12, 40, 41, 42, 43] [5, 6, 64, 75] ⟨[(2, .p (slV (eI .u8) a2)), (3, .p (slV (eI .u8) a3)), (4, .p (slV (eI .i64) a4)), (5, .ptr 5 0), (6, .ptr 6 0), (11, .own 64), (12, .own 75), (40, .p (slV (eI .i64) a4)), (41, .p (.s (.int .i64 ((a4.length : Int))))), (42, .p (.s (.int .i64 x87_1_3))), (43, .p (.s (.bool ((decide (x87_1_3 < (a4.length : Int)))))))], [(5, .box 26 [.p (.s (.int .u64 a0.Class.a0)), .p (.s (.int .u64 a0.Class.a1)), .p (.s (.int .u64 a0.Class.a2)), .p (.s (.int .u64 a0.Class.a3)), .p (.s (.int .i64 a0.Least))]), (6, .box 28 [.p (.s (.int .i64 a1.Age))]), (64, rowV 3 (eI .i64) x87_1_1), (75, rowV 3 (eI .i64) x87_1_2)], ⟨[], false⟩, []⟩ trivial (by kernel_rfl) ?_
      refine WX.seq ?_
      rcases if_or h with ⟨c119, h⟩ | ⟨c119, h⟩
      · refine WC.condT c119 (by kernel_rfl) ?_
        refine WX.skip ?_
        refine WX.seq ?_
        refine WX.block ?_
        refine WX.seq ?_
        obtain ⟨t120_2, h120_1, h⟩ := bind_some h
        refine WC.reg (n := 135) (by assumption) [(0, .val (.p (.rop ((eI .i64).cells t120_2 ++ encL (eI .i64) (a4.drop (x87_1_3.toNat + 1))))))] [2, 3, 4, 5, 6, 11, 12, 14, 40, 41, 42] [5, 6, 64, 75] ⟨[(2, .p (slV (eI .u8) a2)), (3, .p (slV (eI .u8) a3)), (4, .p (slV (eI .i64) a4)), (5, .ptr 5 0), (6, .ptr 6 0), (11, .own 64), (12, .own 75), (14, .p (.s (.int .i64 t120_2))), (40, .p (slV (eI .i64) a4)), (41, .p (.s (.int .i64 ((a4.length : Int))))), (42, .p (.s (.int .i64 x87_1_3)))], [(5, .box 26 [.p (.s (.int .u64 a0.Class.a0)), .p (.s (.int .u64 a0.Class.a1)), .p (.s (.int .u64 a0.Class.a2)), .p (.s (.int .u64 a0.Class.a3)), .p (.s (.int .i64 a0.Least))]), (6, .box 28 [.p (.s (.int .i64 a1.Age))]), (64, rowV 3 (eI .i64) x87_1_1), (75, rowV 3 (eI .i64) x87_1_2)], ⟨[], false⟩, []⟩ (And.intro (Ix (eI .i64) h120_1) (trivial)) (by kernel_rfl) ?_
        refine WX.seq ?_
        refine WX.seq ?_
        refine WC.via (α := Bool) (fun v121 => ⟨[(2, .p (slV (eI .u8) a2)), (3, .p (slV (eI .u8) a3)), (4, .p (slV (eI .i64) a4)), (5, .ptr 5 0), (6, .ptr 6 0), (11, .own 64), (12, .own 75), (14, .p (.s (.int .i64 t120_2))), (40, .p (slV (eI .i64) a4)), (41, .p (.s (.int .i64 ((a4.length : Int))))), (42, .p (.s (.int .i64 x87_1_3))), (56, .p (.s (.bool v121)))], [(5, .box 26 [.p (.s (.int .u64 a0.Class.a0)), .p (.s (.int .u64 a0.Class.a1)), .p (.s (.int .u64 a0.Class.a2)), .p (.s (.int .u64 a0.Class.a3)), .p (.s (.int .i64 a0.Least))]), (6, .box 28 [.p (.s (.int .i64 a1.Age))]), (64, rowV 3 (eI .i64) x87_1_1), (75, rowV 3 (eI .i64) x87_1_2)], ⟨[], false⟩, []⟩) ((((decide (t120_2 < 0))) || ((decide (t120_2 > (IntKind.i64.wrap ((a2.length : Int) + (a3.length : Int)))))))) (fun hk => ?_) ?_
        · rcases Bool.eq_false_or_eq_true ((decide (t120_2 < 0))) with b121_2 | b121_2
          · exact WC.reg (n := 135) (by assumption) [(2, .val (.p (.s (.bool true))))] [2, 3, 4, 5, 6, 11, 12, 14, 40, 41, 42, 56] [5, 6, 64, 75] ⟨[(2, .p (slV (eI .u8) a2)), (3, .p (slV (eI .u8) a3)), (4, .p (slV (eI .i64) a4)), (5, .ptr 5 0), (6, .ptr 6 0), (11, .own 64), (12, .own 75), (14, .p (.s (.int .i64 t120_2))), (40, .p (slV (eI .i64) a4)), (41, .p (.s (.int .i64 ((a4.length : Int))))), (42, .p (.s (.int .i64 x87_1_3))), (56, .p (.s (.bool true)))], [(5, .box 26 [.p (.s (.int .u64 a0.Class.a0)), .p (.s (.int .u64 a0.Class.a1)), .p (.s (.int .u64 a0.Class.a2)), .p (.s (.int .u64 a0.Class.a3)), .p (.s (.int .i64 a0.Least))]), (6, .box 28 [.p (.s (.int .i64 a1.Age))]), (64, rowV 3 (eI .i64) x87_1_1), (75, rowV 3 (eI .i64) x87_1_2)], ⟨[], false⟩, []⟩ (And.intro (Bl b121_2) (trivial)) (by kernel_rfl) (hk true (by first | (rw [b121_2]; rfl) | simp [b121_2]))
          · exact WC.reg (n := 135) (by assumption) [(2, .val (.p (.s (.bool false))))] [2, 3, 4, 5, 6, 11, 12, 14, 40, 41, 42, 56] [5, 6, 64, 75] ⟨[(2, .p (slV (eI .u8) a2)), (3, .p (slV (eI .u8) a3)), (4, .p (slV (eI .i64) a4)), (5, .ptr 5 0), (6, .ptr 6 0), (11, .own 64), (12, .own 75), (14, .p (.s (.int .i64 t120_2))), (40, .p (slV (eI .i64) a4)), (41, .p (.s (.int .i64 ((a4.length : Int))))), (42, .p (.s (.int .i64 x87_1_3))), (56, .p (.s (.bool ((decide (t120_2 > (IntKind.i64.wrap ((a2.length : Int) + (a3.length : Int)))))))))], [(5, .box 26 [.p (.s (.int .u64 a0.Class.a0)), .p (.s (.int .u64 a0.Class.a1)), .p (.s (.int .u64 a0.Class.a2)), .p (.s (.int .u64 a0.Class.a3)), .p (.s (.int .i64 a0.Least))]), (6, .box 28 [.p (.s (.int .i64 a1.Age))]), (64, rowV 3 (eI .i64) x87_1_1), (75, rowV 3 (eI .i64) x87_1_2)], ⟨[], false⟩, []⟩ (And.intro (Bl b121_2) (trivial)) (by kernel_rfl) (hk ((decide (t120_2 > (IntKind.i64.wrap ((a2.length : Int) + (a3.length : Int)))))) (by first | (rw [b121_2]; rfl) | simp [b121_2]))
        rcases if_or h with ⟨c122, h⟩ | ⟨c122, h⟩
        · refine WC.condT c122 (by kernel_rfl) ?_
          refine WX.exit ?_
          refine WX.popCodeExit ?_
          refine WX.popBlkHit ?_
          refine WC.reg (n := 135) (by assumption) [] [2, 3, 4, 5, 6, 11, 12, 40, 41, 42] [5, 6, 64, 75] ⟨[(2, .p (slV (eI .u8) a2)), (3, .p (slV (eI .u8) a3)), (4, .p (slV (eI .i64) a4)), (5, .ptr 5 0), (6, .ptr 6 0), (11, .own 64), (12, .own 75), (40, .p (slV (eI .i64) a4)), (41, .p (.s (.int .i64 ((a4.length : Int))))), (42, .p (.s (.int .i64 ((IntKind.i64.wrap (x87_1_3 + 1))))))], [(5, .box 26 [.p (.s (.int .u64 a0.Class.a0)), .p (.s (.int .u64 a0.Class.a1)), .p (.s (.int .u64 a0.Class.a2)), .p (.s (.int .u64 a0.Class.a3)), .p (.s (.int .i64 a0.Least))]), (6, .box 28 [.p (.s (.int .i64 a1.Age))]), (64, rowV 3 (eI .i64) x87_1_1), (75, rowV 3 (eI .i64) x87_1_2)], ⟨[], false⟩, []⟩ trivial (by kernel_rfl) ?_
          exact WC.next [2, 3, 4, 5, 6, 11, 12, 40, 41, 42] [5, 6, 64, 75] (by kernel_rfl) (hnext87 (x87_1_1, x87_1_2, (IntKind.i64.wrap (x87_1_3 + 1))) h)
        · refine WC.condF c122 (by kernel_rfl) ?_
          refine WX.skip ?_
          refine WX.seq ?_
          refine WX.seq ?_
          refine WC.reg (n := 135) (by assumption) [] [2, 3, 4, 5, 6, 11, 12, 14, 40, 41, 42, 60] [5, 6, 64, 75] ⟨[(2, .p (slV (eI .u8) a2)), (3, .p (slV (eI .u8) a3)), (4, .p (slV (eI .i64) a4)), (5, .ptr 5 0), (6, .ptr 6 0), (11, .own 64), (12, .own 75), (14, .p (.s (.int .i64 t120_2))), (40, .p (slV (eI .i64) a4)), (41, .p (.s (.int .i64 ((a4.length : Int))))), (42, .p (.s (.int .i64 x87_1_3))), (60, .p (.s (.bool ((decide (t120_2 ≤ (a2.length : Int)))))))], [(5, .box 26 [.p (.s (.int .u64 a0.Class.a0)), .p (.s (.int .u64 a0.Class.a1)), .p (.s (.int .u64 a0.Class.a2)), .p (.s (.int .u64 a0.Class.a3)), .p (.s (.int .i64 a0.Least))]), (6, .box 28 [.p (.s (.int .i64 a1.Age))]), (64, rowV 3 (eI .i64) x87_1_1), (75, rowV 3 (eI .i64) x87_1_2)], ⟨[], false⟩, []⟩ trivial (by kernel_rfl) ?_
          obtain ⟨J125, eJ125, h⟩ := jn_some h
          try dsimp only at h
          refine WC.join (α := List Int) (fun v125 => ⟨[(2, .p (slV (eI .u8) a2)), (3, .p (slV (eI .u8) a3)), (4, .p (slV (eI .i64) a4)), (5, .ptr 5 0), (6, .ptr 6 0), (11, .own 64), (12, .own 75), (14, .p (.s (.int .i64 t120_2))), (40, .p (slV (eI .i64) a4)), (41, .p (.s (.int .i64 ((a4.length : Int))))), (42, .p (.s (.int .i64 x87_1_3)))], [(5, .box 26 [.p (.s (.int .u64 a0.Class.a0)), .p (.s (.int .u64 a0.Class.a1)), .p (.s (.int .u64 a0.Class.a2)), .p (.s (.int .u64 a0.Class.a3)), .p (.s (.int .i64 a0.Least))]), (6, .box 28 [.p (.s (.int .i64 a1.Age))]), (64, rowV 3 (eI .i64) v125), (75, rowV 3 (eI .i64) x87_1_2)], ⟨[], false⟩, []⟩) (fun v125 => J125 v125 = some r) ?_ (fun hJ125 => ?_)
          · rintro y125_1 h
            rw [eJ125] at h
            try dsimp only at h
            refine WX.seq ?_
            refine WC.reg (n := 135) (by assumption) [] [2, 3, 4, 5, 6, 11, 12, 14, 40, 41, 42, 68] [5, 6, 64, 75] ⟨[(2, .p (slV (eI .u8) a2)), (3, .p (slV (eI .u8) a3)), (4, .p (slV (eI .i64) a4)), (5, .ptr 5 0), (6, .ptr 6 0), (11, .own 64), (12, .own 75), (14, .p (.s (.int .i64 t120_2))), (40, .p (slV (eI .i64) a4)), (41, .p (.s (.int .i64 ((a4.length : Int))))), (42, .p (.s (.int .i64 x87_1_3))), (68, .p (.s (.bool ((decide (t120_2 ≥ (a2.length : Int)))))))], [(5, .box 26 [.p (.s (.int .u64 a0.Class.a0)), .p (.s (.int .u64 a0.Class.a1)), .p (.s (.int .u64 a0.Class.a2)), .p (.s (.int .u64 a0.Class.a3)), .p (.s (.int .i64 a0.Least))]), (6, .box 28 [.p (.s (.int .i64 a1.Age))]), (64, rowV 3 (eI .i64) y125_1), (75, rowV 3 (eI .i64) x87_1_2)], ⟨[], false⟩, []⟩ trivial (by kernel_rfl) ?_
            rcases if_or h with ⟨c129, h⟩ | ⟨c129, h⟩
            · refine WC.condT c129 (by kernel_rfl) ?_
              obtain ⟨c130_1, h⟩ := if_some h
              refine WC.reg (n := 135) (by assumption) [(6, .app (some 75) (rowV 3 (eI .i64) (x87_1_2 ++ ([(IntKind.i64.wrap (t120_2 - (a2.length : Int)))]))))] [2, 3, 4, 5, 6, 11, 12, 40, 41, 42] [5, 6, 64, 75] ⟨[(2, .p (slV (eI .u8) a2)), (3, .p (slV (eI .u8) a3)), (4, .p (slV (eI .i64) a4)), (5, .ptr 5 0), (6, .ptr 6 0), (11, .own 64), (12, .own 75), (40, .p (slV (eI .i64) a4)), (41, .p (.s (.int .i64 ((a4.length : Int))))), (42, .p (.s (.int .i64 x87_1_3)))], [(5, .box 26 [.p (.s (.int .u64 a0.Class.a0)), .p (.s (.int .u64 a0.Class.a1)), .p (.s (.int .u64 a0.Class.a2)), .p (.s (.int .u64 a0.Class.a3)), .p (.s (.int .i64 a0.Least))]), (6, .box 28 [.p (.s (.int .i64 a1.Age))]), (64, rowV 3 (eI .i64) y125_1), (75, rowV 3 (eI .i64) (x87_1_2 ++ ([(IntKind.i64.wrap (t120_2 - (a2.length : Int)))])))], ⟨[], false⟩, []⟩ (And.intro (Ap (eI .i64) (some 75) 3 8 1 x87_1_2 ([(IntKind.i64.wrap (t120_2 - (a2.length : Int)))]) c130_1) (trivial)) (by kernel_rfl) ?_
              refine WX.popBlk ?_
              refine WC.reg (n := 135) (by assumption) [] [2, 3, 4, 5, 6, 11, 12, 40, 41, 42] [5, 6, 64, 75] ⟨[(2, .p (slV (eI .u8) a2)), (3, .p (slV (eI .u8) a3)), (4, .p (slV (eI .i64) a4)), (5, .ptr 5 0), (6, .ptr 6 0), (11, .own 64), (12, .own 75), (40, .p (slV (eI .i64) a4)), (41, .p (.s (.int .i64 ((a4.length : Int))))), (42, .p (.s (.int .i64 ((IntKind.i64.wrap (x87_1_3 + 1))))))], [(5, .box 26 [.p (.s (.int .u64 a0.Class.a0)), .p (.s (.int .u64 a0.Class.a1)), .p (.s (.int .u64 a0.Class.a2)), .p (.s (.int .u64 a0.Class.a3)), .p (.s (.int .i64 a0.Least))]), (6, .box 28 [.p (.s (.int .i64 a1.Age))]), (64, rowV 3 (eI .i64) y125_1), (75, rowV 3 (eI .i64) (x87_1_2 ++ ([(IntKind.i64.wrap (t120_2 - (a2.length : Int)))])))], ⟨[], false⟩, []⟩ trivial (by kernel_rfl) ?_
              exact WC.next [2, 3, 4, 5, 6, 11, 12, 40, 41, 42] [5, 6, 64, 75] (by kernel_rfl) (hnext87 (y125_1, x87_1_2 ++ ([(IntKind.i64.wrap (t120_2 - (a2.length : Int)))]), (IntKind.i64.wrap (x87_1_3 + 1))) h)
            · refine WC.condF c129 (by kernel_rfl) ?_
              refine WX.skip ?_
              refine WX.popBlk ?_
              refine WC.reg (n := 135) (by assumption) [] [2, 3, 4, 5, 6, 11, 12, 40, 41, 42] [5, 6, 64, 75] ⟨[(2, .p (slV (eI .u8) a2)), (3, .p (slV (eI .u8) a3)), (4, .p (slV (eI .i64) a4)), (5, .ptr 5 0), (6, .ptr 6 0), (11, .own 64), (12, .own 75), (40, .p (slV (eI .i64) a4)), (41, .p (.s (.int .i64 ((a4.length : Int))))), (42, .p (.s (.int .i64 ((IntKind.i64.wrap (x87_1_3 + 1))))))], [(5, .box 26 [.p (.s (.int .u64 a0.Class.a0)), .p (.s (.int .u64 a0.Class.a1)), .p (.s (.int .u64 a0.Class.a2)), .p (.s (.int .u64 a0.Class.a3)), .p (.s (.int .i64 a0.Least))]), (6, .box 28 [.p (.s (.int .i64 a1.Age))]), (64, rowV 3 (eI .i64) y125_1), (75, rowV 3 (eI .i64) x87_1_2)], ⟨[], false⟩, []⟩ trivial (by kernel_rfl) ?_
              exact WC.next [2, 3, 4, 5, 6, 11, 12, 40, 41, 42] [5, 6, 64, 75] (by kernel_rfl) (hnext87 (y125_1, x87_1_2, (IntKind.i64.wrap (x87_1_3 + 1))) h)
          · replace hJ125 := fun y125_1 => hJ125 y125_1
            rcases if_or h with ⟨c133, h⟩ | ⟨c133, h⟩
            · refine WC.condT c133 (by kernel_rfl) ?_
              obtain ⟨c134_1, h⟩ := if_some h
              refine WC.reg (n := 135) (by assumption) [(3, .app (some 64) (rowV 3 (eI .i64) (x87_1_1 ++ ([t120_2]))))] [2, 3, 4, 5, 6, 11, 12, 14, 40, 41, 42] [5, 6, 64, 75] ⟨[(2, .p (slV (eI .u8) a2)), (3, .p (slV (eI .u8) a3)), (4, .p (slV (eI .i64) a4)), (5, .ptr 5 0), (6, .ptr 6 0), (11, .own 64), (12, .own 75), (14, .p (.s (.int .i64 t120_2))), (40, .p (slV (eI .i64) a4)), (41, .p (.s (.int .i64 ((a4.length : Int))))), (42, .p (.s (.int .i64 x87_1_3)))], [(5, .box 26 [.p (.s (.int .u64 a0.Class.a0)), .p (.s (.int .u64 a0.Class.a1)), .p (.s (.int .u64 a0.Class.a2)), .p (.s (.int .u64 a0.Class.a3)), .p (.s (.int .i64 a0.Least))]), (6, .box 28 [.p (.s (.int .i64 a1.Age))]), (64, rowV 3 (eI .i64) (x87_1_1 ++ ([t120_2]))), (75, rowV 3 (eI .i64) x87_1_2)], ⟨[], false⟩, []⟩ (And.intro (Ap (eI .i64) (some 64) 3 8 1 x87_1_1 ([t120_2]) c134_1) (trivial)) (by kernel_rfl) ?_
              exact WC.keep [2, 3, 4, 5, 6, 11, 12, 14, 40, 41, 42] [5, 6, 64, 75] (by kernel_rfl) (hJ125 (x87_1_1 ++ ([t120_2])) h)
            · refine WC.condF c133 (by kernel_rfl) ?_
              refine WX.skip ?_
              exact WC.keep [2, 3, 4, 5, 6, 11, 12, 14, 40, 41, 42] [5, 6, 64, 75] (by kernel_rfl) (hJ125 x87_1_1 h)
      · refine WC.condF c119 (by kernel_rfl) ?_
        refine WX.exit ?_
        refine WX.popCodeExit ?_
        refine WC.exit_nil (hexit87 _ _ (by simp) ?_)
        refine WX.popBlkHit ?_
        exact WC.keep [2, 3, 4, 5, 6, 11, 12] [5, 6, 64, 75] (by kernel_rfl) (hJ7 x87_1_1 x87_1_2 h)
end Go.Proofs.Ytombondekjflaaa
