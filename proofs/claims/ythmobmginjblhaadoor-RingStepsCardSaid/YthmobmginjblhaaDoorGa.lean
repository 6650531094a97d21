/- YthmobmginjblhaaDoorGa: a part of the proof; see the last text for what is proved. -/
import Derived.Test.YthmobmginjblhaaDoorAaIter
import Derived.Test.YthmobmginjblhaaDoorProg
import Derived.KernelRfl
set_option maxRecDepth 100000
set_option linter.unusedVariables false
set_option linter.unusedSimpArgs false
namespace Go.Proofs.YthmobmginjblhaaDoor
open Go.AE
def tab0 : List Int := [0, 1, 56, 2, 57, 49, 28, 3, 61, 58, 42, 50, 38, 29, 17, 4, 62, 47, 59, 36, 45, 43, 51, 22, 53, 39, 33, 30, 24, 18, 12, 5, 63, 55, 48, 27, 60, 41, 37, 16, 46, 35, 44, 21, 52, 32, 23, 11, 54, 26, 40, 15, 34, 20, 31, 10, 25, 14, 19, 9, 13, 8, 7, 6]
structure S7 where
  x : Int
  y : Int
  signed : Bool
  code : Int
def e_S7 : Enc S7 := ⟨fun x => [.s (.int .i64 x.x), .s (.int .i64 x.y), .s (.bool x.signed), .s (.int .u8 x.code)], 4, fun _ => rfl, by decide⟩
structure runtime_boundsError where
  x : Int
  y : Int
  signed : Bool
  code : Int
def e_runtime_boundsError : Enc runtime_boundsError := ⟨fun x => [.s (.int .i64 x.x), .s (.int .i64 x.y), .s (.bool x.signed), .s (.int .u8 x.code)], 4, fun _ => rfl, by decide⟩
structure S13 where
  msg : ByteArray
  addr : Int
def e_S13 : Enc S13 := ⟨fun x => [.s (.string x.msg), .s (.int .u64 x.addr)], 2, fun _ => rfl, by decide⟩
structure runtime_errorAddressString where
  msg : ByteArray
  addr : Int
def e_runtime_errorAddressString : Enc runtime_errorAddressString := ⟨fun x => [.s (.string x.msg), .s (.int .u64 x.addr)], 2, fun _ => rfl, by decide⟩
structure S25 where
  Class : (Arr4 Int)
  Least : Int
  Most : Int
def e_S25 : Enc S25 := ⟨fun x => [.s (.int .u64 x.Class.a0), .s (.int .u64 x.Class.a1), .s (.int .u64 x.Class.a2), .s (.int .u64 x.Class.a3), .s (.int .i64 x.Least), .s (.int .i64 x.Most)], 6, fun _ => rfl, by decide⟩
structure api_Ring where
  Class : (Arr4 Int)
  Least : Int
  Most : Int
def e_api_Ring : Enc api_Ring := ⟨fun x => [.s (.int .u64 x.Class.a0), .s (.int .u64 x.Class.a1), .s (.int .u64 x.Class.a2), .s (.int .u64 x.Class.a3), .s (.int .i64 x.Least), .s (.int .i64 x.Most)], 6, fun _ => rfl, by decide⟩
structure S38 where
  N : Int
  Words : (List Int)
def e_S38 : Enc S38 := ⟨fun x => [.s (.int .i64 x.N), slV (eI .u64) x.Words], 2, fun _ => rfl, by decide⟩
structure api_Bits where
  N : Int
  Words : (List Int)
def e_api_Bits : Enc api_Bits := ⟨fun x => [.s (.int .i64 x.N), slV (eI .u64) x.Words], 2, fun _ => rfl, by decide⟩
def slices_Equal_int_int_l0 (a0 : (List Int)) (a1 : (List Int)) (J6 : Unit → Option (Bool)) : Nat → Int → Option (Bool)
  | 0, _ => none
  | k + 1, x23_1_1 => (if (decide (x23_1_1 < (a0.length : Int))) = true then (at_ a0 x23_1_1).bind fun t41_2 => (at_ a1 x23_1_1).bind fun t41_4 => (if (t41_2 != t41_4) = true then some false else slices_Equal_int_int_l0 a0 a1 J6 k ((IntKind.i64.wrap (x23_1_1 + 1)))) else J6 ())
def slices_Equal_int_int (k : Nat) (a0 : (List Int)) (a1 : (List Int)) : Option (Bool) :=
  (if ((a0.length : Int) != (a1.length : Int)) = true then some false else jn (fun (v6 : Unit) => some true) fun J6 => slices_Equal_int_int_l0 a0 a1 J6 k 0)
theorem slices_Equal_int_int_ok {k : Nat} {a0 : (List Int)} {a1 : (List Int)} {r : Bool} (h : slices_Equal_int_int k a0 a1 = some r) : Ans Tryd.prog 8 [slV (eI .i64) a0, slV (eI .i64) a1] (.s (.bool r)) := by
  refine W_fn Tryd.func8 rfl (by kernel_rfl) (by kernel_rfl) ?_
  intro X hro hn
  unfold slices_Equal_int_int at h
  refine WX.seq ?_
  refine WC.reg (n := 26) (by assumption) [] [0, 1] [] ⟨[(0, .p (slV (eI .i64) a0)), (1, .p (slV (eI .i64) a1))], [], ⟨[], false⟩, []⟩ trivial (by kernel_rfl) ?_
  refine WX.seq ?_
  refine WX.seq ?_
  refine WC.reg (n := 26) (by assumption) [] [0, 1, 10] [] ⟨[(0, .p (slV (eI .i64) a0)), (1, .p (slV (eI .i64) a1)), (10, .p (.s (.bool (((a0.length : Int) != (a1.length : Int))))))], [], ⟨[], false⟩, []⟩ trivial (by kernel_rfl) ?_
  rcases if_or h with ⟨c3, h⟩ | ⟨c3, h⟩
  · refine WC.condT c3 (by kernel_rfl) ?_
    refine WX.seq ?_
    refine WC.reg (n := 26) (by assumption) [] [4] [] ⟨[(4, .p (.s (.bool false)))], [], ⟨[], false⟩, []⟩ trivial (by kernel_rfl) ?_
    refine WX.ret ?_
    exact WC.outP (by rw [← Option.some.inj h]; kernel_rfl)
  · refine WC.condF c3 (by kernel_rfl) ?_
    refine WX.skip ?_
    refine WX.seq ?_
    refine WX.seq ?_
    refine WC.reg (n := 26) (by assumption) [] [0, 1, 12, 13] [] ⟨[(0, .p (slV (eI .i64) a0)), (1, .p (slV (eI .i64) a1)), (12, .p (.s (.int .i64 ((a0.length : Int))))), (13, .p (.s (.int .i64 0)))], [], ⟨[], false⟩, []⟩ trivial (by kernel_rfl) ?_
    obtain ⟨J6, eJ6, h⟩ := jn_some h
    try dsimp only at h
    refine WC.join (α := Unit) (fun v6 => ⟨[], [], ⟨[], false⟩, []⟩) (fun v6 => J6 v6 = some r) ?_ (fun hJ6 => ?_)
    · rintro _ h
      rw [eJ6] at h
      try dsimp only at h
      refine WX.seq ?_
      refine WC.reg (n := 26) (by assumption) [] [4] [] ⟨[(4, .p (.s (.bool true)))], [], ⟨[], false⟩, []⟩ trivial (by kernel_rfl) ?_
      refine WX.ret ?_
      exact WC.outP (by rw [← Option.some.inj h]; kernel_rfl)
    · skip
      refine WX.block ?_
      refine WC.loop (V := Int) (slices_Equal_int_int_l0 a0 a1 J6) r (fun v23 => ⟨[(0, .p (slV (eI .i64) a0)), (1, .p (slV (eI .i64) a1)), (12, .p (.s (.int .i64 ((a0.length : Int))))), (13, .p (.s (.int .i64 v23)))], [], ⟨[], false⟩, []⟩) _ 0 h (fun _ => rfl) [0, 1, 12, 13] [] (by kernel_rfl) ?_
      clear h; rintro k x23_1_1 h K23 hnext23 hexit23
      rw [slices_Equal_int_int_l0] at h
      refine WX.seq ?_
      refine WC.reg (n := 26) (by assumption) [] [0, 1, 12, 13, 14] [] ⟨[(0, .p (slV (eI .i64) a0)), (1, .p (slV (eI .i64) a1)), (12, .p (.s (.int .i64 ((a0.length : Int))))), (13, .p (.s (.int .i64 x23_1_1))), (14, .p (.s (.bool ((decide (x23_1_1 < (a0.length : Int)))))))], [], ⟨[], false⟩, []⟩ trivial (by kernel_rfl) ?_
      refine WX.seq ?_
      rcases if_or h with ⟨c39, h⟩ | ⟨c39, h⟩
      · refine WC.condT c39 (by kernel_rfl) ?_
        refine WX.skip ?_
        refine WX.seq ?_
        refine WX.block ?_
        refine WX.seq ?_
        refine WC.reg (n := 26) (by assumption) [] [0, 1, 5, 12, 13] [] ⟨[(0, .p (slV (eI .i64) a0)), (1, .p (slV (eI .i64) a1)), (5, .p (.s (.int .i64 x23_1_1))), (12, .p (.s (.int .i64 ((a0.length : Int))))), (13, .p (.s (.int .i64 x23_1_1)))], [], ⟨[], false⟩, []⟩ trivial (by kernel_rfl) ?_
        refine WX.seq ?_
        obtain ⟨t41_2, h41_1, h⟩ := bind_some h
        obtain ⟨t41_4, h41_3, h⟩ := bind_some h
        refine WC.drw (n := 26) (by assumption) [] [] [(2, .val (.p (.rop ((eI .i64).cells t41_2 ++ encL (eI .i64) (a0.drop (x23_1_1.toNat + 1)))))), (6, .val (.p (.rop ((eI .i64).cells t41_4 ++ encL (eI .i64) (a1.drop (x23_1_1.toNat + 1))))))] [0, 1, 12, 13, 24] [] ⟨[(0, .p (slV (eI .i64) a0)), (1, .p (slV (eI .i64) a1)), (12, .p (.s (.int .i64 ((a0.length : Int))))), (13, .p (.s (.int .i64 x23_1_1))), (24, .p (.s (.bool ((t41_2 != t41_4)))))], [], ⟨[], false⟩, []⟩ (And.intro (Ix (eI .i64) h41_1) (And.intro (Ix (eI .i64) h41_3) (trivial))) (by kernel_rfl) (by kernel_rfl) (by kernel_rfl) (by kernel_rfl) ?_
        rcases if_or h with ⟨c42, h⟩ | ⟨c42, h⟩
        · refine WC.condT c42 (by kernel_rfl) ?_
          refine WX.seq ?_
          refine WC.reg (n := 26) (by assumption) [] [4] [] ⟨[(4, .p (.s (.bool false)))], [], ⟨[], false⟩, []⟩ trivial (by kernel_rfl) ?_
          refine WX.ret ?_
          refine WC.ret_all (hexit23 _ _ (by simp) ?_)
          exact WC.outP (by rw [← Option.some.inj h]; kernel_rfl)
        · refine WC.condF c42 (by kernel_rfl) ?_
          refine WX.skip ?_
          refine WX.popBlk ?_
          refine WC.reg (n := 26) (by assumption) [] [0, 1, 12, 13] [] ⟨[(0, .p (slV (eI .i64) a0)), (1, .p (slV (eI .i64) a1)), (12, .p (.s (.int .i64 ((a0.length : Int))))), (13, .p (.s (.int .i64 ((IntKind.i64.wrap (x23_1_1 + 1))))))], [], ⟨[], false⟩, []⟩ trivial (by kernel_rfl) ?_
          exact WC.next [0, 1, 12, 13] [] (by kernel_rfl) (hnext23 ((IntKind.i64.wrap (x23_1_1 + 1))) h)
      · refine WC.condF c39 (by kernel_rfl) ?_
        refine WX.exit ?_
        refine WX.popCodeExit ?_
        refine WC.exit_nil (hexit23 _ _ (by simp) ?_)
        refine WX.popBlkHit ?_
        exact WC.keep [] [] (by kernel_rfl) (hJ6 () h)
def ring_Check (a0 : api_Ring) : Option (Int) :=
  (if (((decide (a0.Most < 1))) || ((((decide (a0.Most > 1000))) || ((((decide (a0.Least < 0))) || ((decide (a0.Least > a0.Most)))))))) = true then some 130 else some 0)
theorem ring_Check_ok {a0 : api_Ring} {r : Int} (h : ring_Check a0 = some r) : Ans Tryd.prog 11 [.agg [.s (.int .u64 a0.Class.a0), .s (.int .u64 a0.Class.a1), .s (.int .u64 a0.Class.a2), .s (.int .u64 a0.Class.a3), .s (.int .i64 a0.Least), .s (.int .i64 a0.Most)]] (.s (.int .i64 r)) := by
  refine W_fn Tryd.func11 rfl (by kernel_rfl) (by kernel_rfl) ?_
  intro X hro hn
  unfold ring_Check at h
  refine WX.seq ?_
  refine WC.reg (n := 23) (by assumption) [] [1] [1] ⟨[(1, .ptr 1 0)], [(1, .box 26 [.p (.s (.int .u64 a0.Class.a0)), .p (.s (.int .u64 a0.Class.a1)), .p (.s (.int .u64 a0.Class.a2)), .p (.s (.int .u64 a0.Class.a3)), .p (.s (.int .i64 a0.Least)), .p (.s (.int .i64 a0.Most))])], ⟨[], false⟩, []⟩ trivial (by kernel_rfl) ?_
  refine WX.seq ?_
  refine WX.seq ?_
  refine WC.via (α := Bool) (fun v2 => ⟨[(22, .p (.s (.bool v2)))], [], ⟨[], false⟩, []⟩) ((((decide (a0.Most < 1))) || ((((decide (a0.Most > 1000))) || ((((decide (a0.Least < 0))) || ((decide (a0.Least > a0.Most))))))))) (fun hk => ?_) ?_
  · rcases Bool.eq_false_or_eq_true ((decide (a0.Most < 1))) with b2_3 | b2_3
    · exact WC.reg (n := 23) (by assumption) [(3, .val (.p (.s (.bool true))))] [22] [] ⟨[(22, .p (.s (.bool true)))], [], ⟨[], false⟩, []⟩ (And.intro (Bl b2_3) (trivial)) (by kernel_rfl) (hk true (by first | (rw [b2_3]; rfl) | simp [b2_3]))
    · rcases Bool.eq_false_or_eq_true ((decide (a0.Most > 1000))) with b2_8 | b2_8
      · exact WC.reg (n := 23) (by assumption) [(3, .val (.p (.s (.bool false)))), (8, .val (.p (.s (.bool true))))] [22] [] ⟨[(22, .p (.s (.bool true)))], [], ⟨[], false⟩, []⟩ (And.intro (Bl b2_3) (And.intro (Bl b2_8) (trivial))) (by kernel_rfl) (hk true (by first | (rw [b2_3, b2_8]; rfl) | simp [b2_3, b2_8]))
      · rcases Bool.eq_false_or_eq_true ((decide (a0.Least < 0))) with b2_13 | b2_13
        · exact WC.reg (n := 23) (by assumption) [(3, .val (.p (.s (.bool false)))), (8, .val (.p (.s (.bool false)))), (13, .val (.p (.s (.bool true))))] [22] [] ⟨[(22, .p (.s (.bool true)))], [], ⟨[], false⟩, []⟩ (And.intro (Bl b2_3) (And.intro (Bl b2_8) (And.intro (Bl b2_13) (trivial)))) (by kernel_rfl) (hk true (by first | (rw [b2_3, b2_8, b2_13]; rfl) | simp [b2_3, b2_8, b2_13]))
        · exact WC.reg (n := 23) (by assumption) [(3, .val (.p (.s (.bool false)))), (8, .val (.p (.s (.bool false)))), (13, .val (.p (.s (.bool false))))] [22] [] ⟨[(22, .p (.s (.bool ((decide (a0.Least > a0.Most))))))], [], ⟨[], false⟩, []⟩ (And.intro (Bl b2_3) (And.intro (Bl b2_8) (And.intro (Bl b2_13) (trivial)))) (by kernel_rfl) (hk ((decide (a0.Least > a0.Most))) (by first | (rw [b2_3, b2_8, b2_13]; rfl) | simp [b2_3, b2_8, b2_13]))
  rcases if_or h with ⟨c3, h⟩ | ⟨c3, h⟩
  · refine WC.condT c3 (by kernel_rfl) ?_
    refine WX.seq ?_
    refine WC.reg (n := 23) (by assumption) [] [2] [] ⟨[(2, .p (.s (.int .i64 130)))], [], ⟨[], false⟩, []⟩ trivial (by kernel_rfl) ?_
    refine WX.ret ?_
    exact WC.outP (by rw [← Option.some.inj h]; kernel_rfl)
  · refine WC.condF c3 (by kernel_rfl) ?_
    refine WX.skip ?_
    refine WX.seq ?_
    refine WC.reg (n := 23) (by assumption) [] [2] [] ⟨[(2, .p (.s (.int .i64 0)))], [], ⟨[], false⟩, []⟩ trivial (by kernel_rfl) ?_
    refine WX.ret ?_
    exact WC.outP (by rw [← Option.some.inj h]; kernel_rfl)
def ring_may (a0 : api_Ring) : Option (api_Ring) :=
  (ring_Check a0).bind fun t2_2 => (if (t2_2 != 0) = true then some ((api_Ring.mk ((Arr4.mk 0 0 0 0)) 0 1)) else some a0)
theorem ring_may_ok {a0 : api_Ring} {r : api_Ring} (h : ring_may a0 = some r) : Ans Tryd.prog 33 [.agg [.s (.int .u64 a0.Class.a0), .s (.int .u64 a0.Class.a1), .s (.int .u64 a0.Class.a2), .s (.int .u64 a0.Class.a3), .s (.int .i64 a0.Least), .s (.int .i64 a0.Most)]] (.agg [.s (.int .u64 r.Class.a0), .s (.int .u64 r.Class.a1), .s (.int .u64 r.Class.a2), .s (.int .u64 r.Class.a3), .s (.int .i64 r.Least), .s (.int .i64 r.Most)]) := by
  refine W_fn Tryd.func33 rfl (by kernel_rfl) (by kernel_rfl) ?_
  intro X hro hn
  unfold ring_may at h
  refine WX.seq ?_
  refine WC.reg (n := 8) (by assumption) [] [1, 2] [1, 2] ⟨[(1, .ptr 1 0), (2, .ptr 2 0)], [(1, .box 26 [.p (.s (.int .u64 a0.Class.a0)), .p (.s (.int .u64 a0.Class.a1)), .p (.s (.int .u64 a0.Class.a2)), .p (.s (.int .u64 a0.Class.a3)), .p (.s (.int .i64 a0.Least)), .p (.s (.int .i64 a0.Most))]), (2, .box 26 [.p (.s (.int .u64 0)), .p (.s (.int .u64 0)), .p (.s (.int .u64 0)), .p (.s (.int .u64 0)), .p (.s (.int .i64 0)), .p (.s (.int .i64 0))])], ⟨[], false⟩, []⟩ trivial (by kernel_rfl) ?_
  refine WX.seq ?_
  refine WX.seq ?_
  obtain ⟨t2_2, h2_1, h⟩ := bind_some h
  refine WC.reg (n := 8) (by assumption) [(1, .resP (.s (.int .i64 t2_2)))] [1, 2, 5] [1, 2] ⟨[(1, .ptr 1 0), (2, .ptr 2 0), (5, .p (.s (.bool ((t2_2 != 0)))))], [(1, .box 26 [.p (.s (.int .u64 a0.Class.a0)), .p (.s (.int .u64 a0.Class.a1)), .p (.s (.int .u64 a0.Class.a2)), .p (.s (.int .u64 a0.Class.a3)), .p (.s (.int .i64 a0.Least)), .p (.s (.int .i64 a0.Most))]), (2, .box 26 [.p (.s (.int .u64 0)), .p (.s (.int .u64 0)), .p (.s (.int .u64 0)), .p (.s (.int .u64 0)), .p (.s (.int .i64 0)), .p (.s (.int .i64 0))])], ⟨[], false⟩, []⟩ (And.intro ((ring_Check_ok h2_1)) (trivial)) (by kernel_rfl) ?_
  rcases if_or h with ⟨c3, h⟩ | ⟨c3, h⟩
  · refine WC.condT c3 (by kernel_rfl) ?_
    refine WX.seq ?_
    refine WC.reg (n := 8) (by assumption) [] [2] [2] ⟨[(2, .ptr 2 0)], [(2, .box 26 [.p (.s (.int .u64 0)), .p (.s (.int .u64 0)), .p (.s (.int .u64 0)), .p (.s (.int .u64 0)), .p (.s (.int .i64 0)), .p (.s (.int .i64 1))])], ⟨[], false⟩, []⟩ trivial (by kernel_rfl) ?_
    refine WX.ret ?_
    exact WC.outP (by rw [← Option.some.inj h]; kernel_rfl)
  · refine WC.condF c3 (by kernel_rfl) ?_
    refine WX.skip ?_
    refine WX.seq ?_
    refine WC.reg (n := 8) (by assumption) [] [2] [2] ⟨[(2, .ptr 2 0)], [(2, .box 26 [.p (.s (.int .u64 a0.Class.a0)), .p (.s (.int .u64 a0.Class.a1)), .p (.s (.int .u64 a0.Class.a2)), .p (.s (.int .u64 a0.Class.a3)), .p (.s (.int .i64 a0.Least)), .p (.s (.int .i64 a0.Most))])], ⟨[], false⟩, []⟩ trivial (by kernel_rfl) ?_
    refine WX.ret ?_
    exact WC.outP (by rw [← Option.some.inj h]; kernel_rfl)
def slices_Index_int_int_l0 (a0 : (List Int)) (a1 : Int) (J3 : Unit → Option (Int)) : Nat → Int → Option (Int)
  | 0, _ => none
  | k + 1, x20_1_1 => (if (decide (x20_1_1 < (a0.length : Int))) = true then (at_ a0 x20_1_1).bind fun t38_2 => (if (a1 == t38_2) = true then some x20_1_1 else slices_Index_int_int_l0 a0 a1 J3 k ((IntKind.i64.wrap (x20_1_1 + 1)))) else J3 ())
def slices_Index_int_int (k : Nat) (a0 : (List Int)) (a1 : Int) : Option (Int) :=
  jn (fun (v3 : Unit) => some ((-1))) fun J3 => slices_Index_int_int_l0 a0 a1 J3 k 0
theorem slices_Index_int_int_ok {k : Nat} {a0 : (List Int)} {a1 : Int} {r : Int} (h : slices_Index_int_int k a0 a1 = some r) : Ans Tryd.prog 32 [slV (eI .i64) a0, .s (.int .i64 a1)] (.s (.int .i64 r)) := by
  refine W_fn Tryd.func32 rfl (by kernel_rfl) (by kernel_rfl) ?_
  intro X hro hn
  unfold slices_Index_int_int at h
  refine WX.seq ?_
  refine WC.reg (n := 19) (by assumption) [] [0, 1] [] ⟨[(0, .p (slV (eI .i64) a0)), (1, .p (.s (.int .i64 a1)))], [], ⟨[], false⟩, []⟩ trivial (by kernel_rfl) ?_
  refine WX.seq ?_
  refine WX.seq ?_
  refine WC.reg (n := 19) (by assumption) [] [0, 1, 7, 8] [] ⟨[(0, .p (slV (eI .i64) a0)), (1, .p (.s (.int .i64 a1))), (7, .p (.s (.int .i64 ((a0.length : Int))))), (8, .p (.s (.int .i64 0)))], [], ⟨[], false⟩, []⟩ trivial (by kernel_rfl) ?_
  obtain ⟨J3, eJ3, h⟩ := jn_some h
  try dsimp only at h
  refine WC.join (α := Unit) (fun v3 => ⟨[], [], ⟨[], false⟩, []⟩) (fun v3 => J3 v3 = some r) ?_ (fun hJ3 => ?_)
  · rintro _ h
    rw [eJ3] at h
    try dsimp only at h
    refine WX.seq ?_
    refine WC.reg (n := 19) (by assumption) [] [4] [] ⟨[(4, .p (.s (.int .i64 ((-1)))))], [], ⟨[], false⟩, []⟩ trivial (by kernel_rfl) ?_
    refine WX.ret ?_
    exact WC.outP (by rw [← Option.some.inj h]; kernel_rfl)
  · skip
    refine WX.block ?_
    refine WC.loop (V := Int) (slices_Index_int_int_l0 a0 a1 J3) r (fun v20 => ⟨[(0, .p (slV (eI .i64) a0)), (1, .p (.s (.int .i64 a1))), (7, .p (.s (.int .i64 ((a0.length : Int))))), (8, .p (.s (.int .i64 v20)))], [], ⟨[], false⟩, []⟩) _ 0 h (fun _ => rfl) [0, 1, 7, 8] [] (by kernel_rfl) ?_
    clear h; rintro k x20_1_1 h K20 hnext20 hexit20
    rw [slices_Index_int_int_l0] at h
    refine WX.seq ?_
    refine WC.reg (n := 19) (by assumption) [] [0, 1, 7, 8, 9] [] ⟨[(0, .p (slV (eI .i64) a0)), (1, .p (.s (.int .i64 a1))), (7, .p (.s (.int .i64 ((a0.length : Int))))), (8, .p (.s (.int .i64 x20_1_1))), (9, .p (.s (.bool ((decide (x20_1_1 < (a0.length : Int)))))))], [], ⟨[], false⟩, []⟩ trivial (by kernel_rfl) ?_
    refine WX.seq ?_
    rcases if_or h with ⟨c36, h⟩ | ⟨c36, h⟩
    · refine WC.condT c36 (by kernel_rfl) ?_
      refine WX.skip ?_
      refine WX.seq ?_
      refine WX.block ?_
      refine WX.seq ?_
      refine WC.reg (n := 19) (by assumption) [] [0, 1, 5, 7, 8] [] ⟨[(0, .p (slV (eI .i64) a0)), (1, .p (.s (.int .i64 a1))), (5, .p (.s (.int .i64 x20_1_1))), (7, .p (.s (.int .i64 ((a0.length : Int))))), (8, .p (.s (.int .i64 x20_1_1)))], [], ⟨[], false⟩, []⟩ trivial (by kernel_rfl) ?_
      refine WX.seq ?_
      obtain ⟨t38_2, h38_1, h⟩ := bind_some h
      refine WC.reg (n := 19) (by assumption) [(3, .val (.p (.rop ((eI .i64).cells t38_2 ++ encL (eI .i64) (a0.drop (x20_1_1.toNat + 1))))))] [0, 1, 5, 7, 8, 16] [] ⟨[(0, .p (slV (eI .i64) a0)), (1, .p (.s (.int .i64 a1))), (5, .p (.s (.int .i64 x20_1_1))), (7, .p (.s (.int .i64 ((a0.length : Int))))), (8, .p (.s (.int .i64 x20_1_1))), (16, .p (.s (.bool ((a1 == t38_2)))))], [], ⟨[], false⟩, []⟩ (And.intro (Ix (eI .i64) h38_1) (trivial)) (by kernel_rfl) ?_
      rcases if_or h with ⟨c39, h⟩ | ⟨c39, h⟩
      · refine WC.condT c39 (by kernel_rfl) ?_
        refine WX.seq ?_
        refine WC.reg (n := 19) (by assumption) [] [4] [] ⟨[(4, .p (.s (.int .i64 x20_1_1)))], [], ⟨[], false⟩, []⟩ trivial (by kernel_rfl) ?_
        refine WX.ret ?_
        refine WC.ret_all (hexit20 _ _ (by simp) ?_)
        exact WC.outP (by rw [← Option.some.inj h]; kernel_rfl)
      · refine WC.condF c39 (by kernel_rfl) ?_
        refine WX.skip ?_
        refine WX.popBlk ?_
        refine WC.reg (n := 19) (by assumption) [] [0, 1, 7, 8] [] ⟨[(0, .p (slV (eI .i64) a0)), (1, .p (.s (.int .i64 a1))), (7, .p (.s (.int .i64 ((a0.length : Int))))), (8, .p (.s (.int .i64 ((IntKind.i64.wrap (x20_1_1 + 1))))))], [], ⟨[], false⟩, []⟩ trivial (by kernel_rfl) ?_
        exact WC.next [0, 1, 7, 8] [] (by kernel_rfl) (hnext20 ((IntKind.i64.wrap (x20_1_1 + 1))) h)
    · refine WC.condF c36 (by kernel_rfl) ?_
      refine WX.exit ?_
      refine WX.popCodeExit ?_
      refine WC.exit_nil (hexit20 _ _ (by simp) ?_)
      refine WX.popBlkHit ?_
      exact WC.keep [] [] (by kernel_rfl) (hJ3 () h)
def slices_Contains_int_int (k : Nat) (a0 : (List Int)) (a1 : Int) : Option (Bool) :=
  (slices_Index_int_int k a0 a1).bind fun t2_2 => some ((decide (t2_2 ≥ 0)))
theorem slices_Contains_int_int_ok {k : Nat} {a0 : (List Int)} {a1 : Int} {r : Bool} (h : slices_Contains_int_int k a0 a1 = some r) : Ans Tryd.prog 12 [slV (eI .i64) a0, .s (.int .i64 a1)] (.s (.bool r)) := by
  refine W_fn Tryd.func12 rfl (by kernel_rfl) (by kernel_rfl) ?_
  intro X hro hn
  unfold slices_Contains_int_int at h
  refine WX.seq ?_
  refine WC.reg (n := 9) (by assumption) [] [0, 1] [] ⟨[(0, .p (slV (eI .i64) a0)), (1, .p (.s (.int .i64 a1)))], [], ⟨[], false⟩, []⟩ trivial (by kernel_rfl) ?_
  refine WX.seq ?_
  obtain ⟨t2_2, h2_1, h⟩ := bind_some h
  refine WC.reg (n := 9) (by assumption) [(2, .resP (.s (.int .i64 t2_2)))] [4] [] ⟨[(4, .p (.s (.bool ((decide (t2_2 ≥ 0))))))], [], ⟨[], false⟩, []⟩ (And.intro ((slices_Index_int_int_ok h2_1)) (trivial)) (by kernel_rfl) ?_
  refine WX.ret ?_
  exact WC.outP (by rw [← Option.some.inj h]; kernel_rfl)
def bits_words (a0 : Int) : Option (Int) :=
  some ((IntKind.i64.wrap (((IntKind.i64.wrap (a0 + 63))).tdiv 64)))
theorem bits_words_ok {a0 : Int} {r : Int} (h : bits_words a0 = some r) : Ans Tryd.prog 60 [.s (.int .i64 a0)] (.s (.int .i64 r)) := by
  refine W_fn Tryd.func60 rfl (by kernel_rfl) (by kernel_rfl) ?_
  intro X hro hn
  unfold bits_words at h
  refine WX.seq ?_
  refine WC.reg (n := 6) (by assumption) [] [0] [] ⟨[(0, .p (.s (.int .i64 a0)))], [], ⟨[], false⟩, []⟩ trivial (by kernel_rfl) ?_
  refine WX.seq ?_
  refine WC.reg (n := 6) (by assumption) [] [2] [] ⟨[(2, .p (.s (.int .i64 ((IntKind.i64.wrap (((IntKind.i64.wrap (a0 + 63))).tdiv 64))))))], [], ⟨[], false⟩, []⟩ trivial (by kernel_rfl) ?_
  refine WX.ret ?_
  exact WC.outP (by rw [← Option.some.inj h]; kernel_rfl)
def bits_empty (a0 : Int) : Option (api_Bits) :=
  (bits_words a0).bind fun t2_2 => (if okMake 8 t2_2 then some ((api_Bits.mk a0 (List.replicate t2_2.toNat 0))) else none)
theorem bits_empty_ok {a0 : Int} {r : api_Bits} (h : bits_empty a0 = some r) : AnsO Tryd.prog 56 [] [.p (.s (.int .i64 a0))] [(6, rowV 22 (eI .u64) r.Words)] (.agg [.p (.s (.int .i64 r.N)), .own 6]) := by
  refine W_fnO [6] Tryd.func56 rfl (by kernel_rfl) (by kernel_rfl) (by kernel_rfl) (by kernel_rfl) ?_
  intro X hro hn
  unfold bits_empty at h
  refine WX.seq ?_
  refine WC.reg (n := 8) (by assumption) [] [0, 2] [2] ⟨[(0, .p (.s (.int .i64 a0))), (2, .ptr 2 0)], [(2, .box 39 [.p (.s (.int .i64 0)), .p (.sl .nil 0 [])])], ⟨[], false⟩, []⟩ trivial (by kernel_rfl) ?_
  refine WX.seq ?_
  obtain ⟨t2_2, h2_1, h⟩ := bind_some h
  obtain ⟨c2_3, h⟩ := if_some h
  refine WC.reg (n := 8) (by assumption) [(2, .resP (.s (.int .i64 t2_2))), (3, .ob (rowV 22 (eI .u64) (List.replicate t2_2.toNat 0)))] [2] [2, 6] ⟨[(2, .ptr 2 0)], [(2, .box 39 [.p (.s (.int .i64 a0)), .own 6]), (6, rowV 22 (eI .u64) (List.replicate t2_2.toNat 0))], ⟨[], false⟩, []⟩ (And.intro ((bits_words_ok h2_1)) (And.intro (Mk (eI .u64) [.int .u64 0] 0 22 8 t2_2 rfl rfl c2_3) (trivial))) (by kernel_rfl) ?_
  refine WX.ret ?_
  exact WC.outO (by rw [← Option.some.inj h]; kernel_rfl)
theorem bits_empty_okP {a0 : Int} {r : api_Bits} (h : bits_empty a0 = some r) : Ans Tryd.prog 56 [.s (.int .i64 a0)] (.agg [.s (.int .i64 r.N), slV (eI .u64) r.Words]) := AnsO.ans (args := [.s (.int .i64 a0)]) (bits_empty_ok h) (by kernel_rfl)
def bits_New_l0 (a0 : Int) (a1 : (List Int)) (J7 : List Int → Option (api_Bits × Int)) : Nat → (Int × List Int) → Option (api_Bits × Int)
  | 0, _ => none
  | k + 1, (x26_1_1, x26_1_2) => (if (decide (x26_1_1 < (a1.length : Int))) = true then (at_ a1 x26_1_1).bind fun t45_2 => (if (((decide (t45_2 ≥ 0))) && ((decide (t45_2 < a0)))) = true then (at_ x26_1_2 ((IntKind.i64.wrap (t45_2.tdiv 64)))).bind fun t48_2 => (if ¬ (t45_2.tmod 64) < 0 then bits_New_l0 a0 a1 J7 k ((IntKind.i64.wrap (x26_1_1 + 1)), x26_1_2.set ((IntKind.i64.wrap (t45_2.tdiv 64))).toNat ((bits .or .u64 t48_2 ((IntKind.u64.wrap (1 * 2 ^ (min ((t45_2.tmod 64)).toNat IntKind.u64.bits))))))) else none) else bits_New_l0 a0 a1 J7 k ((IntKind.i64.wrap (x26_1_1 + 1)), x26_1_2)) else J7 x26_1_2)
def bits_New (k : Nat) (a0 : Int) (a1 : (List Int)) : Option (api_Bits × Int) :=
  (if (((decide (a0 < 0))) || ((decide (a0 > 8192)))) = true then some ((api_Bits.mk 0 (([] : List Int))), 1) else (bits_empty a0).bind fun t5_2 => jn (fun (v7 : List Int) => some ((api_Bits.mk t5_2.N v7), 0)) fun J7 => bits_New_l0 a0 a1 J7 k (0, t5_2.Words))
theorem bits_New_ok {k : Nat} {a0 : Int} {a1 : (List Int)} {r : api_Bits × Int} (h : bits_New k a0 a1 = some r) : AnsO Tryd.prog 41 [] [.p (.s (.int .i64 a0)), .p (slV (eI .i64) a1)] [(17, rowV 22 (eI .u64) r.1.Words)] (.tup [.agg [.p (.s (.int .i64 r.1.N)), .own 17], .p (.s (.int .i64 r.2))]) := by
  refine W_fnO [17] Tryd.func41 rfl (by kernel_rfl) (by kernel_rfl) (by kernel_rfl) (by kernel_rfl) ?_
  intro X hro hn
  unfold bits_New at h
  refine WX.seq ?_
  refine WC.reg (n := 44) (by assumption) [] [0, 1, 4] [4] ⟨[(0, .p (.s (.int .i64 a0))), (1, .p (slV (eI .i64) a1)), (4, .ptr 4 0)], [(4, .box 39 [.p (.s (.int .i64 0)), .p (.sl .nil 0 [])])], ⟨[], false⟩, []⟩ trivial (by kernel_rfl) ?_
  refine WX.seq ?_
  refine WX.seq ?_
  refine WC.via (α := Bool) (fun v2 => ⟨[(0, .p (.s (.int .i64 a0))), (1, .p (slV (eI .i64) a1)), (4, .ptr 4 0), (14, .p (.s (.bool v2)))], [(4, .box 39 [.p (.s (.int .i64 0)), .p (.sl .nil 0 [])])], ⟨[], false⟩, []⟩) ((((decide (a0 < 0))) || ((decide (a0 > 8192))))) (fun hk => ?_) ?_
  · rcases Bool.eq_false_or_eq_true ((decide (a0 < 0))) with b2_2 | b2_2
    · exact WC.reg (n := 44) (by assumption) [(2, .val (.p (.s (.bool true))))] [0, 1, 4, 14] [4] ⟨[(0, .p (.s (.int .i64 a0))), (1, .p (slV (eI .i64) a1)), (4, .ptr 4 0), (14, .p (.s (.bool true)))], [(4, .box 39 [.p (.s (.int .i64 0)), .p (.sl .nil 0 [])])], ⟨[], false⟩, []⟩ (And.intro (Bl b2_2) (trivial)) (by kernel_rfl) (hk true (by first | (rw [b2_2]; rfl) | simp [b2_2]))
    · exact WC.reg (n := 44) (by assumption) [(2, .val (.p (.s (.bool false))))] [0, 1, 4, 14] [4] ⟨[(0, .p (.s (.int .i64 a0))), (1, .p (slV (eI .i64) a1)), (4, .ptr 4 0), (14, .p (.s (.bool ((decide (a0 > 8192))))))], [(4, .box 39 [.p (.s (.int .i64 0)), .p (.sl .nil 0 [])])], ⟨[], false⟩, []⟩ (And.intro (Bl b2_2) (trivial)) (by kernel_rfl) (hk ((decide (a0 > 8192))) (by first | (rw [b2_2]; rfl) | simp [b2_2]))
  rcases if_or h with ⟨c3, h⟩ | ⟨c3, h⟩
  · refine WC.condT c3 (by kernel_rfl) ?_
    refine WX.seq ?_
    refine WC.reg (n := 44) (by assumption) [] [4, 5] [4] ⟨[(4, .ptr 4 0), (5, .p (.s (.int .i64 1)))], [(4, .box 39 [.p (.s (.int .i64 0)), .p (.sl .nil 0 [])])], ⟨[], false⟩, []⟩ trivial (by kernel_rfl) ?_
    refine WX.ret ?_
    refine WC.nil (n := 44) (by assumption) [] (some (4, 1)) 17 22 1 (by kernel_rfl) [4, 5] [4, 17] (st' := ⟨[(4, .ptr 4 0), (5, .p (.s (.int .i64 1)))], [(4, .box 39 [.p (.s (.int .i64 0)), .own 17]), (17, rowV 22 (eI .u64) (([] : List Int)))], ⟨[], false⟩, []⟩) (by kernel_rfl) ?_
    exact WC.outO (by rw [← Option.some.inj h]; kernel_rfl)
  · refine WC.condF c3 (by kernel_rfl) ?_
    refine WX.skip ?_
    refine WX.seq ?_
    obtain ⟨t5_2, h5_1, h⟩ := bind_some h
    refine WC.reg (n := 44) (by assumption) [(1, .co [] [] [] [(17, rowV 22 (eI .u64) t5_2.Words)] (.agg [.p (.s (.int .i64 t5_2.N)), .own 17]))] [0, 1, 4, 6] [4, 6, 17] ⟨[(0, .p (.s (.int .i64 a0))), (1, .p (slV (eI .i64) a1)), (4, .ptr 4 0), (6, .ptr 6 0)], [(4, .box 39 [.p (.s (.int .i64 0)), .p (.sl .nil 0 [])]), (6, .box 39 [.p (.s (.int .i64 t5_2.N)), .own 17]), (17, rowV 22 (eI .u64) t5_2.Words)], ⟨[], false⟩, []⟩ (And.intro (And.intro ((bits_empty_ok h5_1).ren 6 17 (by kernel_rfl)) (trivial)) (trivial)) (by kernel_rfl) ?_
    refine WX.seq ?_
    refine WX.seq ?_
    refine WC.reg (n := 44) (by assumption) [] [0, 4, 6, 18, 19, 20] [4, 6, 17] ⟨[(0, .p (.s (.int .i64 a0))), (4, .ptr 4 0), (6, .ptr 6 0), (18, .p (slV (eI .i64) a1)), (19, .p (.s (.int .i64 ((a1.length : Int))))), (20, .p (.s (.int .i64 0)))], [(4, .box 39 [.p (.s (.int .i64 0)), .p (.sl .nil 0 [])]), (6, .box 39 [.p (.s (.int .i64 t5_2.N)), .own 17]), (17, rowV 22 (eI .u64) t5_2.Words)], ⟨[], false⟩, []⟩ trivial (by kernel_rfl) ?_
    obtain ⟨J7, eJ7, h⟩ := jn_some h
    try dsimp only at h
    refine WC.join (α := List Int) (fun v7 => ⟨[(4, .ptr 4 0), (6, .ptr 6 0)], [(4, .box 39 [.p (.s (.int .i64 0)), .p (.sl .nil 0 [])]), (6, .box 39 [.p (.s (.int .i64 t5_2.N)), .own 17]), (17, rowV 22 (eI .u64) v7)], ⟨[], false⟩, []⟩) (fun v7 => J7 v7 = some r) ?_ (fun hJ7 => ?_)
    · rintro y7_1 h
      rw [eJ7] at h
      try dsimp only at h
      refine WX.seq ?_
      refine WC.reg (n := 44) (by assumption) [] [4, 5] [4, 17] ⟨[(4, .ptr 4 0), (5, .p (.s (.int .i64 0)))], [(4, .box 39 [.p (.s (.int .i64 t5_2.N)), .own 17]), (17, rowV 22 (eI .u64) y7_1)], ⟨[], false⟩, []⟩ trivial (by kernel_rfl) ?_
      refine WX.ret ?_
      exact WC.outO (by rw [← Option.some.inj h]; kernel_rfl)
    · replace hJ7 := fun y7_1 => hJ7 y7_1
      refine WX.block ?_
      refine WC.loop (V := Int × List Int) (bits_New_l0 a0 a1 J7) r (fun v26 => ⟨[(0, .p (.s (.int .i64 a0))), (4, .ptr 4 0), (6, .ptr 6 0), (18, .p (slV (eI .i64) a1)), (19, .p (.s (.int .i64 ((a1.length : Int))))), (20, .p (.s (.int .i64 v26.1)))], [(4, .box 39 [.p (.s (.int .i64 0)), .p (.sl .nil 0 [])]), (6, .box 39 [.p (.s (.int .i64 t5_2.N)), .own 17]), (17, rowV 22 (eI .u64) v26.2)], ⟨[], false⟩, []⟩) _ (0, t5_2.Words) h (fun _ => rfl) [0, 4, 6, 18, 19, 20] [4, 6, 17] (by kernel_rfl) ?_
      clear h; rintro k ⟨x26_1_1, x26_1_2⟩ h K26 hnext26 hexit26
      rw [bits_New_l0] at h
      refine WX.seq ?_
      refine WC.reg (n := 44) (by assumption) [] [0, 4, 6, 18, 19, 20, 21] [4, 6, 17] ⟨[(0, .p (.s (.int .i64 a0))), (4, .ptr 4 0), (6, .ptr 6 0), (18, .p (slV (eI .i64) a1)), (19, .p (.s (.int .i64 ((a1.length : Int))))), (20, .p (.s (.int .i64 x26_1_1))), (21, .p (.s (.bool ((decide (x26_1_1 < (a1.length : Int)))))))], [(4, .box 39 [.p (.s (.int .i64 0)), .p (.sl .nil 0 [])]), (6, .box 39 [.p (.s (.int .i64 t5_2.N)), .own 17]), (17, rowV 22 (eI .u64) x26_1_2)], ⟨[], false⟩, []⟩ trivial (by kernel_rfl) ?_
      refine WX.seq ?_
      rcases if_or h with ⟨c44, h⟩ | ⟨c44, h⟩
      · refine WC.condT c44 (by kernel_rfl) ?_
        refine WX.skip ?_
        refine WX.seq ?_
        refine WX.block ?_
        refine WX.seq ?_
        obtain ⟨t45_2, h45_1, h⟩ := bind_some h
        refine WC.reg (n := 44) (by assumption) [(0, .val (.p (.rop ((eI .i64).cells t45_2 ++ encL (eI .i64) (a1.drop (x26_1_1.toNat + 1))))))] [0, 4, 6, 8, 18, 19, 20] [4, 6, 17] ⟨[(0, .p (.s (.int .i64 a0))), (4, .ptr 4 0), (6, .ptr 6 0), (8, .p (.s (.int .i64 t45_2))), (18, .p (slV (eI .i64) a1)), (19, .p (.s (.int .i64 ((a1.length : Int))))), (20, .p (.s (.int .i64 x26_1_1)))], [(4, .box 39 [.p (.s (.int .i64 0)), .p (.sl .nil 0 [])]), (6, .box 39 [.p (.s (.int .i64 t5_2.N)), .own 17]), (17, rowV 22 (eI .u64) x26_1_2)], ⟨[], false⟩, []⟩ (And.intro (Ix (eI .i64) h45_1) (trivial)) (by kernel_rfl) ?_
        refine WX.seq ?_
        refine WC.via (α := Bool) (fun v46 => ⟨[(0, .p (.s (.int .i64 a0))), (4, .ptr 4 0), (6, .ptr 6 0), (8, .p (.s (.int .i64 t45_2))), (18, .p (slV (eI .i64) a1)), (19, .p (.s (.int .i64 ((a1.length : Int))))), (20, .p (.s (.int .i64 x26_1_1))), (30, .p (.s (.bool v46)))], [(4, .box 39 [.p (.s (.int .i64 0)), .p (.sl .nil 0 [])]), (6, .box 39 [.p (.s (.int .i64 t5_2.N)), .own 17]), (17, rowV 22 (eI .u64) x26_1_2)], ⟨[], false⟩, []⟩) ((((decide (t45_2 ≥ 0))) && ((decide (t45_2 < a0))))) (fun hk => ?_) ?_
        · rcases Bool.eq_false_or_eq_true ((decide (t45_2 ≥ 0))) with b46_2 | b46_2
          · exact WC.reg (n := 44) (by assumption) [(2, .val (.p (.s (.bool true))))] [0, 4, 6, 8, 18, 19, 20, 30] [4, 6, 17] ⟨[(0, .p (.s (.int .i64 a0))), (4, .ptr 4 0), (6, .ptr 6 0), (8, .p (.s (.int .i64 t45_2))), (18, .p (slV (eI .i64) a1)), (19, .p (.s (.int .i64 ((a1.length : Int))))), (20, .p (.s (.int .i64 x26_1_1))), (30, .p (.s (.bool ((decide (t45_2 < a0))))))], [(4, .box 39 [.p (.s (.int .i64 0)), .p (.sl .nil 0 [])]), (6, .box 39 [.p (.s (.int .i64 t5_2.N)), .own 17]), (17, rowV 22 (eI .u64) x26_1_2)], ⟨[], false⟩, []⟩ (And.intro (Bl b46_2) (trivial)) (by kernel_rfl) (hk ((decide (t45_2 < a0))) (by first | (rw [b46_2]; rfl) | simp [b46_2]))
          · exact WC.reg (n := 44) (by assumption) [(2, .val (.p (.s (.bool false))))] [0, 4, 6, 8, 18, 19, 20, 30] [4, 6, 17] ⟨[(0, .p (.s (.int .i64 a0))), (4, .ptr 4 0), (6, .ptr 6 0), (8, .p (.s (.int .i64 t45_2))), (18, .p (slV (eI .i64) a1)), (19, .p (.s (.int .i64 ((a1.length : Int))))), (20, .p (.s (.int .i64 x26_1_1))), (30, .p (.s (.bool false)))], [(4, .box 39 [.p (.s (.int .i64 0)), .p (.sl .nil 0 [])]), (6, .box 39 [.p (.s (.int .i64 t5_2.N)), .own 17]), (17, rowV 22 (eI .u64) x26_1_2)], ⟨[], false⟩, []⟩ (And.intro (Bl b46_2) (trivial)) (by kernel_rfl) (hk false (by first | (rw [b46_2]; rfl) | simp [b46_2]))
        rcases if_or h with ⟨c47, h⟩ | ⟨c47, h⟩
        · refine WC.condT c47 (by kernel_rfl) ?_
          obtain ⟨t48_2, h48_1, h⟩ := bind_some h
          obtain ⟨c48_3, h⟩ := if_some h
          refine WC.drw (n := 44) (by assumption) [(11, [])] [] [(4, .val (.ptr 17 (((IntKind.i64.wrap (t45_2.tdiv 64))).toNat * 1))), (5, .val (.p (.s (.int .u64 t48_2)))), (8, .val (.p (.s (.int .u64 (IntKind.u64.wrap (1 * 2 ^ (min ((t45_2.tmod 64)).toNat IntKind.u64.bits))))))), (10, .val (.ptr 17 (((IntKind.i64.wrap (t45_2.tdiv 64))).toNat * 1))), (11, .sto 17 (rowV 22 (eI .u64) (x26_1_2.set ((IntKind.i64.wrap (t45_2.tdiv 64))).toNat ((bits .or .u64 t48_2 ((IntKind.u64.wrap (1 * 2 ^ (min ((t45_2.tmod 64)).toNat IntKind.u64.bits)))))))))] [0, 4, 6, 18, 19, 20] [4, 6, 17] ⟨[(0, .p (.s (.int .i64 a0))), (4, .ptr 4 0), (6, .ptr 6 0), (18, .p (slV (eI .i64) a1)), (19, .p (.s (.int .i64 ((a1.length : Int))))), (20, .p (.s (.int .i64 x26_1_1)))], [(4, .box 39 [.p (.s (.int .i64 0)), .p (.sl .nil 0 [])]), (6, .box 39 [.p (.s (.int .i64 t5_2.N)), .own 17]), (17, rowV 22 (eI .u64) (x26_1_2.set ((IntKind.i64.wrap (t45_2.tdiv 64))).toNat ((bits .or .u64 t48_2 ((IntKind.u64.wrap (1 * 2 ^ (min ((t45_2.tmod 64)).toNat IntKind.u64.bits))))))))], ⟨[], false⟩, []⟩ (And.intro (IxO 17 1 h48_1) (And.intro (LdO0 Tryd.prog (eI .u64) 22 h48_1) (And.intro (Shl .u64 1 ((t45_2.tmod 64)) c48_3) (And.intro (IxO 17 1 h48_1) (And.intro (StO0 (eI .u64) 17 22 1 1 [.s (.int .u64 ((bits .or .u64 t48_2 ((IntKind.u64.wrap (1 * 2 ^ (min ((t45_2.tmod 64)).toNat IntKind.u64.bits)))))))] ((bits .or .u64 t48_2 ((IntKind.u64.wrap (1 * 2 ^ (min ((t45_2.tmod 64)).toNat IntKind.u64.bits)))))) h48_1 rfl rfl (by decide)) (trivial)))))) (by kernel_rfl) (by kernel_rfl) (by kernel_rfl) (by kernel_rfl) ?_
          refine WX.popBlk ?_
          refine WC.reg (n := 44) (by assumption) [] [0, 4, 6, 18, 19, 20] [4, 6, 17] ⟨[(0, .p (.s (.int .i64 a0))), (4, .ptr 4 0), (6, .ptr 6 0), (18, .p (slV (eI .i64) a1)), (19, .p (.s (.int .i64 ((a1.length : Int))))), (20, .p (.s (.int .i64 ((IntKind.i64.wrap (x26_1_1 + 1))))))], [(4, .box 39 [.p (.s (.int .i64 0)), .p (.sl .nil 0 [])]), (6, .box 39 [.p (.s (.int .i64 t5_2.N)), .own 17]), (17, rowV 22 (eI .u64) (x26_1_2.set ((IntKind.i64.wrap (t45_2.tdiv 64))).toNat ((bits .or .u64 t48_2 ((IntKind.u64.wrap (1 * 2 ^ (min ((t45_2.tmod 64)).toNat IntKind.u64.bits))))))))], ⟨[], false⟩, []⟩ trivial (by kernel_rfl) ?_
          exact WC.next [0, 4, 6, 18, 19, 20] [4, 6, 17] (by kernel_rfl) (hnext26 ((IntKind.i64.wrap (x26_1_1 + 1)), x26_1_2.set ((IntKind.i64.wrap (t45_2.tdiv 64))).toNat ((bits .or .u64 t48_2 ((IntKind.u64.wrap (1 * 2 ^ (min ((t45_2.tmod 64)).toNat IntKind.u64.bits))))))) h)
        · refine WC.condF c47 (by kernel_rfl) ?_
          refine WX.skip ?_
          refine WX.popBlk ?_
          refine WC.reg (n := 44) (by assumption) [] [0, 4, 6, 18, 19, 20] [4, 6, 17] ⟨[(0, .p (.s (.int .i64 a0))), (4, .ptr 4 0), (6, .ptr 6 0), (18, .p (slV (eI .i64) a1)), (19, .p (.s (.int .i64 ((a1.length : Int))))), (20, .p (.s (.int .i64 ((IntKind.i64.wrap (x26_1_1 + 1))))))], [(4, .box 39 [.p (.s (.int .i64 0)), .p (.sl .nil 0 [])]), (6, .box 39 [.p (.s (.int .i64 t5_2.N)), .own 17]), (17, rowV 22 (eI .u64) x26_1_2)], ⟨[], false⟩, []⟩ trivial (by kernel_rfl) ?_
          exact WC.next [0, 4, 6, 18, 19, 20] [4, 6, 17] (by kernel_rfl) (hnext26 ((IntKind.i64.wrap (x26_1_1 + 1)), x26_1_2) h)
      · refine WC.condF c44 (by kernel_rfl) ?_
        refine WX.exit ?_
        refine WX.popCodeExit ?_
        refine WC.exit_nil (hexit26 _ _ (by simp) ?_)
        refine WX.popBlkHit ?_
        exact WC.keep [4, 6] [4, 6, 17] (by kernel_rfl) (hJ7 x26_1_2 h)
theorem bits_New_okP {k : Nat} {a0 : Int} {a1 : (List Int)} {r : api_Bits × Int} (h : bits_New k a0 a1 = some r) : Ans Tryd.prog 41 [.s (.int .i64 a0), slV (eI .i64) a1] (.tup [.agg [.s (.int .i64 r.1.N), slV (eI .u64) r.1.Words], .s (.int .i64 r.2)]) := AnsO.ans (args := [.s (.int .i64 a0), slV (eI .i64) a1]) (bits_New_ok h) (by kernel_rfl)
def ring_None (k : Nat) (a0 : api_Ring) : Option (api_Bits) :=
  (ring_may a0).bind fun t2_2 => (bits_New k ((IntKind.i64.wrap (t2_2.Most + 1))) ([])).bind fun t2_4 => some t2_4.1
theorem ring_None_ok {k : Nat} {a0 : api_Ring} {r : api_Bits} (h : ring_None k a0 = some r) : AnsO Tryd.prog 22 [] [.p (.agg [.s (.int .u64 a0.Class.a0), .s (.int .u64 a0.Class.a1), .s (.int .u64 a0.Class.a2), .s (.int .u64 a0.Class.a3), .s (.int .i64 a0.Least), .s (.int .i64 a0.Most)])] [(10, rowV 22 (eI .u64) r.Words)] (.agg [.p (.s (.int .i64 r.N)), .own 10]) := by
  refine W_fnO [10] Tryd.func22 rfl (by kernel_rfl) (by kernel_rfl) (by kernel_rfl) (by kernel_rfl) ?_
  intro X hro hn
  unfold ring_None at h
  refine WX.seq ?_
  refine WC.reg (n := 14) (by assumption) [] [1, 2] [1, 2] ⟨[(1, .ptr 1 0), (2, .ptr 2 0)], [(1, .box 26 [.p (.s (.int .u64 a0.Class.a0)), .p (.s (.int .u64 a0.Class.a1)), .p (.s (.int .u64 a0.Class.a2)), .p (.s (.int .u64 a0.Class.a3)), .p (.s (.int .i64 a0.Least)), .p (.s (.int .i64 a0.Most))]), (2, .box 39 [.p (.s (.int .i64 0)), .p (.sl .nil 0 [])])], ⟨[], false⟩, []⟩ trivial (by kernel_rfl) ?_
  refine WX.seq ?_
  obtain ⟨t2_2, h2_1, h⟩ := bind_some h
  obtain ⟨t2_4, h2_3, h⟩ := bind_some h
  refine WC.reg (n := 14) (by assumption) [(1, .resP (.agg [.s (.int .u64 t2_2.Class.a0), .s (.int .u64 t2_2.Class.a1), .s (.int .u64 t2_2.Class.a2), .s (.int .u64 t2_2.Class.a3), .s (.int .i64 t2_2.Least), .s (.int .i64 t2_2.Most)])), (4, .co [] [] [] [(10, rowV 22 (eI .u64) t2_4.1.Words)] (.tup [.agg [.p (.s (.int .i64 t2_4.1.N)), .own 10], .p (.s (.int .i64 t2_4.2))]))] [2, 3] [2, 3, 10] ⟨[(2, .ptr 2 0), (3, .ptr 3 0)], [(2, .box 39 [.p (.s (.int .i64 0)), .p (.sl .nil 0 [])]), (3, .box 39 [.p (.s (.int .i64 t2_4.1.N)), .own 10]), (10, rowV 22 (eI .u64) t2_4.1.Words)], ⟨[], false⟩, []⟩ (And.intro ((ring_may_ok h2_1)) (And.intro (And.intro ((bits_New_ok h2_3).ren 17 10 (by kernel_rfl)) (trivial)) (trivial))) (by kernel_rfl) ?_
  refine WX.seq ?_
  refine WC.reg (n := 14) (by assumption) [] [2] [2, 10] ⟨[(2, .ptr 2 0)], [(2, .box 39 [.p (.s (.int .i64 t2_4.1.N)), .own 10]), (10, rowV 22 (eI .u64) t2_4.1.Words)], ⟨[], false⟩, []⟩ trivial (by kernel_rfl) ?_
  refine WX.ret ?_
  exact WC.outO (by rw [← Option.some.inj h]; kernel_rfl)
theorem ring_None_okP {k : Nat} {a0 : api_Ring} {r : api_Bits} (h : ring_None k a0 = some r) : Ans Tryd.prog 22 [.agg [.s (.int .u64 a0.Class.a0), .s (.int .u64 a0.Class.a1), .s (.int .u64 a0.Class.a2), .s (.int .u64 a0.Class.a3), .s (.int .i64 a0.Least), .s (.int .i64 a0.Most)]] (.agg [.s (.int .i64 r.N), slV (eI .u64) r.Words]) := AnsO.ans (args := [.agg [.s (.int .u64 a0.Class.a0), .s (.int .u64 a0.Class.a1), .s (.int .u64 a0.Class.a2), .s (.int .u64 a0.Class.a3), .s (.int .i64 a0.Least), .s (.int .i64 a0.Most)]]) (ring_None_ok h) (by kernel_rfl)
def bits_Check (a0 : api_Bits) : Option (Int) :=
  ((if (decide (a0.N < 0)) = true then some true else (if (decide (a0.N > 8192)) = true then some true else (bits_words a0.N).bind fun t2_2 => some (((a0.Words.length : Int) != t2_2)))) : Option (Bool)).bind fun v2 => (if v2 = true then some 10 else ((if (decide ((a0.N.tmod 64) > 0)) = true then (at_ a0.Words ((IntKind.i64.wrap ((a0.Words.length : Int) - 1)))).bind fun t6_2 => (if ¬ (a0.N.tmod 64) < 0 then some (((t6_2.fdiv (2 ^ (min ((a0.N.tmod 64)).toNat IntKind.u64.bits))) != 0)) else none) else some false) : Option (Bool)).bind fun v6 => (if v6 = true then some 10 else some 0))
theorem bits_Check_ok {a0 : api_Bits} {r : Int} (h : bits_Check a0 = some r) : Ans Tryd.prog 52 [.agg [.s (.int .i64 a0.N), slV (eI .u64) a0.Words]] (.s (.int .i64 r)) := by
  refine W_fn Tryd.func52 rfl (by kernel_rfl) (by kernel_rfl) ?_
  intro X hro hn
  unfold bits_Check at h
  refine WX.seq ?_
  refine WC.reg (n := 39) (by assumption) [] [1] [1] ⟨[(1, .ptr 1 0)], [(1, .box 39 [.p (.s (.int .i64 a0.N)), .p (slV (eI .u64) a0.Words)])], ⟨[], false⟩, []⟩ trivial (by kernel_rfl) ?_
  refine WX.seq ?_
  refine WX.seq ?_
  obtain ⟨m2_1, g2, h⟩ := bind_some h
  refine WC.via (α := Bool) (fun v2 => ⟨[(1, .ptr 1 0), (20, .p (.s (.bool v2)))], [(1, .box 39 [.p (.s (.int .i64 a0.N)), .p (slV (eI .u64) a0.Words)])], ⟨[], false⟩, []⟩) m2_1 (fun hk => ?_) ?_
  · rcases if_or g2 with ⟨b2_3, g2⟩ | ⟨b2_3, g2⟩
    · exact WC.drw (n := 39) (by assumption) [] [] [(3, .val (.p (.s (.bool true))))] [1, 20] [1] ⟨[(1, .ptr 1 0), (20, .p (.s (.bool true)))], [(1, .box 39 [.p (.s (.int .i64 a0.N)), .p (slV (eI .u64) a0.Words)])], ⟨[], false⟩, []⟩ (And.intro (Bl b2_3) (trivial)) (by kernel_rfl) (by kernel_rfl) (by kernel_rfl) (by kernel_rfl) (hk true (Option.some.inj g2))
    · rcases if_or g2 with ⟨b2_8, g2⟩ | ⟨b2_8, g2⟩
      · exact WC.drw (n := 39) (by assumption) [] [] [(3, .val (.p (.s (.bool false)))), (8, .val (.p (.s (.bool true))))] [1, 20] [1] ⟨[(1, .ptr 1 0), (20, .p (.s (.bool true)))], [(1, .box 39 [.p (.s (.int .i64 a0.N)), .p (slV (eI .u64) a0.Words)])], ⟨[], false⟩, []⟩ (And.intro (Bl b2_3) (And.intro (Bl b2_8) (trivial))) (by kernel_rfl) (by kernel_rfl) (by kernel_rfl) (by kernel_rfl) (hk true (Option.some.inj g2))
      · obtain ⟨t2_2, h2_1, g2⟩ := bind_some g2
        exact WC.drw (n := 39) (by assumption) [] [] [(3, .val (.p (.s (.bool false)))), (8, .val (.p (.s (.bool false)))), (14, .resP (.s (.int .i64 t2_2)))] [1, 20] [1] ⟨[(1, .ptr 1 0), (20, .p (.s (.bool (((a0.Words.length : Int) != t2_2)))))], [(1, .box 39 [.p (.s (.int .i64 a0.N)), .p (slV (eI .u64) a0.Words)])], ⟨[], false⟩, []⟩ (And.intro (Bl b2_3) (And.intro (Bl b2_8) (And.intro ((bits_words_ok h2_1)) (trivial)))) (by kernel_rfl) (by kernel_rfl) (by kernel_rfl) (by kernel_rfl) (hk (((a0.Words.length : Int) != t2_2)) (Option.some.inj g2))
  rcases if_or h with ⟨c3, h⟩ | ⟨c3, h⟩
  · refine WC.condT c3 (by kernel_rfl) ?_
    refine WX.seq ?_
    refine WC.reg (n := 39) (by assumption) [] [2] [] ⟨[(2, .p (.s (.int .i64 10)))], [], ⟨[], false⟩, []⟩ trivial (by kernel_rfl) ?_
    refine WX.ret ?_
    exact WC.outP (by rw [← Option.some.inj h]; kernel_rfl)
  · refine WC.condF c3 (by kernel_rfl) ?_
    refine WX.skip ?_
    refine WX.seq ?_
    refine WX.seq ?_
    refine WC.reg (n := 39) (by assumption) [] [1, 3] [1] ⟨[(1, .ptr 1 0), (3, .p (.s (.int .i64 ((a0.N.tmod 64)))))], [(1, .box 39 [.p (.s (.int .i64 a0.N)), .p (slV (eI .u64) a0.Words)])], ⟨[], false⟩, []⟩ trivial (by kernel_rfl) ?_
    refine WX.seq ?_
    obtain ⟨m6_1, g6, h⟩ := bind_some h
    refine WC.via (α := Bool) (fun v6 => ⟨[(38, .p (.s (.bool v6)))], [], ⟨[], false⟩, []⟩) m6_1 (fun hk => ?_) ?_
    · rcases if_or g6 with ⟨b6_2, g6⟩ | ⟨b6_2, g6⟩
      · obtain ⟨t6_2, h6_1, g6⟩ := bind_some g6
        obtain ⟨c6_3, g6⟩ := if_some g6
        exact WC.reg (n := 39) (by assumption) [(2, .val (.p (.s (.bool true)))), (9, .val (.p (.rop ((eI .u64).cells t6_2 ++ encL (eI .u64) (a0.Words.drop (((IntKind.i64.wrap ((a0.Words.length : Int) - 1))).toNat + 1)))))), (12, .val (.p (.s (.int .u64 (t6_2.fdiv (2 ^ (min ((a0.N.tmod 64)).toNat IntKind.u64.bits)))))))] [38] [] ⟨[(38, .p (.s (.bool (((t6_2.fdiv (2 ^ (min ((a0.N.tmod 64)).toNat IntKind.u64.bits))) != 0)))))], [], ⟨[], false⟩, []⟩ (And.intro (Bl b6_2) (And.intro (Ix (eI .u64) h6_1) (And.intro (Shr .u64 t6_2 ((a0.N.tmod 64)) c6_3) (trivial)))) (by kernel_rfl) (hk (((t6_2.fdiv (2 ^ (min ((a0.N.tmod 64)).toNat IntKind.u64.bits))) != 0)) (Option.some.inj g6))
      · exact WC.reg (n := 39) (by assumption) [(2, .val (.p (.s (.bool false))))] [38] [] ⟨[(38, .p (.s (.bool false)))], [], ⟨[], false⟩, []⟩ (And.intro (Bl b6_2) (trivial)) (by kernel_rfl) (hk false (Option.some.inj g6))
    rcases if_or h with ⟨c7, h⟩ | ⟨c7, h⟩
    · refine WC.condT c7 (by kernel_rfl) ?_
      refine WX.seq ?_
      refine WC.reg (n := 39) (by assumption) [] [2] [] ⟨[(2, .p (.s (.int .i64 10)))], [], ⟨[], false⟩, []⟩ trivial (by kernel_rfl) ?_
      refine WX.ret ?_
      exact WC.outP (by rw [← Option.some.inj h]; kernel_rfl)
    · refine WC.condF c7 (by kernel_rfl) ?_
      refine WX.skip ?_
      refine WX.seq ?_
      refine WC.reg (n := 39) (by assumption) [] [2] [] ⟨[(2, .p (.s (.int .i64 0)))], [], ⟨[], false⟩, []⟩ trivial (by kernel_rfl) ?_
      refine WX.ret ?_
      exact WC.outP (by rw [← Option.some.inj h]; kernel_rfl)
def ring_state (k : Nat) (a0 : api_Ring) (a1 : api_Bits) : Option (api_Bits) :=
  (bits_Check a1).bind fun t2_2 => (if (((t2_2 != 0)) || ((a1.N != (IntKind.i64.wrap (a0.Most + 1))))) = true then (ring_None k a0).bind fun t4_2 => some t4_2 else some a1)
theorem ring_state_ok {k : Nat} {a0 : api_Ring} {a1 : api_Bits} {r : api_Bits} (h : ring_state k a0 a1 = some r) : Ans Tryd.prog 34 [.agg [.s (.int .u64 a0.Class.a0), .s (.int .u64 a0.Class.a1), .s (.int .u64 a0.Class.a2), .s (.int .u64 a0.Class.a3), .s (.int .i64 a0.Least), .s (.int .i64 a0.Most)], .agg [.s (.int .i64 a1.N), slV (eI .u64) a1.Words]] (.agg [.s (.int .i64 r.N), slV (eI .u64) r.Words]) := by
  refine W_fn Tryd.func34 rfl (by kernel_rfl) (by kernel_rfl) ?_
  intro X hro hn
  unfold ring_state at h
  refine WX.seq ?_
  refine WC.reg (n := 19) (by assumption) [] [2, 3, 4] [2, 3, 4] ⟨[(2, .ptr 2 0), (3, .ptr 3 0), (4, .ptr 4 0)], [(2, .box 26 [.p (.s (.int .u64 a0.Class.a0)), .p (.s (.int .u64 a0.Class.a1)), .p (.s (.int .u64 a0.Class.a2)), .p (.s (.int .u64 a0.Class.a3)), .p (.s (.int .i64 a0.Least)), .p (.s (.int .i64 a0.Most))]), (3, .box 39 [.p (.s (.int .i64 a1.N)), .p (slV (eI .u64) a1.Words)]), (4, .box 39 [.p (.s (.int .i64 0)), .p (.sl .nil 0 [])])], ⟨[], false⟩, []⟩ trivial (by kernel_rfl) ?_
  refine WX.seq ?_
  refine WX.seq ?_
  obtain ⟨t2_2, h2_1, h⟩ := bind_some h
  refine WC.via (α := Bool) (fun v2 => ⟨[(2, .ptr 2 0), (3, .ptr 3 0), (4, .ptr 4 0), (15, .p (.s (.bool v2)))], [(2, .box 26 [.p (.s (.int .u64 a0.Class.a0)), .p (.s (.int .u64 a0.Class.a1)), .p (.s (.int .u64 a0.Class.a2)), .p (.s (.int .u64 a0.Class.a3)), .p (.s (.int .i64 a0.Least)), .p (.s (.int .i64 a0.Most))]), (3, .box 39 [.p (.s (.int .i64 a1.N)), .p (slV (eI .u64) a1.Words)]), (4, .box 39 [.p (.s (.int .i64 0)), .p (.sl .nil 0 [])])], ⟨[], false⟩, []⟩) ((((t2_2 != 0)) || ((a1.N != (IntKind.i64.wrap (a0.Most + 1)))))) (fun hk => ?_) ?_
  · rcases Bool.eq_false_or_eq_true ((t2_2 != 0)) with b2_3 | b2_3
    · exact WC.reg (n := 19) (by assumption) [(1, .resP (.s (.int .i64 t2_2))), (3, .val (.p (.s (.bool true))))] [2, 3, 4, 15] [2, 3, 4] ⟨[(2, .ptr 2 0), (3, .ptr 3 0), (4, .ptr 4 0), (15, .p (.s (.bool true)))], [(2, .box 26 [.p (.s (.int .u64 a0.Class.a0)), .p (.s (.int .u64 a0.Class.a1)), .p (.s (.int .u64 a0.Class.a2)), .p (.s (.int .u64 a0.Class.a3)), .p (.s (.int .i64 a0.Least)), .p (.s (.int .i64 a0.Most))]), (3, .box 39 [.p (.s (.int .i64 a1.N)), .p (slV (eI .u64) a1.Words)]), (4, .box 39 [.p (.s (.int .i64 0)), .p (.sl .nil 0 [])])], ⟨[], false⟩, []⟩ (And.intro ((bits_Check_ok h2_1)) (And.intro (Bl b2_3) (trivial))) (by kernel_rfl) (hk true (by first | (rw [b2_3]; rfl) | simp [b2_3]))
    · exact WC.reg (n := 19) (by assumption) [(1, .resP (.s (.int .i64 t2_2))), (3, .val (.p (.s (.bool false))))] [2, 3, 4, 15] [2, 3, 4] ⟨[(2, .ptr 2 0), (3, .ptr 3 0), (4, .ptr 4 0), (15, .p (.s (.bool ((a1.N != (IntKind.i64.wrap (a0.Most + 1)))))))], [(2, .box 26 [.p (.s (.int .u64 a0.Class.a0)), .p (.s (.int .u64 a0.Class.a1)), .p (.s (.int .u64 a0.Class.a2)), .p (.s (.int .u64 a0.Class.a3)), .p (.s (.int .i64 a0.Least)), .p (.s (.int .i64 a0.Most))]), (3, .box 39 [.p (.s (.int .i64 a1.N)), .p (slV (eI .u64) a1.Words)]), (4, .box 39 [.p (.s (.int .i64 0)), .p (.sl .nil 0 [])])], ⟨[], false⟩, []⟩ (And.intro ((bits_Check_ok h2_1)) (And.intro (Bl b2_3) (trivial))) (by kernel_rfl) (hk ((a1.N != (IntKind.i64.wrap (a0.Most + 1)))) (by first | (rw [b2_3]; rfl) | simp [b2_3]))
  rcases if_or h with ⟨c3, h⟩ | ⟨c3, h⟩
  · refine WC.condT c3 (by kernel_rfl) ?_
    refine WX.seq ?_
    obtain ⟨t4_2, h4_1, h⟩ := bind_some h
    refine WC.reg (n := 19) (by assumption) [(1, .co [] [] [] [(17, rowV 22 (eI .u64) t4_2.Words)] (.agg [.p (.s (.int .i64 t4_2.N)), .own 17]))] [4] [4, 17] ⟨[(4, .ptr 4 0)], [(4, .box 39 [.p (.s (.int .i64 t4_2.N)), .own 17]), (17, rowV 22 (eI .u64) t4_2.Words)], ⟨[], false⟩, []⟩ (And.intro (And.intro ((ring_None_ok h4_1).ren 10 17 (by kernel_rfl)) (trivial)) (trivial)) (by kernel_rfl) ?_
    refine WX.ret ?_
    exact WC.outP (by rw [← Option.some.inj h]; kernel_rfl)
  · refine WC.condF c3 (by kernel_rfl) ?_
    refine WX.skip ?_
    refine WX.seq ?_
    refine WC.reg (n := 19) (by assumption) [] [4] [4] ⟨[(4, .ptr 4 0)], [(4, .box 39 [.p (.s (.int .i64 a1.N)), .p (slV (eI .u64) a1.Words)])], ⟨[], false⟩, []⟩ trivial (by kernel_rfl) ?_
    refine WX.ret ?_
    exact WC.outP (by rw [← Option.some.inj h]; kernel_rfl)
def slices_Clone_uint64_uint64 (a0 : (List Int)) : Option ((List Int)) :=
  (if okApp 8 (([] : List Int).length + a0.length) then some (([] : List Int) ++ a0) else none)
theorem slices_Clone_uint64_uint64_ok {a0 : (List Int)} {r : (List Int)} (h : slices_Clone_uint64_uint64 a0 = some r) : AnsO Tryd.prog 61 [] [.p (slV (eI .u64) a0)] [(7, rowV 22 (eI .u64) r)] (.own 7) := by
  refine W_fnO [7] Tryd.func61 rfl (by kernel_rfl) (by kernel_rfl) (by kernel_rfl) (by kernel_rfl) ?_
  intro X hro hn
  unfold slices_Clone_uint64_uint64 at h
  refine WX.seq ?_
  refine WC.reg (n := 8) (by assumption) [] [0] [] ⟨[(0, .p (slV (eI .u64) a0))], [], ⟨[], false⟩, []⟩ trivial (by kernel_rfl) ?_
  refine WX.seq ?_
  refine WX.seq ?_
  refine WC.nilCase (E := (eI .u64)) (l := a0) 0 (by kernel_rfl) (fun hnil => ?_) ?_
  · have h1 : (some (([] : List Int))) = some r := by rw [hnil] at h; clear hnil; simp at h ⊢; first | exact h.2 | exact h | simp_all
    replace h := h1
    refine WC.keep [0] [] (st' := ⟨[(0, .p (.sl .isnil a0.length (encL (eI .u64) a0)))], [], ⟨[], false⟩, []⟩) (by kernel_rfl) ?_
    refine WC.reg (n := 8) (by assumption) [] [0, 4] [] ⟨[(0, .p (.sl .isnil a0.length (encL (eI .u64) a0))), (4, .p (.s (.bool true)))], [], ⟨[], false⟩, []⟩ trivial (by kernel_rfl) ?_
    refine WC.tag [0] [] [0, 4] [] (st' := ⟨[(0, .p (slV (eI .u64) a0)), (4, .p (.s (.bool true)))], [], ⟨[], false⟩, []⟩) (by kernel_rfl) ?_
    refine WC.condT rfl (by kernel_rfl) ?_
    refine WX.seq ?_
    refine WC.reg (n := 8) (by assumption) [] [2] [] ⟨[(2, .p (.sl .nil 0 []))], [], ⟨[], false⟩, []⟩ trivial (by kernel_rfl) ?_
    refine WX.ret ?_
    refine WC.nil (n := 8) (by assumption) [2] none 7 22 1 (by kernel_rfl) [2] [7] (st' := ⟨[(2, .own 7)], [(7, rowV 22 (eI .u64) (([] : List Int)))], ⟨[], false⟩, []⟩) (by kernel_rfl) ?_
    exact WC.outO (by rw [← Option.some.inj h]; kernel_rfl)
  · refine WC.keep [0] [] (st' := ⟨[(0, .p (.sl .nn a0.length (encL (eI .u64) a0)))], [], ⟨[], false⟩, []⟩) (by kernel_rfl) ?_
    refine WC.reg (n := 8) (by assumption) [] [0, 4] [] ⟨[(0, .p (.sl .nn a0.length (encL (eI .u64) a0))), (4, .p (.s (.bool false)))], [], ⟨[], false⟩, []⟩ trivial (by kernel_rfl) ?_
    refine WC.tag [0] [] [0, 4] [] (st' := ⟨[(0, .p (slV (eI .u64) a0)), (4, .p (.s (.bool false)))], [], ⟨[], false⟩, []⟩) (by kernel_rfl) ?_
    refine WC.condF rfl (by kernel_rfl) ?_
    refine WX.skip ?_
    refine WX.seq ?_
    obtain ⟨c6_1, h⟩ := if_some h
    refine WC.reg (n := 8) (by assumption) [(2, .app (some 5) (rowV 22 (eI .u64) (([] : List Int) ++ a0)))] [2] [7] ⟨[(2, .own 7)], [(7, rowV 22 (eI .u64) (([] : List Int) ++ a0))], ⟨[], false⟩, []⟩ (And.intro (ApS (eI .u64) (some 5) 22 8 ([] : List Int) a0 c6_1) (trivial)) (by kernel_rfl) ?_
    refine WX.ret ?_
    exact WC.outO (by rw [← Option.some.inj h]; kernel_rfl)
theorem slices_Clone_uint64_uint64_okP {a0 : (List Int)} {r : (List Int)} (h : slices_Clone_uint64_uint64 a0 = some r) : Ans Tryd.prog 61 [slV (eI .u64) a0] (slV (eI .u64) r) := AnsO.ans (args := [slV (eI .u64) a0]) (slices_Clone_uint64_uint64_ok h) (by kernel_rfl)
def bits_own (a0 : api_Bits) : Option (api_Bits) :=
  (bits_Check a0).bind fun t2_2 => (if (t2_2 != 0) = true then some ((api_Bits.mk 0 (([] : List Int)))) else (slices_Clone_uint64_uint64 a0.Words).bind fun t5_2 => some ((api_Bits.mk a0.N t5_2)))
theorem bits_own_ok {a0 : api_Bits} {r : api_Bits} (h : bits_own a0 = some r) : AnsO Tryd.prog 53 [] [.p (.agg [.s (.int .i64 a0.N), slV (eI .u64) a0.Words])] [(9, rowV 22 (eI .u64) r.Words)] (.agg [.p (.s (.int .i64 r.N)), .own 9]) := by
  refine W_fnO [9] Tryd.func53 rfl (by kernel_rfl) (by kernel_rfl) (by kernel_rfl) (by kernel_rfl) ?_
  intro X hro hn
  unfold bits_own at h
  refine WX.seq ?_
  refine WC.reg (n := 12) (by assumption) [] [1, 2] [1, 2] ⟨[(1, .ptr 1 0), (2, .ptr 2 0)], [(1, .box 39 [.p (.s (.int .i64 a0.N)), .p (slV (eI .u64) a0.Words)]), (2, .box 39 [.p (.s (.int .i64 0)), .p (.sl .nil 0 [])])], ⟨[], false⟩, []⟩ trivial (by kernel_rfl) ?_
  refine WX.seq ?_
  refine WX.seq ?_
  obtain ⟨t2_2, h2_1, h⟩ := bind_some h
  refine WC.reg (n := 12) (by assumption) [(1, .resP (.s (.int .i64 t2_2)))] [1, 2, 5] [1, 2] ⟨[(1, .ptr 1 0), (2, .ptr 2 0), (5, .p (.s (.bool ((t2_2 != 0)))))], [(1, .box 39 [.p (.s (.int .i64 a0.N)), .p (slV (eI .u64) a0.Words)]), (2, .box 39 [.p (.s (.int .i64 0)), .p (.sl .nil 0 [])])], ⟨[], false⟩, []⟩ (And.intro ((bits_Check_ok h2_1)) (trivial)) (by kernel_rfl) ?_
  rcases if_or h with ⟨c3, h⟩ | ⟨c3, h⟩
  · refine WC.condT c3 (by kernel_rfl) ?_
    refine WX.seq ?_
    refine WC.reg (n := 12) (by assumption) [] [2] [2] ⟨[(2, .ptr 2 0)], [(2, .box 39 [.p (.s (.int .i64 0)), .p (.sl .nil 0 [])])], ⟨[], false⟩, []⟩ trivial (by kernel_rfl) ?_
    refine WX.ret ?_
    refine WC.nil (n := 12) (by assumption) [] (some (2, 1)) 9 22 1 (by kernel_rfl) [2] [2, 9] (st' := ⟨[(2, .ptr 2 0)], [(2, .box 39 [.p (.s (.int .i64 0)), .own 9]), (9, rowV 22 (eI .u64) (([] : List Int)))], ⟨[], false⟩, []⟩) (by kernel_rfl) ?_
    exact WC.outO (by rw [← Option.some.inj h]; kernel_rfl)
  · refine WC.condF c3 (by kernel_rfl) ?_
    refine WX.skip ?_
    refine WX.seq ?_
    obtain ⟨t5_2, h5_1, h⟩ := bind_some h
    refine WC.reg (n := 12) (by assumption) [(2, .co [] [] [] [(9, rowV 22 (eI .u64) t5_2)] (.own 9))] [1, 2] [1, 2, 9] ⟨[(1, .ptr 1 0), (2, .ptr 2 0)], [(1, .box 39 [.p (.s (.int .i64 a0.N)), .own 9]), (2, .box 39 [.p (.s (.int .i64 0)), .p (.sl .nil 0 [])]), (9, rowV 22 (eI .u64) t5_2)], ⟨[], false⟩, []⟩ (And.intro (And.intro ((slices_Clone_uint64_uint64_ok h5_1).ren 7 9 (by kernel_rfl)) (trivial)) (trivial)) (by kernel_rfl) ?_
    refine WX.seq ?_
    refine WC.reg (n := 12) (by assumption) [] [2] [2, 9] ⟨[(2, .ptr 2 0)], [(2, .box 39 [.p (.s (.int .i64 a0.N)), .own 9]), (9, rowV 22 (eI .u64) t5_2)], ⟨[], false⟩, []⟩ trivial (by kernel_rfl) ?_
    refine WX.ret ?_
    exact WC.outO (by rw [← Option.some.inj h]; kernel_rfl)
theorem bits_own_okP {a0 : api_Bits} {r : api_Bits} (h : bits_own a0 = some r) : Ans Tryd.prog 53 [.agg [.s (.int .i64 a0.N), slV (eI .u64) a0.Words]] (.agg [.s (.int .i64 r.N), slV (eI .u64) r.Words]) := AnsO.ans (args := [.agg [.s (.int .i64 a0.N), slV (eI .u64) a0.Words]]) (bits_own_ok h) (by kernel_rfl)
def bits_With (a0 : api_Bits) (a1 : Int) : Option (api_Bits) :=
  (bits_own a0).bind fun t2_2 => (if (((decide (a1 ≥ 0))) && ((decide (a1 < t2_2.N)))) = true then (at_ t2_2.Words ((IntKind.i64.wrap (a1.tdiv 64)))).bind fun t5_2 => (if ¬ (a1.tmod 64) < 0 then some ((api_Bits.mk t2_2.N (t2_2.Words.set ((IntKind.i64.wrap (a1.tdiv 64))).toNat ((bits .or .u64 t5_2 ((IntKind.u64.wrap (1 * 2 ^ (min ((a1.tmod 64)).toNat IntKind.u64.bits))))))))) else none) else some t2_2)
theorem bits_With_ok {a0 : api_Bits} {a1 : Int} {r : api_Bits} (h : bits_With a0 a1 = some r) : AnsO Tryd.prog 35 [] [.p (.agg [.s (.int .i64 a0.N), slV (eI .u64) a0.Words]), .p (.s (.int .i64 a1))] [(6, rowV 22 (eI .u64) r.Words)] (.agg [.p (.s (.int .i64 r.N)), .own 6]) := by
  refine W_fnO [6] Tryd.func35 rfl (by kernel_rfl) (by kernel_rfl) (by kernel_rfl) (by kernel_rfl) ?_
  intro X hro hn
  unfold bits_With at h
  refine WX.seq ?_
  refine WC.reg (n := 27) (by assumption) [] [1, 2, 4] [2, 4] ⟨[(1, .p (.s (.int .i64 a1))), (2, .ptr 2 0), (4, .ptr 4 0)], [(2, .box 39 [.p (.s (.int .i64 a0.N)), .p (slV (eI .u64) a0.Words)]), (4, .box 39 [.p (.s (.int .i64 0)), .p (.sl .nil 0 [])])], ⟨[], false⟩, []⟩ trivial (by kernel_rfl) ?_
  refine WX.seq ?_
  obtain ⟨t2_2, h2_1, h⟩ := bind_some h
  refine WC.reg (n := 27) (by assumption) [(1, .co [] [] [] [(6, rowV 22 (eI .u64) t2_2.Words)] (.agg [.p (.s (.int .i64 t2_2.N)), .own 6]))] [1, 2, 4] [2, 4, 6] ⟨[(1, .p (.s (.int .i64 a1))), (2, .ptr 2 0), (4, .ptr 4 0)], [(2, .box 39 [.p (.s (.int .i64 t2_2.N)), .own 6]), (4, .box 39 [.p (.s (.int .i64 0)), .p (.sl .nil 0 [])]), (6, rowV 22 (eI .u64) t2_2.Words)], ⟨[], false⟩, []⟩ (And.intro (And.intro ((bits_own_ok h2_1).ren 9 6 (by kernel_rfl)) (trivial)) (trivial)) (by kernel_rfl) ?_
  refine WX.seq ?_
  refine WX.seq ?_
  refine WC.via (α := Bool) (fun v3 => ⟨[(1, .p (.s (.int .i64 a1))), (2, .ptr 2 0), (4, .ptr 4 0), (14, .p (.s (.bool v3)))], [(2, .box 39 [.p (.s (.int .i64 t2_2.N)), .own 6]), (4, .box 39 [.p (.s (.int .i64 0)), .p (.sl .nil 0 [])]), (6, rowV 22 (eI .u64) t2_2.Words)], ⟨[], false⟩, []⟩) ((((decide (a1 ≥ 0))) && ((decide (a1 < t2_2.N))))) (fun hk => ?_) ?_
  · rcases Bool.eq_false_or_eq_true ((decide (a1 ≥ 0))) with b3_2 | b3_2
    · exact WC.reg (n := 27) (by assumption) [(2, .val (.p (.s (.bool true))))] [1, 2, 4, 14] [2, 4, 6] ⟨[(1, .p (.s (.int .i64 a1))), (2, .ptr 2 0), (4, .ptr 4 0), (14, .p (.s (.bool ((decide (a1 < t2_2.N))))))], [(2, .box 39 [.p (.s (.int .i64 t2_2.N)), .own 6]), (4, .box 39 [.p (.s (.int .i64 0)), .p (.sl .nil 0 [])]), (6, rowV 22 (eI .u64) t2_2.Words)], ⟨[], false⟩, []⟩ (And.intro (Bl b3_2) (trivial)) (by kernel_rfl) (hk ((decide (a1 < t2_2.N))) (by first | (rw [b3_2]; rfl) | simp [b3_2]))
    · exact WC.reg (n := 27) (by assumption) [(2, .val (.p (.s (.bool false))))] [1, 2, 4, 14] [2, 4, 6] ⟨[(1, .p (.s (.int .i64 a1))), (2, .ptr 2 0), (4, .ptr 4 0), (14, .p (.s (.bool false)))], [(2, .box 39 [.p (.s (.int .i64 t2_2.N)), .own 6]), (4, .box 39 [.p (.s (.int .i64 0)), .p (.sl .nil 0 [])]), (6, rowV 22 (eI .u64) t2_2.Words)], ⟨[], false⟩, []⟩ (And.intro (Bl b3_2) (trivial)) (by kernel_rfl) (hk false (by first | (rw [b3_2]; rfl) | simp [b3_2]))
  rcases if_or h with ⟨c4, h⟩ | ⟨c4, h⟩
  · refine WC.condT c4 (by kernel_rfl) ?_
    obtain ⟨t5_2, h5_1, h⟩ := bind_some h
    obtain ⟨c5_3, h⟩ := if_some h
    refine WC.drw (n := 27) (by assumption) [(11, [])] [] [(4, .val (.ptr 6 (((IntKind.i64.wrap (a1.tdiv 64))).toNat * 1))), (5, .val (.p (.s (.int .u64 t5_2)))), (8, .val (.p (.s (.int .u64 (IntKind.u64.wrap (1 * 2 ^ (min ((a1.tmod 64)).toNat IntKind.u64.bits))))))), (10, .val (.ptr 6 (((IntKind.i64.wrap (a1.tdiv 64))).toNat * 1))), (11, .sto 6 (rowV 22 (eI .u64) (t2_2.Words.set ((IntKind.i64.wrap (a1.tdiv 64))).toNat ((bits .or .u64 t5_2 ((IntKind.u64.wrap (1 * 2 ^ (min ((a1.tmod 64)).toNat IntKind.u64.bits)))))))))] [2, 4] [2, 4, 6] ⟨[(2, .ptr 2 0), (4, .ptr 4 0)], [(2, .box 39 [.p (.s (.int .i64 t2_2.N)), .own 6]), (4, .box 39 [.p (.s (.int .i64 0)), .p (.sl .nil 0 [])]), (6, rowV 22 (eI .u64) (t2_2.Words.set ((IntKind.i64.wrap (a1.tdiv 64))).toNat ((bits .or .u64 t5_2 ((IntKind.u64.wrap (1 * 2 ^ (min ((a1.tmod 64)).toNat IntKind.u64.bits))))))))], ⟨[], false⟩, []⟩ (And.intro (IxO 6 1 h5_1) (And.intro (LdO0 Tryd.prog (eI .u64) 22 h5_1) (And.intro (Shl .u64 1 ((a1.tmod 64)) c5_3) (And.intro (IxO 6 1 h5_1) (And.intro (StO0 (eI .u64) 6 22 1 1 [.s (.int .u64 ((bits .or .u64 t5_2 ((IntKind.u64.wrap (1 * 2 ^ (min ((a1.tmod 64)).toNat IntKind.u64.bits)))))))] ((bits .or .u64 t5_2 ((IntKind.u64.wrap (1 * 2 ^ (min ((a1.tmod 64)).toNat IntKind.u64.bits)))))) h5_1 rfl rfl (by decide)) (trivial)))))) (by kernel_rfl) (by kernel_rfl) (by kernel_rfl) (by kernel_rfl) ?_
    refine WX.seq ?_
    refine WC.reg (n := 27) (by assumption) [] [4] [4, 6] ⟨[(4, .ptr 4 0)], [(4, .box 39 [.p (.s (.int .i64 t2_2.N)), .own 6]), (6, rowV 22 (eI .u64) (t2_2.Words.set ((IntKind.i64.wrap (a1.tdiv 64))).toNat ((bits .or .u64 t5_2 ((IntKind.u64.wrap (1 * 2 ^ (min ((a1.tmod 64)).toNat IntKind.u64.bits))))))))], ⟨[], false⟩, []⟩ trivial (by kernel_rfl) ?_
    refine WX.ret ?_
    exact WC.outO (by rw [← Option.some.inj h]; kernel_rfl)
  · refine WC.condF c4 (by kernel_rfl) ?_
    refine WX.skip ?_
    refine WX.seq ?_
    refine WC.reg (n := 27) (by assumption) [] [4] [4, 6] ⟨[(4, .ptr 4 0)], [(4, .box 39 [.p (.s (.int .i64 t2_2.N)), .own 6]), (6, rowV 22 (eI .u64) t2_2.Words)], ⟨[], false⟩, []⟩ trivial (by kernel_rfl) ?_
    refine WX.ret ?_
    exact WC.outO (by rw [← Option.some.inj h]; kernel_rfl)
theorem bits_With_okP {a0 : api_Bits} {a1 : Int} {r : api_Bits} (h : bits_With a0 a1 = some r) : Ans Tryd.prog 35 [.agg [.s (.int .i64 a0.N), slV (eI .u64) a0.Words], .s (.int .i64 a1)] (.agg [.s (.int .i64 r.N), slV (eI .u64) r.Words]) := AnsO.ans (args := [.agg [.s (.int .i64 a0.N), slV (eI .u64) a0.Words], .s (.int .i64 a1)]) (bits_With_ok h) (by kernel_rfl)
def ring_Trigger (k : Nat) (a0 : api_Ring) (a1 : api_Bits) : Option (api_Bits) :=
  (ring_may a0).bind fun t2_2 => (ring_state k t2_2 a1).bind fun t2_4 => (bits_With t2_4 0).bind fun t2_6 => some t2_6
theorem ring_Trigger_ok {k : Nat} {a0 : api_Ring} {a1 : api_Bits} {r : api_Bits} (h : ring_Trigger k a0 a1 = some r) : Ans Tryd.prog 15 [.agg [.s (.int .u64 a0.Class.a0), .s (.int .u64 a0.Class.a1), .s (.int .u64 a0.Class.a2), .s (.int .u64 a0.Class.a3), .s (.int .i64 a0.Least), .s (.int .i64 a0.Most)], .agg [.s (.int .i64 a1.N), slV (eI .u64) a1.Words]] (.agg [.s (.int .i64 r.N), slV (eI .u64) r.Words]) := by
  refine W_fn Tryd.func15 rfl (by kernel_rfl) (by kernel_rfl) ?_
  intro X hro hn
  unfold ring_Trigger at h
  refine WX.seq ?_
  refine WC.reg (n := 10) (by assumption) [] [2, 3, 4] [2, 3, 4] ⟨[(2, .ptr 2 0), (3, .ptr 3 0), (4, .ptr 4 0)], [(2, .box 26 [.p (.s (.int .u64 a0.Class.a0)), .p (.s (.int .u64 a0.Class.a1)), .p (.s (.int .u64 a0.Class.a2)), .p (.s (.int .u64 a0.Class.a3)), .p (.s (.int .i64 a0.Least)), .p (.s (.int .i64 a0.Most))]), (3, .box 39 [.p (.s (.int .i64 a1.N)), .p (slV (eI .u64) a1.Words)]), (4, .box 39 [.p (.s (.int .i64 0)), .p (.sl .nil 0 [])])], ⟨[], false⟩, []⟩ trivial (by kernel_rfl) ?_
  refine WX.seq ?_
  obtain ⟨t2_2, h2_1, h⟩ := bind_some h
  obtain ⟨t2_4, h2_3, h⟩ := bind_some h
  obtain ⟨t2_6, h2_5, h⟩ := bind_some h
  refine WC.drw (n := 10) (by assumption) [(5, [])] [] [(1, .resP (.agg [.s (.int .u64 t2_2.Class.a0), .s (.int .u64 t2_2.Class.a1), .s (.int .u64 t2_2.Class.a2), .s (.int .u64 t2_2.Class.a3), .s (.int .i64 t2_2.Least), .s (.int .i64 t2_2.Most)])), (3, .resP (.agg [.s (.int .i64 t2_4.N), slV (eI .u64) t2_4.Words])), (4, .resP (.agg [.s (.int .i64 t2_6.N), slV (eI .u64) t2_6.Words]))] [4] [4] ⟨[(4, .ptr 4 0)], [(4, .box 39 [.p (.s (.int .i64 t2_6.N)), .p (slV (eI .u64) t2_6.Words)])], ⟨[], false⟩, []⟩ (And.intro ((ring_may_ok h2_1)) (And.intro ((ring_state_ok h2_3)) (And.intro ((bits_With_okP h2_5)) (trivial)))) (by kernel_rfl) (by kernel_rfl) (by kernel_rfl) (by kernel_rfl) ?_
  refine WX.ret ?_
  exact WC.outP (by rw [← Option.some.inj h]; kernel_rfl)
def class_Has (a0 : (Arr4 Int)) (a1 : Int) : Option (Bool) :=
  (if 0 ≤ (a1.fdiv (2 ^ 6)) ∧ (a1.fdiv (2 ^ 6)) < 4 then (if ¬ (bits .and .u8 a1 63) < 0 then some (((bits .and .u64 ((((get4 a0.a0 a0.a1 a0.a2 a0.a3 ((a1.fdiv (2 ^ 6))))).fdiv (2 ^ (min ((bits .and .u8 a1 63)).toNat IntKind.u64.bits)))) 1) == 1)) else none) else none)
theorem class_Has_ok {a0 : (Arr4 Int)} {a1 : Int} {r : Bool} (h : class_Has a0 a1 = some r) : Ans Tryd.prog 45 [.agg [.s (.int .u64 a0.a0), .s (.int .u64 a0.a1), .s (.int .u64 a0.a2), .s (.int .u64 a0.a3)], .s (.int .u8 a1)] (.s (.bool r)) := by
  refine W_fn Tryd.func45 rfl (by kernel_rfl) (by kernel_rfl) ?_
  intro X hro hn
  unfold class_Has at h
  refine WX.seq ?_
  refine WC.reg (n := 14) (by assumption) [] [1, 2] [2] ⟨[(1, .p (.s (.int .u8 a1))), (2, .ptr 2 0)], [(2, .box 24 [.p (.s (.int .u64 a0.a0)), .p (.s (.int .u64 a0.a1)), .p (.s (.int .u64 a0.a2)), .p (.s (.int .u64 a0.a3))])], ⟨[], false⟩, []⟩ trivial (by kernel_rfl) ?_
  refine WX.seq ?_
  obtain ⟨c2_1, h⟩ := if_some h
  obtain ⟨c2_2, h⟩ := if_some h
  refine WC.reg (n := 14) (by assumption) [(2, .val (.ptr 2 (0 + ((a1.fdiv (2 ^ 6))).toNat * 1))), (3, .val (.p (.s (.int .u64 ((get4 a0.a0 a0.a1 a0.a2 a0.a3 ((a1.fdiv (2 ^ 6))))))))), (6, .val (.p (.s (.int .u64 (((get4 a0.a0 a0.a1 a0.a2 a0.a3 ((a1.fdiv (2 ^ 6))))).fdiv (2 ^ (min ((bits .and .u8 a1 63)).toNat IntKind.u64.bits)))))))] [4] [] ⟨[(4, .p (.s (.bool (((bits .and .u64 ((((get4 a0.a0 a0.a1 a0.a2 a0.a3 ((a1.fdiv (2 ^ 6))))).fdiv (2 ^ (min ((bits .and .u8 a1 63)).toNat IntKind.u64.bits)))) 1) == 1)))))], [], ⟨[], false⟩, []⟩ (And.intro (IxA4 2 0 ((a1.fdiv (2 ^ 6))) c2_1) (And.intro (LdA4 Tryd.prog 22 [] .u64 a0.a0 a0.a1 a0.a2 a0.a3 [] ((a1.fdiv (2 ^ 6))) c2_1 rfl rfl) (And.intro (Shr .u64 ((get4 a0.a0 a0.a1 a0.a2 a0.a3 ((a1.fdiv (2 ^ 6))))) ((bits .and .u8 a1 63)) c2_2) (trivial)))) (by kernel_rfl) ?_
  refine WX.ret ?_
  exact WC.outP (by rw [← Option.some.inj h]; kernel_rfl)
def bits_TrailingZeros64 (a0 : Int) : Option (Int) :=
  (if (a0 == 0) = true then some 64 else (at_ tab0 ((((IntKind.u64.wrap ((bits .and .u64 a0 ((IntKind.u64.wrap (0 - a0)))) * 285870213051353865))).fdiv (2 ^ 58)))).bind fun t5_2 => some ((IntKind.i64.wrap t5_2)))
theorem bits_TrailingZeros64_ok {a0 : Int} {r : Int} (h : bits_TrailingZeros64 a0 = some r) : Ans Tryd.prog 59 [.s (.int .u64 a0)] (.s (.int .i64 r)) := by
  refine W_fn Tryd.func59 rfl (by kernel_rfl) (by kernel_rfl) ?_
  intro X hro hn
  unfold bits_TrailingZeros64 at h
  refine WX.seq ?_
  refine WC.reg (n := 14) (by assumption) [] [0] [] ⟨[(0, .p (.s (.int .u64 a0)))], [], ⟨[], false⟩, []⟩ trivial (by kernel_rfl) ?_
  refine WX.seq ?_
  refine WX.seq ?_
  refine WC.reg (n := 14) (by assumption) [] [0, 4] [] ⟨[(0, .p (.s (.int .u64 a0))), (4, .p (.s (.bool ((a0 == 0)))))], [], ⟨[], false⟩, []⟩ trivial (by kernel_rfl) ?_
  rcases if_or h with ⟨c3, h⟩ | ⟨c3, h⟩
  · refine WC.condT c3 (by kernel_rfl) ?_
    refine WX.seq ?_
    refine WC.reg (n := 14) (by assumption) [] [2] [] ⟨[(2, .p (.s (.int .i64 64)))], [], ⟨[], false⟩, []⟩ trivial (by kernel_rfl) ?_
    refine WX.ret ?_
    exact WC.outP (by rw [← Option.some.inj h]; kernel_rfl)
  · refine WC.condF c3 (by kernel_rfl) ?_
    refine WX.skip ?_
    refine WX.seq ?_
    obtain ⟨t5_2, h5_1, h⟩ := bind_some h
    refine WC.reg (n := 14) (by assumption) [(6, .val (.p (.rop ((eI .u8).cells t5_2 ++ encL (eI .u8) (tab0.drop (((((IntKind.u64.wrap ((bits .and .u64 a0 ((IntKind.u64.wrap (0 - a0)))) * 285870213051353865))).fdiv (2 ^ 58))).toNat + 1))))))] [2] [] ⟨[(2, .p (.s (.int .i64 ((IntKind.i64.wrap t5_2)))))], [], ⟨[], false⟩, []⟩ (And.intro (IxG (eI .u8) 64 rfl h5_1) (trivial)) (by kernel_rfl) ?_
    refine WX.ret ?_
    exact WC.outP (by rw [← Option.some.inj h]; kernel_rfl)
def bits_First_l0 (a0 : api_Bits) (a1 : Int) (J7 : Unit → Option (Int × Bool)) : Nat → Int → Option (Int × Bool)
  | 0, _ => none
  | k + 1, x32_1_1 => (if (decide (x32_1_1 < (a0.Words.length : Int))) = true then (at_ a0.Words x32_1_1).bind fun t57_2 => jn (fun (v59 : Int) => (if (v59 != 0) = true then (bits_TrailingZeros64 v59).bind fun t64_2 => some ((IntKind.i64.wrap ((IntKind.i64.wrap (64 * x32_1_1)) + t64_2)), true) else bits_First_l0 a0 a1 J7 k ((IntKind.i64.wrap (x32_1_1 + 1))))) fun J59 => (if (x32_1_1 == (IntKind.i64.wrap (((maxI a1 0)).tdiv 64))) = true then (if ¬ (((maxI a1 0)).tmod 64) < 0 then J59 ((IntKind.u64.wrap ((t57_2.fdiv (2 ^ (min ((((maxI a1 0)).tmod 64)).toNat IntKind.u64.bits))) * 2 ^ (min ((((maxI a1 0)).tmod 64)).toNat IntKind.u64.bits)))) else none) else J59 t57_2) else J7 ())
def bits_First (k : Nat) (a0 : api_Bits) (a1 : Int) : Option (Int × Bool) :=
  (bits_Check a0).bind fun t2_2 => (if (t2_2 != 0) = true then some (0, false) else jn (fun (v7 : Unit) => some (0, false)) fun J7 => bits_First_l0 a0 a1 J7 k ((IntKind.i64.wrap (((maxI a1 0)).tdiv 64))))
theorem bits_First_ok {k : Nat} {a0 : api_Bits} {a1 : Int} {r : Int × Bool} (h : bits_First k a0 a1 = some r) : Ans Tryd.prog 49 [.agg [.s (.int .i64 a0.N), slV (eI .u64) a0.Words], .s (.int .i64 a1)] (.tup [.s (.int .i64 r.1), .s (.bool r.2)]) := by
  refine W_fn Tryd.func49 rfl (by kernel_rfl) (by kernel_rfl) ?_
  intro X hro hn
  unfold bits_First at h
  refine WX.seq ?_
  refine WC.reg (n := 45) (by assumption) [] [1, 2] [2] ⟨[(1, .p (.s (.int .i64 a1))), (2, .ptr 2 0)], [(2, .box 39 [.p (.s (.int .i64 a0.N)), .p (slV (eI .u64) a0.Words)])], ⟨[], false⟩, []⟩ trivial (by kernel_rfl) ?_
  refine WX.seq ?_
  refine WX.seq ?_
  obtain ⟨t2_2, h2_1, h⟩ := bind_some h
  refine WC.reg (n := 45) (by assumption) [(1, .resP (.s (.int .i64 t2_2)))] [1, 2, 10] [2] ⟨[(1, .p (.s (.int .i64 a1))), (2, .ptr 2 0), (10, .p (.s (.bool ((t2_2 != 0)))))], [(2, .box 39 [.p (.s (.int .i64 a0.N)), .p (slV (eI .u64) a0.Words)])], ⟨[], false⟩, []⟩ (And.intro ((bits_Check_ok h2_1)) (trivial)) (by kernel_rfl) ?_
  rcases if_or h with ⟨c3, h⟩ | ⟨c3, h⟩
  · refine WC.condT c3 (by kernel_rfl) ?_
    refine WX.seq ?_
    refine WC.reg (n := 45) (by assumption) [] [4, 5] [] ⟨[(4, .p (.s (.int .i64 0))), (5, .p (.s (.bool false)))], [], ⟨[], false⟩, []⟩ trivial (by kernel_rfl) ?_
    refine WX.ret ?_
    exact WC.outP (by rw [← Option.some.inj h]; kernel_rfl)
  · refine WC.condF c3 (by kernel_rfl) ?_
    refine WX.skip ?_
    refine WX.seq ?_
    refine WC.reg (n := 45) (by assumption) [] [1, 2] [2] ⟨[(1, .p (.s (.int .i64 ((maxI a1 0))))), (2, .ptr 2 0)], [(2, .box 39 [.p (.s (.int .i64 a0.N)), .p (slV (eI .u64) a0.Words)])], ⟨[], false⟩, []⟩ trivial (by kernel_rfl) ?_
    refine WX.seq ?_
    refine WX.seq ?_
    refine WC.reg (n := 45) (by assumption) [] [1, 2, 6] [2] ⟨[(1, .p (.s (.int .i64 ((maxI a1 0))))), (2, .ptr 2 0), (6, .p (.s (.int .i64 ((IntKind.i64.wrap (((maxI a1 0)).tdiv 64))))))], [(2, .box 39 [.p (.s (.int .i64 a0.N)), .p (slV (eI .u64) a0.Words)])], ⟨[], false⟩, []⟩ trivial (by kernel_rfl) ?_
    obtain ⟨J7, eJ7, h⟩ := jn_some h
    try dsimp only at h
    refine WC.join (α := Unit) (fun v7 => ⟨[], [], ⟨[], false⟩, []⟩) (fun v7 => J7 v7 = some r) ?_ (fun hJ7 => ?_)
    · rintro _ h
      rw [eJ7] at h
      try dsimp only at h
      refine WX.seq ?_
      refine WC.reg (n := 45) (by assumption) [] [4, 5] [] ⟨[(4, .p (.s (.int .i64 0))), (5, .p (.s (.bool false)))], [], ⟨[], false⟩, []⟩ trivial (by kernel_rfl) ?_
      refine WX.ret ?_
      exact WC.outP (by rw [← Option.some.inj h]; kernel_rfl)
    · skip
      refine WX.block ?_
      refine WC.loop (V := Int) (bits_First_l0 a0 a1 J7) r (fun v32 => ⟨[(1, .p (.s (.int .i64 ((maxI a1 0))))), (2, .ptr 2 0), (6, .p (.s (.int .i64 v32)))], [(2, .box 39 [.p (.s (.int .i64 a0.N)), .p (slV (eI .u64) a0.Words)])], ⟨[], false⟩, []⟩) _ ((IntKind.i64.wrap (((maxI a1 0)).tdiv 64))) h (fun _ => rfl) [1, 2, 6] [2] (by kernel_rfl) ?_
      clear h; rintro k x32_1_1 h K32 hnext32 hexit32
      rw [bits_First_l0] at h
      refine WX.seq ?_
      refine WX.seq ?_
      refine WC.reg (n := 45) (by assumption) [] [1, 2, 6, 19] [2] ⟨[(1, .p (.s (.int .i64 ((maxI a1 0))))), (2, .ptr 2 0), (6, .p (.s (.int .i64 x32_1_1))), (19, .p (.s (.bool ((decide (x32_1_1 < (a0.Words.length : Int)))))))], [(2, .box 39 [.p (.s (.int .i64 a0.N)), .p (slV (eI .u64) a0.Words)])], ⟨[], false⟩, []⟩ trivial (by kernel_rfl) ?_
      rcases if_or h with ⟨c56, h⟩ | ⟨c56, h⟩
      · refine WC.condT c56 (by kernel_rfl) ?_
        refine WX.skip ?_
        refine WX.seq ?_
        refine WX.block ?_
        refine WX.seq ?_
        obtain ⟨t57_2, h57_1, h⟩ := bind_some h
        refine WC.reg (n := 45) (by assumption) [(3, .val (.p (.rop ((eI .u64).cells t57_2 ++ encL (eI .u64) (a0.Words.drop (x32_1_1.toNat + 1))))))] [1, 2, 6, 7] [2] ⟨[(1, .p (.s (.int .i64 ((maxI a1 0))))), (2, .ptr 2 0), (6, .p (.s (.int .i64 x32_1_1))), (7, .p (.s (.int .u64 t57_2)))], [(2, .box 39 [.p (.s (.int .i64 a0.N)), .p (slV (eI .u64) a0.Words)])], ⟨[], false⟩, []⟩ (And.intro (Ix (eI .u64) h57_1) (trivial)) (by kernel_rfl) ?_
        refine WX.seq ?_
        refine WX.seq ?_
        refine WC.reg (n := 45) (by assumption) [] [1, 2, 6, 7, 30] [2] ⟨[(1, .p (.s (.int .i64 ((maxI a1 0))))), (2, .ptr 2 0), (6, .p (.s (.int .i64 x32_1_1))), (7, .p (.s (.int .u64 t57_2))), (30, .p (.s (.bool ((x32_1_1 == (IntKind.i64.wrap (((maxI a1 0)).tdiv 64)))))))], [(2, .box 39 [.p (.s (.int .i64 a0.N)), .p (slV (eI .u64) a0.Words)])], ⟨[], false⟩, []⟩ trivial (by kernel_rfl) ?_
        obtain ⟨J59, eJ59, h⟩ := jn_some h
        try dsimp only at h
        refine WC.join (α := Int) (fun v59 => ⟨[(1, .p (.s (.int .i64 ((maxI a1 0))))), (2, .ptr 2 0), (6, .p (.s (.int .i64 x32_1_1))), (7, .p (.s (.int .u64 v59)))], [(2, .box 39 [.p (.s (.int .i64 a0.N)), .p (slV (eI .u64) a0.Words)])], ⟨[], false⟩, []⟩) (fun v59 => J59 v59 = some r) ?_ (fun hJ59 => ?_)
        · rintro y59_1 h
          rw [eJ59] at h
          try dsimp only at h
          refine WX.seq ?_
          refine WC.reg (n := 45) (by assumption) [] [1, 2, 6, 7, 39] [2] ⟨[(1, .p (.s (.int .i64 ((maxI a1 0))))), (2, .ptr 2 0), (6, .p (.s (.int .i64 x32_1_1))), (7, .p (.s (.int .u64 y59_1))), (39, .p (.s (.bool ((y59_1 != 0)))))], [(2, .box 39 [.p (.s (.int .i64 a0.N)), .p (slV (eI .u64) a0.Words)])], ⟨[], false⟩, []⟩ trivial (by kernel_rfl) ?_
          rcases if_or h with ⟨c63, h⟩ | ⟨c63, h⟩
          · refine WC.condT c63 (by kernel_rfl) ?_
            refine WX.seq ?_
            obtain ⟨t64_2, h64_1, h⟩ := bind_some h
            refine WC.reg (n := 45) (by assumption) [(3, .resP (.s (.int .i64 t64_2)))] [4, 5] [] ⟨[(4, .p (.s (.int .i64 ((IntKind.i64.wrap ((IntKind.i64.wrap (64 * x32_1_1)) + t64_2)))))), (5, .p (.s (.bool true)))], [], ⟨[], false⟩, []⟩ (And.intro ((bits_TrailingZeros64_ok h64_1)) (trivial)) (by kernel_rfl) ?_
            refine WX.ret ?_
            refine WC.ret_all (hexit32 _ _ (by simp) ?_)
            exact WC.outP (by rw [← Option.some.inj h]; kernel_rfl)
          · refine WC.condF c63 (by kernel_rfl) ?_
            refine WX.skip ?_
            refine WX.popBlk ?_
            refine WC.reg (n := 45) (by assumption) [] [1, 2, 6] [2] ⟨[(1, .p (.s (.int .i64 ((maxI a1 0))))), (2, .ptr 2 0), (6, .p (.s (.int .i64 ((IntKind.i64.wrap (x32_1_1 + 1))))))], [(2, .box 39 [.p (.s (.int .i64 a0.N)), .p (slV (eI .u64) a0.Words)])], ⟨[], false⟩, []⟩ trivial (by kernel_rfl) ?_
            exact WC.next [1, 2, 6] [2] (by kernel_rfl) (hnext32 ((IntKind.i64.wrap (x32_1_1 + 1))) h)
        · replace hJ59 := fun y59_1 => hJ59 y59_1
          rcases if_or h with ⟨c66, h⟩ | ⟨c66, h⟩
          · refine WC.condT c66 (by kernel_rfl) ?_
            obtain ⟨c67_1, h⟩ := if_some h
            refine WC.reg (n := 45) (by assumption) [(3, .val (.p (.s (.int .u64 (t57_2.fdiv (2 ^ (min ((((maxI a1 0)).tmod 64)).toNat IntKind.u64.bits))))))), (6, .val (.p (.s (.int .u64 (IntKind.u64.wrap ((t57_2.fdiv (2 ^ (min ((((maxI a1 0)).tmod 64)).toNat IntKind.u64.bits))) * 2 ^ (min ((((maxI a1 0)).tmod 64)).toNat IntKind.u64.bits)))))))] [1, 2, 6, 7] [2] ⟨[(1, .p (.s (.int .i64 ((maxI a1 0))))), (2, .ptr 2 0), (6, .p (.s (.int .i64 x32_1_1))), (7, .p (.s (.int .u64 ((IntKind.u64.wrap ((t57_2.fdiv (2 ^ (min ((((maxI a1 0)).tmod 64)).toNat IntKind.u64.bits))) * 2 ^ (min ((((maxI a1 0)).tmod 64)).toNat IntKind.u64.bits)))))))], [(2, .box 39 [.p (.s (.int .i64 a0.N)), .p (slV (eI .u64) a0.Words)])], ⟨[], false⟩, []⟩ (And.intro (Shr .u64 t57_2 ((((maxI a1 0)).tmod 64)) c67_1) (And.intro (Shl .u64 ((t57_2.fdiv (2 ^ (min ((((maxI a1 0)).tmod 64)).toNat IntKind.u64.bits)))) ((((maxI a1 0)).tmod 64)) c67_1) (trivial))) (by kernel_rfl) ?_
            exact WC.keep [1, 2, 6, 7] [2] (by kernel_rfl) (hJ59 ((IntKind.u64.wrap ((t57_2.fdiv (2 ^ (min ((((maxI a1 0)).tmod 64)).toNat IntKind.u64.bits))) * 2 ^ (min ((((maxI a1 0)).tmod 64)).toNat IntKind.u64.bits)))) h)
          · refine WC.condF c66 (by kernel_rfl) ?_
            refine WX.skip ?_
            exact WC.keep [1, 2, 6, 7] [2] (by kernel_rfl) (hJ59 t57_2 h)
      · refine WC.condF c56 (by kernel_rfl) ?_
        refine WX.exit ?_
        refine WX.popCodeExit ?_
        refine WC.exit_nil (hexit32 _ _ (by simp) ?_)
        refine WX.popBlkHit ?_
        exact WC.keep [] [] (by kernel_rfl) (hJ7 () h)
def bits_All (a0 : api_Bits) : Option ((api_Bits)) :=
  (bits_own a0).bind fun t2_2 => some t2_2
theorem bits_All_ok {a0 : api_Bits} {r : (api_Bits)} (h : bits_All a0 = some r) : Ans Tryd.prog 58 [.agg [.s (.int .i64 a0.N), slV (eI .u64) a0.Words]] (.fn 63 [.rop ([.s (.int .i64 r.N), slV (eI .u64) r.Words])]) := by
  refine W_fn Tryd.func58 rfl (by kernel_rfl) (by kernel_rfl) ?_
  intro X hro hn
  unfold bits_All at h
  refine WX.seq ?_
  refine WC.reg (n := 6) (by assumption) [] [1] [1] ⟨[(1, .ptr 1 0)], [(1, .box 39 [.p (.s (.int .i64 a0.N)), .p (slV (eI .u64) a0.Words)])], ⟨[], false⟩, []⟩ trivial (by kernel_rfl) ?_
  refine WX.seq ?_
  obtain ⟨t2_2, h2_1, h⟩ := bind_some h
  refine WC.reg (n := 6) (by assumption) [(1, .co [] [] [] [(4, rowV 22 (eI .u64) t2_2.Words)] (.agg [.p (.s (.int .i64 t2_2.N)), .own 4]))] [1] [1, 4] ⟨[(1, .ptr 1 0)], [(1, .box 39 [.p (.s (.int .i64 t2_2.N)), .own 4]), (4, rowV 22 (eI .u64) t2_2.Words)], ⟨[], false⟩, []⟩ (And.intro (And.intro ((bits_own_ok h2_1).ren 9 4 (by kernel_rfl)) (trivial)) (trivial)) (by kernel_rfl) ?_
  refine WX.seq ?_
  refine WC.reg (n := 6) (by assumption) [] [2] [1, 4] ⟨[(2, .fn 63 [.ptr 1 0])], [(1, .box 39 [.p (.s (.int .i64 t2_2.N)), .own 4]), (4, rowV 22 (eI .u64) t2_2.Words)], ⟨[], false⟩, []⟩ trivial (by kernel_rfl) ?_
  refine WX.ret ?_
  exact WC.outP (by rw [← Option.some.inj h]; kernel_rfl)
def bits_All_1_v1_l0 (a1 : api_Bits) : Nat → (Int × Bool) → Option (List Int)
  | 0, _ => none
  | k + 1, (x2_1_1, x2_1_2) => (if x2_1_2 = true then ((bits_First k a1 ((IntKind.i64.wrap (x2_1_1 + 1)))).bind fun t14_2 => bits_All_1_v1_l0 a1 k (t14_2.1, t14_2.2)).map (x2_1_1 :: ·) else some [])
def bits_All_1_v1 (k : Nat) (a1 : api_Bits) : Option (List Int) :=
  (bits_First k a1 0).bind fun t1_2 => bits_All_1_v1_l0 a1 k (t1_2.1, t1_2.2)
theorem bits_All_1_v1_it {k : Nat} {a1 : api_Bits} {r : List Int} (h : bits_All_1_v1 k a1 = some r) : Iter Tryd.prog 63 [.rop ([.s (.int .i64 a1.N), slV (eI .u64) a1.Words])] (r.map (fun x : Int => ([.int .i64 x] : List Value))) := by
  refine W_it Tryd.func63 rfl (by kernel_rfl) (Nat.le_of_ble_eq_true (by kernel_rfl)) ?_
  intro X hro hn hY
  obtain ⟨L, hLe⟩ : ∃ L, L = r.map (fun x : Int => ([.int .i64 x] : List Value)) := ⟨_, rfl⟩
  rw [← hLe] at hY ⊢
  have hL : ([] : List (List Value)) ++ r.map (fun x : Int => ([.int .i64 x] : List Value)) = L := by rw [hLe]; rfl
  clear hLe
  unfold bits_All_1_v1 at h
  refine WX.seq ?_
  obtain ⟨t1_2, h1_1, h⟩ := bind_some h
  refine WC.reg (n := 22) (by assumption) [(1, .resP (.tup [.s (.int .i64 t1_2.1), .s (.bool t1_2.2)]))] [0, 1, 3, 4] [] ⟨[(0, .yield), (1, .p (.rop ([.s (.int .i64 a1.N), slV (eI .u64) a1.Words]))), (3, .p (.s (.int .i64 t1_2.1))), (4, .p (.s (.bool t1_2.2)))], [], ⟨([] : List (List Value)), false⟩, []⟩ (And.intro ((bits_First_ok h1_1)) (trivial)) (by kernel_rfl) ?_
  refine WX.block ?_
  refine WC.loop (V := Int × Bool × List (List Value)) (fun k v2 => (bits_All_1_v1_l0 a1 k (v2.1, v2.2.1)).map fun r => v2.2.2 ++ r.map (fun x : Int => ([.int .i64 x] : List Value))) L (fun v2 => ⟨[(0, .yield), (1, .p (.rop ([.s (.int .i64 a1.N), slV (eI .u64) a1.Words]))), (3, .p (.s (.int .i64 v2.1))), (4, .p (.s (.bool v2.2.1)))], [], ⟨v2.2.2, false⟩, []⟩) _ (t1_2.1, t1_2.2, ([] : List (List Value))) (by rw [h]; exact congrArg some hL) (fun _ => rfl) [0, 1, 3, 4] [] (by kernel_rfl) ?_
  clear h hL; rintro k ⟨x2_1_1, x2_1_2, x2_1_3⟩ h K2 hnext2 hexit2
  obtain ⟨r, h, hL⟩ := mapO_some h
  dsimp only at h hL
  rw [bits_All_1_v1_l0] at h
  refine WX.seq ?_
  refine WX.seq ?_
  refine WC.reg (n := 22) (by assumption) [] [0, 1, 3, 10] [] ⟨[(0, .yield), (1, .p (.rop ([.s (.int .i64 a1.N), slV (eI .u64) a1.Words]))), (3, .p (.s (.int .i64 x2_1_1))), (10, .p (.s (.bool x2_1_2)))], [], ⟨x2_1_3, false⟩, []⟩ trivial (by kernel_rfl) ?_
  rcases if_or h with ⟨c12, h⟩ | ⟨c12, h⟩
  · refine WC.condT c12 (by kernel_rfl) ?_
    refine WX.skip ?_
    refine WX.seq ?_
    refine WX.block ?_
    refine WX.seq ?_
    obtain ⟨r13, hh13, hr13⟩ := mapO_some h
    subst hr13
    replace h := hh13
    refine WC.yld (n := 22) (by assumption) hY 2 [] [0, 1, 3, 21] [] (⟨[(0, .yield), (1, .p (.rop ([.s (.int .i64 a1.N), slV (eI .u64) a1.Words]))), (3, .p (.s (.int .i64 x2_1_1))), (21, .p (.s (.bool false)))], [], ⟨(x2_1_3 ++ [[.int .i64 x2_1_1]]), false⟩, []⟩) (⟨[(0, .yield), (1, .p (.rop ([.s (.int .i64 a1.N), slV (eI .u64) a1.Words]))), (3, .p (.s (.int .i64 x2_1_1))), (21, .p (.s (.bool true)))], [], ⟨(x2_1_3 ++ [[.int .i64 x2_1_1]]), true⟩, []⟩) x2_1_3 [.int .i64 x2_1_1] (And.intro True.intro (And.intro True.intro True.intro)) (by kernel_rfl) (pre_ok (val := (fun x : Int => ([.int .i64 x] : List Value))) (x := x2_1_1) (l := r13) hL) ?_ ?_
    · replace hL : (x2_1_3 ++ [[.int .i64 x2_1_1]]) ++ r13.map (fun x : Int => ([.int .i64 x] : List Value)) = L := by rw [← hL]; simp
      refine WC.condF rfl (by kernel_rfl) ?_
      refine WX.skip ?_
      refine WX.popBlk ?_
      obtain ⟨t14_2, h14_1, h⟩ := bind_some h
      refine WC.reg (n := 22) (by assumption) [(3, .resP (.tup [.s (.int .i64 t14_2.1), .s (.bool t14_2.2)]))] [0, 1, 3, 4] [] ⟨[(0, .yield), (1, .p (.rop ([.s (.int .i64 a1.N), slV (eI .u64) a1.Words]))), (3, .p (.s (.int .i64 t14_2.1))), (4, .p (.s (.bool t14_2.2)))], [], ⟨(x2_1_3 ++ [[.int .i64 x2_1_1]]), false⟩, []⟩ (And.intro ((bits_First_ok h14_1)) (trivial)) (by kernel_rfl) ?_
      exact WC.next [0, 1, 3, 4] [] (by kernel_rfl) (hnext2 (t14_2.1, t14_2.2, (x2_1_3 ++ [[.int .i64 x2_1_1]])) (by rw [h]; exact congrArg some hL))
    · refine WC.condT rfl (by kernel_rfl) ?_
      refine WX.ret ?_
      refine WC.ret_all (hexit2 _ _ (by simp) ?_)
      exact WC.ret_all ⟨by kernel_rfl, fun h => by cases h⟩
  · refine WC.condF c12 (by kernel_rfl) ?_
    refine WX.exit ?_
    refine WX.popCodeExit ?_
    refine WC.exit_nil (hexit2 _ _ (by simp) ?_)
    refine WX.popBlkHit ?_
    obtain rfl := Option.some.inj h
    exact WC.exit_nil ⟨by kernel_rfl, fun _ => by simpa using hL⟩
def bits_Shift_l0 (k : Nat) (a1 : Int) (t2_2 : api_Bits) (t3_2 : api_Bits) : List Int → List Int → Option (api_Bits)
  | [], x9_1_1 => some ((api_Bits.mk t3_2.N x9_1_1))
  | x9 :: xs9, x9_1_1 => (if (((decide ((IntKind.i64.wrap (x9 + a1)) ≥ 0))) && ((decide ((IntKind.i64.wrap (x9 + a1)) < t2_2.N)))) = true then (at_ x9_1_1 ((IntKind.i64.wrap (((IntKind.i64.wrap (x9 + a1))).tdiv 64)))).bind fun t27_2 => (if ¬ (((IntKind.i64.wrap (x9 + a1))).tmod 64) < 0 then bits_Shift_l0 k a1 t2_2 t3_2 xs9 (x9_1_1.set ((IntKind.i64.wrap (((IntKind.i64.wrap (x9 + a1))).tdiv 64))).toNat ((bits .or .u64 t27_2 ((IntKind.u64.wrap (1 * 2 ^ (min ((((IntKind.i64.wrap (x9 + a1))).tmod 64)).toNat IntKind.u64.bits))))))) else none) else bits_Shift_l0 k a1 t2_2 t3_2 xs9 x9_1_1)
def bits_Shift (k : Nat) (a0 : api_Bits) (a1 : Int) : Option (api_Bits) :=
  (bits_own a0).bind fun t2_2 => (bits_empty t2_2.N).bind fun t3_2 => (if (((decide (a1 ≥ t2_2.N))) || ((decide (a1 ≤ (IntKind.i64.wrap (0 - t2_2.N)))))) = true then some t3_2 else (bits_All t2_2).bind fun t8_2 => (bits_All_1_v1 k t8_2).bind fun l9 => bits_Shift_l0 k a1 t2_2 t3_2 l9 t3_2.Words)
theorem bits_Shift_ok {k : Nat} {a0 : api_Bits} {a1 : Int} {r : api_Bits} (h : bits_Shift k a0 a1 = some r) : AnsO Tryd.prog 46 [] [.p (.agg [.s (.int .i64 a0.N), slV (eI .u64) a0.Words]), .p (.s (.int .i64 a1))] [(12, rowV 22 (eI .u64) r.Words)] (.agg [.p (.s (.int .i64 r.N)), .own 12]) := by
  refine W_fnO [12] Tryd.func46 rfl (by kernel_rfl) (by kernel_rfl) (by kernel_rfl) (by kernel_rfl) ?_
  intro X hro hn
  unfold bits_Shift at h
  refine WX.seq ?_
  refine WC.reg (n := 51) (by assumption) [] [2, 3, 4] [2, 3, 4] ⟨[(2, .ptr 2 0), (3, .ptr 3 0), (4, .ptr 4 0)], [(2, .box 39 [.p (.s (.int .i64 a0.N)), .p (slV (eI .u64) a0.Words)]), (3, .box 3 [.p (.s (.int .i64 a1))]), (4, .box 39 [.p (.s (.int .i64 0)), .p (.sl .nil 0 [])])], ⟨[], false⟩, []⟩ trivial (by kernel_rfl) ?_
  refine WX.seq ?_
  obtain ⟨t2_2, h2_1, h⟩ := bind_some h
  refine WC.reg (n := 51) (by assumption) [(1, .co [] [] [] [(9, rowV 22 (eI .u64) t2_2.Words)] (.agg [.p (.s (.int .i64 t2_2.N)), .own 9]))] [2, 3, 4] [2, 3, 4, 9] ⟨[(2, .ptr 2 0), (3, .ptr 3 0), (4, .ptr 4 0)], [(2, .box 39 [.p (.s (.int .i64 t2_2.N)), .own 9]), (3, .box 3 [.p (.s (.int .i64 a1))]), (4, .box 39 [.p (.s (.int .i64 0)), .p (.sl .nil 0 [])]), (9, rowV 22 (eI .u64) t2_2.Words)], ⟨[], false⟩, []⟩ (And.intro (And.intro (bits_own_ok h2_1) (trivial)) (trivial)) (by kernel_rfl) ?_
  refine WX.seq ?_
  obtain ⟨t3_2, h3_1, h⟩ := bind_some h
  refine WC.reg (n := 51) (by assumption) [(2, .co [] [] [] [(12, rowV 22 (eI .u64) t3_2.Words)] (.agg [.p (.s (.int .i64 t3_2.N)), .own 12]))] [2, 3, 4, 5] [2, 3, 4, 5, 9, 12] ⟨[(2, .ptr 2 0), (3, .ptr 3 0), (4, .ptr 4 0), (5, .ptr 5 0)], [(2, .box 39 [.p (.s (.int .i64 t2_2.N)), .own 9]), (3, .box 3 [.p (.s (.int .i64 a1))]), (4, .box 39 [.p (.s (.int .i64 0)), .p (.sl .nil 0 [])]), (5, .box 39 [.p (.s (.int .i64 t3_2.N)), .own 12]), (9, rowV 22 (eI .u64) t2_2.Words), (12, rowV 22 (eI .u64) t3_2.Words)], ⟨[], false⟩, []⟩ (And.intro (And.intro ((bits_empty_ok h3_1).ren 6 12 (by kernel_rfl)) (trivial)) (trivial)) (by kernel_rfl) ?_
  refine WX.seq ?_
  refine WX.seq ?_
  refine WC.via (α := Bool) (fun v4 => ⟨[(2, .ptr 2 0), (3, .ptr 3 0), (4, .ptr 4 0), (5, .ptr 5 0), (23, .p (.s (.bool v4)))], [(2, .box 39 [.p (.s (.int .i64 t2_2.N)), .own 9]), (3, .box 3 [.p (.s (.int .i64 a1))]), (4, .box 39 [.p (.s (.int .i64 0)), .p (.sl .nil 0 [])]), (5, .box 39 [.p (.s (.int .i64 t3_2.N)), .own 12]), (9, rowV 22 (eI .u64) t2_2.Words), (12, rowV 22 (eI .u64) t3_2.Words)], ⟨[], false⟩, []⟩) ((((decide (a1 ≥ t2_2.N))) || ((decide (a1 ≤ (IntKind.i64.wrap (0 - t2_2.N))))))) (fun hk => ?_) ?_
  · rcases Bool.eq_false_or_eq_true ((decide (a1 ≥ t2_2.N))) with b4_4 | b4_4
    · exact WC.reg (n := 51) (by assumption) [(4, .val (.p (.s (.bool true))))] [2, 3, 4, 5, 23] [2, 3, 4, 5, 9, 12] ⟨[(2, .ptr 2 0), (3, .ptr 3 0), (4, .ptr 4 0), (5, .ptr 5 0), (23, .p (.s (.bool true)))], [(2, .box 39 [.p (.s (.int .i64 t2_2.N)), .own 9]), (3, .box 3 [.p (.s (.int .i64 a1))]), (4, .box 39 [.p (.s (.int .i64 0)), .p (.sl .nil 0 [])]), (5, .box 39 [.p (.s (.int .i64 t3_2.N)), .own 12]), (9, rowV 22 (eI .u64) t2_2.Words), (12, rowV 22 (eI .u64) t3_2.Words)], ⟨[], false⟩, []⟩ (And.intro (Bl b4_4) (trivial)) (by kernel_rfl) (hk true (by first | (rw [b4_4]; rfl) | simp [b4_4]))
    · exact WC.reg (n := 51) (by assumption) [(4, .val (.p (.s (.bool false))))] [2, 3, 4, 5, 23] [2, 3, 4, 5, 9, 12] ⟨[(2, .ptr 2 0), (3, .ptr 3 0), (4, .ptr 4 0), (5, .ptr 5 0), (23, .p (.s (.bool ((decide (a1 ≤ (IntKind.i64.wrap (0 - t2_2.N))))))))], [(2, .box 39 [.p (.s (.int .i64 t2_2.N)), .own 9]), (3, .box 3 [.p (.s (.int .i64 a1))]), (4, .box 39 [.p (.s (.int .i64 0)), .p (.sl .nil 0 [])]), (5, .box 39 [.p (.s (.int .i64 t3_2.N)), .own 12]), (9, rowV 22 (eI .u64) t2_2.Words), (12, rowV 22 (eI .u64) t3_2.Words)], ⟨[], false⟩, []⟩ (And.intro (Bl b4_4) (trivial)) (by kernel_rfl) (hk ((decide (a1 ≤ (IntKind.i64.wrap (0 - t2_2.N))))) (by first | (rw [b4_4]; rfl) | simp [b4_4]))
  rcases if_or h with ⟨c5, h⟩ | ⟨c5, h⟩
  · refine WC.condT c5 (by kernel_rfl) ?_
    refine WX.seq ?_
    refine WC.reg (n := 51) (by assumption) [] [4] [4, 12] ⟨[(4, .ptr 4 0)], [(4, .box 39 [.p (.s (.int .i64 t3_2.N)), .own 12]), (12, rowV 22 (eI .u64) t3_2.Words)], ⟨[], false⟩, []⟩ trivial (by kernel_rfl) ?_
    refine WX.ret ?_
    exact WC.outO (by rw [← Option.some.inj h]; kernel_rfl)
  · refine WC.condF c5 (by kernel_rfl) ?_
    refine WX.skip ?_
    refine WX.seq ?_
    refine WX.seq ?_
    refine WC.frz 9 (st' := ⟨[(2, .ptr 2 0), (3, .ptr 3 0), (4, .ptr 4 0), (5, .ptr 5 0), (23, .p (.s (.bool ((((decide (a1 ≥ t2_2.N))) || ((decide (a1 ≤ (IntKind.i64.wrap (0 - t2_2.N))))))))))], [(2, .box 39 [.p (.s (.int .i64 t2_2.N)), .p (slV (eI .u64) t2_2.Words)]), (3, .box 3 [.p (.s (.int .i64 a1))]), (4, .box 39 [.p (.s (.int .i64 0)), .p (.sl .nil 0 [])]), (5, .box 39 [.p (.s (.int .i64 t3_2.N)), .own 12]), (12, rowV 22 (eI .u64) t3_2.Words)], ⟨[], false⟩, []⟩) (by kernel_rfl) ?_
    obtain ⟨t8_2, h8_1, h⟩ := bind_some h
    refine WC.reg (n := 51) (by assumption) [(1, .resP (.fn 63 [.rop ([.s (.int .i64 t8_2.N), slV (eI .u64) t8_2.Words])]))] [2, 3, 4, 5, 26] [2, 3, 4, 5, 12] ⟨[(2, .ptr 2 0), (3, .ptr 3 0), (4, .ptr 4 0), (5, .ptr 5 0), (26, .p (.fn 63 [.rop ([.s (.int .i64 t8_2.N), slV (eI .u64) t8_2.Words])]))], [(2, .box 39 [.p (.s (.int .i64 t2_2.N)), .p (slV (eI .u64) t2_2.Words)]), (3, .box 3 [.p (.s (.int .i64 a1))]), (4, .box 39 [.p (.s (.int .i64 0)), .p (.sl .nil 0 [])]), (5, .box 39 [.p (.s (.int .i64 t3_2.N)), .own 12]), (12, rowV 22 (eI .u64) t3_2.Words)], ⟨[], false⟩, []⟩ (And.intro ((bits_All_ok h8_1)) (trivial)) (by kernel_rfl) ?_
    refine WX.block ?_
    obtain ⟨l9, hI9, h⟩ := bind_some h
    refine WC.range (V := List Int) (n := 51) (by assumption) (bits_Shift_l0 k a1 t2_2 t3_2) r (fun v9 => ⟨[(2, .ptr 2 0), (3, .ptr 3 0), (4, .ptr 4 0), (5, .ptr 5 0), (26, .p (.fn 63 [.rop ([.s (.int .i64 t8_2.N), slV (eI .u64) t8_2.Words])]))], [(2, .box 39 [.p (.s (.int .i64 t2_2.N)), .p (slV (eI .u64) t2_2.Words)]), (3, .box 3 [.p (.s (.int .i64 a1))]), (4, .box 39 [.p (.s (.int .i64 0)), .p (.sl .nil 0 [])]), (5, .box 39 [.p (.s (.int .i64 t3_2.N)), .own 12]), (12, rowV 22 (eI .u64) v9)], ⟨[], false⟩, []⟩) (fun x9 v9 => ⟨[(2, .ptr 2 0), (3, .ptr 3 0), (4, .ptr 4 0), (5, .ptr 5 0), (6, .p (.s (.int .i64 x9))), (26, .p (.fn 63 [.rop ([.s (.int .i64 t8_2.N), slV (eI .u64) t8_2.Words])])), (27, .p (.s (.int .i64 x9)))], [(2, .box 39 [.p (.s (.int .i64 t2_2.N)), .p (slV (eI .u64) t2_2.Words)]), (3, .box 3 [.p (.s (.int .i64 a1))]), (4, .box 39 [.p (.s (.int .i64 0)), .p (.sl .nil 0 [])]), (5, .box 39 [.p (.s (.int .i64 t3_2.N)), .own 12]), (12, rowV 22 (eI .u64) v9)], ⟨[], false⟩, [[(2, .ptr 2 0), (3, .ptr 3 0), (4, .ptr 4 0), (5, .ptr 5 0), (26, .p (.fn 63 [.rop ([.s (.int .i64 t8_2.N), slV (eI .u64) t8_2.Words])]))]]⟩) (fun x : Int => ([.int .i64 x] : List Value)) l9 t3_2.Words h [2, 3, 4, 5, 26] [2, 3, 4, 5, 12] (by kernel_rfl) (fun v9 => .p (.fn 63 [.rop ([.s (.int .i64 t8_2.N), slV (eI .u64) t8_2.Words])])) (fun v9 => by kernel_rfl) (by kernel_rfl) (bits_All_1_v1_it hI9) (by kernel_rfl) (fun v9 => by kernel_rfl) (fun x => ⟨rfl, rfl⟩) ?_ ?_ ?_
    · clear h; rintro x9_1_1 h
      rw [bits_Shift_l0] at h
      refine WX.popBlk ?_
      refine WX.seq ?_
      refine WC.reg (n := 51) (by assumption) [] [4] [4, 12] ⟨[(4, .ptr 4 0)], [(4, .box 39 [.p (.s (.int .i64 t3_2.N)), .own 12]), (12, rowV 22 (eI .u64) x9_1_1)], ⟨[], false⟩, []⟩ trivial (by kernel_rfl) ?_
      refine WX.ret ?_
      exact WC.outO (by rw [← Option.some.inj h]; kernel_rfl)
    · clear h; intro X hn x9; rintro x9_1_1
      refine WC.reg (n := 51) (by assumption) [] [2, 3, 4, 5, 6, 26, 27] [2, 3, 4, 5, 12] ⟨[(2, .ptr 2 0), (3, .ptr 3 0), (4, .ptr 4 0), (5, .ptr 5 0), (6, .p (.s (.int .i64 x9))), (26, .p (.fn 63 [.rop ([.s (.int .i64 t8_2.N), slV (eI .u64) t8_2.Words])])), (27, .p (.s (.int .i64 x9)))], [(2, .box 39 [.p (.s (.int .i64 t2_2.N)), .p (slV (eI .u64) t2_2.Words)]), (3, .box 3 [.p (.s (.int .i64 a1))]), (4, .box 39 [.p (.s (.int .i64 0)), .p (.sl .nil 0 [])]), (5, .box 39 [.p (.s (.int .i64 t3_2.N)), .own 12]), (12, rowV 22 (eI .u64) x9_1_1)], ⟨[], false⟩, [[(2, .ptr 2 0), (3, .ptr 3 0), (4, .ptr 4 0), (5, .ptr 5 0), (26, .p (.fn 63 [.rop ([.s (.int .i64 t8_2.N), slV (eI .u64) t8_2.Words])]))]]⟩ trivial (by kernel_rfl) ?_
      exact WC.exit_nil ⟨rfl, rfl⟩
    · clear h; intro X hn x9 xs9; rintro x9_1_1 h K9 hnext9 hexit9
      rw [bits_Shift_l0] at h
      refine WX.block ?_
      refine WX.seq ?_
      refine WC.reg (n := 51) (by assumption) [] [2, 5, 7] [2, 3, 4, 5, 12] ⟨[(2, .ptr 2 0), (5, .ptr 5 0), (7, .p (.s (.int .i64 ((IntKind.i64.wrap (x9 + a1))))))], [(2, .box 39 [.p (.s (.int .i64 t2_2.N)), .p (slV (eI .u64) t2_2.Words)]), (3, .box 3 [.p (.s (.int .i64 a1))]), (4, .box 39 [.p (.s (.int .i64 0)), .p (.sl .nil 0 [])]), (5, .box 39 [.p (.s (.int .i64 t3_2.N)), .own 12]), (12, rowV 22 (eI .u64) x9_1_1)], ⟨[], false⟩, [[(2, .ptr 2 0), (3, .ptr 3 0), (4, .ptr 4 0), (5, .ptr 5 0), (26, .p (.fn 63 [.rop ([.s (.int .i64 t8_2.N), slV (eI .u64) t8_2.Words])]))]]⟩ trivial (by kernel_rfl) ?_
      refine WX.seq ?_
      refine WC.via (α := Bool) (fun v25 => ⟨[(5, .ptr 5 0), (7, .p (.s (.int .i64 ((IntKind.i64.wrap (x9 + a1)))))), (38, .p (.s (.bool v25)))], [(2, .box 39 [.p (.s (.int .i64 t2_2.N)), .p (slV (eI .u64) t2_2.Words)]), (3, .box 3 [.p (.s (.int .i64 a1))]), (4, .box 39 [.p (.s (.int .i64 0)), .p (.sl .nil 0 [])]), (5, .box 39 [.p (.s (.int .i64 t3_2.N)), .own 12]), (12, rowV 22 (eI .u64) x9_1_1)], ⟨[], false⟩, [[(2, .ptr 2 0), (3, .ptr 3 0), (4, .ptr 4 0), (5, .ptr 5 0), (26, .p (.fn 63 [.rop ([.s (.int .i64 t8_2.N), slV (eI .u64) t8_2.Words])]))]]⟩) ((((decide ((IntKind.i64.wrap (x9 + a1)) ≥ 0))) && ((decide ((IntKind.i64.wrap (x9 + a1)) < t2_2.N))))) (fun hk => ?_) ?_
      · rcases Bool.eq_false_or_eq_true ((decide ((IntKind.i64.wrap (x9 + a1)) ≥ 0))) with b25_2 | b25_2
        · exact WC.reg (n := 51) (by assumption) [(2, .val (.p (.s (.bool true))))] [5, 7, 38] [2, 3, 4, 5, 12] ⟨[(5, .ptr 5 0), (7, .p (.s (.int .i64 ((IntKind.i64.wrap (x9 + a1)))))), (38, .p (.s (.bool ((decide ((IntKind.i64.wrap (x9 + a1)) < t2_2.N))))))], [(2, .box 39 [.p (.s (.int .i64 t2_2.N)), .p (slV (eI .u64) t2_2.Words)]), (3, .box 3 [.p (.s (.int .i64 a1))]), (4, .box 39 [.p (.s (.int .i64 0)), .p (.sl .nil 0 [])]), (5, .box 39 [.p (.s (.int .i64 t3_2.N)), .own 12]), (12, rowV 22 (eI .u64) x9_1_1)], ⟨[], false⟩, [[(2, .ptr 2 0), (3, .ptr 3 0), (4, .ptr 4 0), (5, .ptr 5 0), (26, .p (.fn 63 [.rop ([.s (.int .i64 t8_2.N), slV (eI .u64) t8_2.Words])]))]]⟩ (And.intro (Bl b25_2) (trivial)) (by kernel_rfl) (hk ((decide ((IntKind.i64.wrap (x9 + a1)) < t2_2.N))) (by first | (rw [b25_2]; rfl) | simp [b25_2]))
        · exact WC.reg (n := 51) (by assumption) [(2, .val (.p (.s (.bool false))))] [5, 7, 38] [2, 3, 4, 5, 12] ⟨[(5, .ptr 5 0), (7, .p (.s (.int .i64 ((IntKind.i64.wrap (x9 + a1)))))), (38, .p (.s (.bool false)))], [(2, .box 39 [.p (.s (.int .i64 t2_2.N)), .p (slV (eI .u64) t2_2.Words)]), (3, .box 3 [.p (.s (.int .i64 a1))]), (4, .box 39 [.p (.s (.int .i64 0)), .p (.sl .nil 0 [])]), (5, .box 39 [.p (.s (.int .i64 t3_2.N)), .own 12]), (12, rowV 22 (eI .u64) x9_1_1)], ⟨[], false⟩, [[(2, .ptr 2 0), (3, .ptr 3 0), (4, .ptr 4 0), (5, .ptr 5 0), (26, .p (.fn 63 [.rop ([.s (.int .i64 t8_2.N), slV (eI .u64) t8_2.Words])]))]]⟩ (And.intro (Bl b25_2) (trivial)) (by kernel_rfl) (hk false (by first | (rw [b25_2]; rfl) | simp [b25_2]))
      rcases if_or h with ⟨c26, h⟩ | ⟨c26, h⟩
      · refine WC.condT c26 (by kernel_rfl) ?_
        obtain ⟨t27_2, h27_1, h⟩ := bind_some h
        obtain ⟨c27_3, h⟩ := if_some h
        refine WC.drw (n := 51) (by assumption) [(11, [])] [] [(4, .val (.ptr 12 (((IntKind.i64.wrap (((IntKind.i64.wrap (x9 + a1))).tdiv 64))).toNat * 1))), (5, .val (.p (.s (.int .u64 t27_2)))), (8, .val (.p (.s (.int .u64 (IntKind.u64.wrap (1 * 2 ^ (min ((((IntKind.i64.wrap (x9 + a1))).tmod 64)).toNat IntKind.u64.bits))))))), (10, .val (.ptr 12 (((IntKind.i64.wrap (((IntKind.i64.wrap (x9 + a1))).tdiv 64))).toNat * 1))), (11, .sto 12 (rowV 22 (eI .u64) (x9_1_1.set ((IntKind.i64.wrap (((IntKind.i64.wrap (x9 + a1))).tdiv 64))).toNat ((bits .or .u64 t27_2 ((IntKind.u64.wrap (1 * 2 ^ (min ((((IntKind.i64.wrap (x9 + a1))).tmod 64)).toNat IntKind.u64.bits)))))))))] [] [2, 3, 4, 5, 12] ⟨[], [(2, .box 39 [.p (.s (.int .i64 t2_2.N)), .p (slV (eI .u64) t2_2.Words)]), (3, .box 3 [.p (.s (.int .i64 a1))]), (4, .box 39 [.p (.s (.int .i64 0)), .p (.sl .nil 0 [])]), (5, .box 39 [.p (.s (.int .i64 t3_2.N)), .own 12]), (12, rowV 22 (eI .u64) (x9_1_1.set ((IntKind.i64.wrap (((IntKind.i64.wrap (x9 + a1))).tdiv 64))).toNat ((bits .or .u64 t27_2 ((IntKind.u64.wrap (1 * 2 ^ (min ((((IntKind.i64.wrap (x9 + a1))).tmod 64)).toNat IntKind.u64.bits))))))))], ⟨[], false⟩, [[(2, .ptr 2 0), (3, .ptr 3 0), (4, .ptr 4 0), (5, .ptr 5 0), (26, .p (.fn 63 [.rop ([.s (.int .i64 t8_2.N), slV (eI .u64) t8_2.Words])]))]]⟩ (And.intro (IxO 12 1 h27_1) (And.intro (LdO0 Tryd.prog (eI .u64) 22 h27_1) (And.intro (Shl .u64 1 ((((IntKind.i64.wrap (x9 + a1))).tmod 64)) c27_3) (And.intro (IxO 12 1 h27_1) (And.intro (StO0 (eI .u64) 12 22 1 1 [.s (.int .u64 ((bits .or .u64 t27_2 ((IntKind.u64.wrap (1 * 2 ^ (min ((((IntKind.i64.wrap (x9 + a1))).tmod 64)).toNat IntKind.u64.bits)))))))] ((bits .or .u64 t27_2 ((IntKind.u64.wrap (1 * 2 ^ (min ((((IntKind.i64.wrap (x9 + a1))).tmod 64)).toNat IntKind.u64.bits)))))) h27_1 rfl rfl (by decide)) (trivial)))))) (by kernel_rfl) (by kernel_rfl) (by kernel_rfl) (by kernel_rfl) ?_
        refine WX.popBlk ?_
        refine WC.keep [] [2, 3, 4, 5, 12] (st' := ⟨[], [(2, .box 39 [.p (.s (.int .i64 t2_2.N)), .p (slV (eI .u64) t2_2.Words)]), (3, .box 3 [.p (.s (.int .i64 a1))]), (4, .box 39 [.p (.s (.int .i64 0)), .p (.sl .nil 0 [])]), (5, .box 39 [.p (.s (.int .i64 t3_2.N)), .own 12]), (12, rowV 22 (eI .u64) (x9_1_1.set ((IntKind.i64.wrap (((IntKind.i64.wrap (x9 + a1))).tdiv 64))).toNat ((bits .or .u64 t27_2 ((IntKind.u64.wrap (1 * 2 ^ (min ((((IntKind.i64.wrap (x9 + a1))).tmod 64)).toNat IntKind.u64.bits))))))))], ⟨[], false⟩, [[(2, .ptr 2 0), (3, .ptr 3 0), (4, .ptr 4 0), (5, .ptr 5 0), (26, .p (.fn 63 [.rop ([.s (.int .i64 t8_2.N), slV (eI .u64) t8_2.Words])]))]]⟩) (by kernel_rfl) ?_
        exact WC.nextR [] [2, 3, 4, 5, 12] (s := ⟨[], [(2, .box 39 [.p (.s (.int .i64 t2_2.N)), .p (slV (eI .u64) t2_2.Words)]), (3, .box 3 [.p (.s (.int .i64 a1))]), (4, .box 39 [.p (.s (.int .i64 0)), .p (.sl .nil 0 [])]), (5, .box 39 [.p (.s (.int .i64 t3_2.N)), .own 12]), (12, rowV 22 (eI .u64) (x9_1_1.set ((IntKind.i64.wrap (((IntKind.i64.wrap (x9 + a1))).tdiv 64))).toNat ((bits .or .u64 t27_2 ((IntKind.u64.wrap (1 * 2 ^ (min ((((IntKind.i64.wrap (x9 + a1))).tmod 64)).toNat IntKind.u64.bits))))))))], ⟨[], false⟩, [[(2, .ptr 2 0), (3, .ptr 3 0), (4, .ptr 4 0), (5, .ptr 5 0), (26, .p (.fn 63 [.rop ([.s (.int .i64 t8_2.N), slV (eI .u64) t8_2.Words])]))]]⟩) (by kernel_rfl) rfl (fun s hb => hnext9 (x9_1_1.set ((IntKind.i64.wrap (((IntKind.i64.wrap (x9 + a1))).tdiv 64))).toNat ((bits .or .u64 t27_2 ((IntKind.u64.wrap (1 * 2 ^ (min ((((IntKind.i64.wrap (x9 + a1))).tmod 64)).toNat IntKind.u64.bits))))))) s h hb)
      · refine WC.condF c26 (by kernel_rfl) ?_
        refine WX.skip ?_
        refine WX.popBlk ?_
        refine WC.keep [] [2, 3, 4, 5, 12] (st' := ⟨[], [(2, .box 39 [.p (.s (.int .i64 t2_2.N)), .p (slV (eI .u64) t2_2.Words)]), (3, .box 3 [.p (.s (.int .i64 a1))]), (4, .box 39 [.p (.s (.int .i64 0)), .p (.sl .nil 0 [])]), (5, .box 39 [.p (.s (.int .i64 t3_2.N)), .own 12]), (12, rowV 22 (eI .u64) x9_1_1)], ⟨[], false⟩, [[(2, .ptr 2 0), (3, .ptr 3 0), (4, .ptr 4 0), (5, .ptr 5 0), (26, .p (.fn 63 [.rop ([.s (.int .i64 t8_2.N), slV (eI .u64) t8_2.Words])]))]]⟩) (by kernel_rfl) ?_
        exact WC.nextR [] [2, 3, 4, 5, 12] (s := ⟨[], [(2, .box 39 [.p (.s (.int .i64 t2_2.N)), .p (slV (eI .u64) t2_2.Words)]), (3, .box 3 [.p (.s (.int .i64 a1))]), (4, .box 39 [.p (.s (.int .i64 0)), .p (.sl .nil 0 [])]), (5, .box 39 [.p (.s (.int .i64 t3_2.N)), .own 12]), (12, rowV 22 (eI .u64) x9_1_1)], ⟨[], false⟩, [[(2, .ptr 2 0), (3, .ptr 3 0), (4, .ptr 4 0), (5, .ptr 5 0), (26, .p (.fn 63 [.rop ([.s (.int .i64 t8_2.N), slV (eI .u64) t8_2.Words])]))]]⟩) (by kernel_rfl) rfl (fun s hb => hnext9 x9_1_1 s h hb)
theorem bits_Shift_okP {k : Nat} {a0 : api_Bits} {a1 : Int} {r : api_Bits} (h : bits_Shift k a0 a1 = some r) : Ans Tryd.prog 46 [.agg [.s (.int .i64 a0.N), slV (eI .u64) a0.Words], .s (.int .i64 a1)] (.agg [.s (.int .i64 r.N), slV (eI .u64) r.Words]) := AnsO.ans (args := [.agg [.s (.int .i64 a0.N), slV (eI .u64) a0.Words], .s (.int .i64 a1)]) (bits_Shift_ok h) (by kernel_rfl)
def ring_Next (k : Nat) (a0 : api_Ring) (a1 : api_Bits) (a2 : Int) : Option (api_Bits) :=
  (ring_may a0).bind fun t2_2 => (class_Has t2_2.Class a2).bind fun t3_2 => (if (!t3_2) = true then (ring_None k t2_2).bind fun t5_2 => some t5_2 else (ring_state k t2_2 a1).bind fun t6_2 => (bits_Shift k t6_2 1).bind fun t6_4 => some t6_4)
theorem ring_Next_ok {k : Nat} {a0 : api_Ring} {a1 : api_Bits} {a2 : Int} {r : api_Bits} (h : ring_Next k a0 a1 a2 = some r) : AnsO Tryd.prog 25 [] [.p (.agg [.s (.int .u64 a0.Class.a0), .s (.int .u64 a0.Class.a1), .s (.int .u64 a0.Class.a2), .s (.int .u64 a0.Class.a3), .s (.int .i64 a0.Least), .s (.int .i64 a0.Most)]), .p (.agg [.s (.int .i64 a1.N), slV (eI .u64) a1.Words]), .p (.s (.int .u8 a2))] [(15, rowV 22 (eI .u64) r.Words)] (.agg [.p (.s (.int .i64 r.N)), .own 15]) := by
  refine W_fnO [15] Tryd.func25 rfl (by kernel_rfl) (by kernel_rfl) (by kernel_rfl) (by kernel_rfl) ?_
  intro X hro hn
  unfold ring_Next at h
  refine WX.seq ?_
  refine WC.reg (n := 20) (by assumption) [] [2, 3, 4, 6] [3, 4, 6] ⟨[(2, .p (.s (.int .u8 a2))), (3, .ptr 3 0), (4, .ptr 4 0), (6, .ptr 6 0)], [(3, .box 26 [.p (.s (.int .u64 a0.Class.a0)), .p (.s (.int .u64 a0.Class.a1)), .p (.s (.int .u64 a0.Class.a2)), .p (.s (.int .u64 a0.Class.a3)), .p (.s (.int .i64 a0.Least)), .p (.s (.int .i64 a0.Most))]), (4, .box 39 [.p (.s (.int .i64 a1.N)), .p (slV (eI .u64) a1.Words)]), (6, .box 39 [.p (.s (.int .i64 0)), .p (.sl .nil 0 [])])], ⟨[], false⟩, []⟩ trivial (by kernel_rfl) ?_
  refine WX.seq ?_
  obtain ⟨t2_2, h2_1, h⟩ := bind_some h
  refine WC.reg (n := 20) (by assumption) [(1, .resP (.agg [.s (.int .u64 t2_2.Class.a0), .s (.int .u64 t2_2.Class.a1), .s (.int .u64 t2_2.Class.a2), .s (.int .u64 t2_2.Class.a3), .s (.int .i64 t2_2.Least), .s (.int .i64 t2_2.Most)]))] [2, 3, 4, 6] [3, 4, 6] ⟨[(2, .p (.s (.int .u8 a2))), (3, .ptr 3 0), (4, .ptr 4 0), (6, .ptr 6 0)], [(3, .box 26 [.p (.s (.int .u64 t2_2.Class.a0)), .p (.s (.int .u64 t2_2.Class.a1)), .p (.s (.int .u64 t2_2.Class.a2)), .p (.s (.int .u64 t2_2.Class.a3)), .p (.s (.int .i64 t2_2.Least)), .p (.s (.int .i64 t2_2.Most))]), (4, .box 39 [.p (.s (.int .i64 a1.N)), .p (slV (eI .u64) a1.Words)]), (6, .box 39 [.p (.s (.int .i64 0)), .p (.sl .nil 0 [])])], ⟨[], false⟩, []⟩ (And.intro ((ring_may_ok h2_1)) (trivial)) (by kernel_rfl) ?_
  refine WX.seq ?_
  refine WX.seq ?_
  obtain ⟨t3_2, h3_1, h⟩ := bind_some h
  refine WC.reg (n := 20) (by assumption) [(3, .resP (.s (.bool t3_2)))] [3, 4, 6, 13] [3, 4, 6] ⟨[(3, .ptr 3 0), (4, .ptr 4 0), (6, .ptr 6 0), (13, .p (.s (.bool ((!t3_2)))))], [(3, .box 26 [.p (.s (.int .u64 t2_2.Class.a0)), .p (.s (.int .u64 t2_2.Class.a1)), .p (.s (.int .u64 t2_2.Class.a2)), .p (.s (.int .u64 t2_2.Class.a3)), .p (.s (.int .i64 t2_2.Least)), .p (.s (.int .i64 t2_2.Most))]), (4, .box 39 [.p (.s (.int .i64 a1.N)), .p (slV (eI .u64) a1.Words)]), (6, .box 39 [.p (.s (.int .i64 0)), .p (.sl .nil 0 [])])], ⟨[], false⟩, []⟩ (And.intro ((class_Has_ok h3_1)) (trivial)) (by kernel_rfl) ?_
  rcases if_or h with ⟨c4, h⟩ | ⟨c4, h⟩
  · refine WC.condT c4 (by kernel_rfl) ?_
    refine WX.seq ?_
    obtain ⟨t5_2, h5_1, h⟩ := bind_some h
    refine WC.reg (n := 20) (by assumption) [(1, .co [] [] [] [(15, rowV 22 (eI .u64) t5_2.Words)] (.agg [.p (.s (.int .i64 t5_2.N)), .own 15]))] [6] [6, 15] ⟨[(6, .ptr 6 0)], [(6, .box 39 [.p (.s (.int .i64 t5_2.N)), .own 15]), (15, rowV 22 (eI .u64) t5_2.Words)], ⟨[], false⟩, []⟩ (And.intro (And.intro ((ring_None_ok h5_1).ren 10 15 (by kernel_rfl)) (trivial)) (trivial)) (by kernel_rfl) ?_
    refine WX.ret ?_
    exact WC.outO (by rw [← Option.some.inj h]; kernel_rfl)
  · refine WC.condF c4 (by kernel_rfl) ?_
    refine WX.skip ?_
    refine WX.seq ?_
    obtain ⟨t6_2, h6_1, h⟩ := bind_some h
    obtain ⟨t6_4, h6_3, h⟩ := bind_some h
    refine WC.reg (n := 20) (by assumption) [(2, .resP (.agg [.s (.int .i64 t6_2.N), slV (eI .u64) t6_2.Words])), (3, .co [] [] [] [(19, rowV 22 (eI .u64) t6_4.Words)] (.agg [.p (.s (.int .i64 t6_4.N)), .own 19]))] [6] [6, 19] ⟨[(6, .ptr 6 0)], [(6, .box 39 [.p (.s (.int .i64 t6_4.N)), .own 19]), (19, rowV 22 (eI .u64) t6_4.Words)], ⟨[], false⟩, []⟩ (And.intro ((ring_state_ok h6_1)) (And.intro (And.intro ((bits_Shift_ok h6_3).ren 12 19 (by kernel_rfl)) (trivial)) (trivial))) (by kernel_rfl) ?_
    refine WX.ret ?_
    refine WC.ren (n := 20) (by assumption) 19 15 (by kernel_rfl) [6] [6, 15] (st' := ⟨[(6, .ptr 6 0)], [(6, .box 39 [.p (.s (.int .i64 t6_4.N)), .own 15]), (15, rowV 22 (eI .u64) t6_4.Words)], ⟨[], false⟩, []⟩) (by kernel_rfl) ?_
    exact WC.outO (by rw [← Option.some.inj h]; kernel_rfl)
theorem ring_Next_okP {k : Nat} {a0 : api_Ring} {a1 : api_Bits} {a2 : Int} {r : api_Bits} (h : ring_Next k a0 a1 a2 = some r) : Ans Tryd.prog 25 [.agg [.s (.int .u64 a0.Class.a0), .s (.int .u64 a0.Class.a1), .s (.int .u64 a0.Class.a2), .s (.int .u64 a0.Class.a3), .s (.int .i64 a0.Least), .s (.int .i64 a0.Most)], .agg [.s (.int .i64 a1.N), slV (eI .u64) a1.Words], .s (.int .u8 a2)] (.agg [.s (.int .i64 r.N), slV (eI .u64) r.Words]) := AnsO.ans (args := [.agg [.s (.int .u64 a0.Class.a0), .s (.int .u64 a0.Class.a1), .s (.int .u64 a0.Class.a2), .s (.int .u64 a0.Class.a3), .s (.int .i64 a0.Least), .s (.int .i64 a0.Most)], .agg [.s (.int .i64 a1.N), slV (eI .u64) a1.Words], .s (.int .u8 a2)]) (ring_Next_ok h) (by kernel_rfl)
def ring_Accepts (k : Nat) (a0 : api_Ring) (a1 : api_Bits) : Option (Bool) :=
  (ring_may a0).bind fun t2_2 => (ring_state k t2_2 a1).bind fun t3_2 => (bits_First k t3_2 t2_2.Least).bind fun t3_4 => some t3_4.2
theorem ring_Accepts_ok {k : Nat} {a0 : api_Ring} {a1 : api_Bits} {r : Bool} (h : ring_Accepts k a0 a1 = some r) : Ans Tryd.prog 28 [.agg [.s (.int .u64 a0.Class.a0), .s (.int .u64 a0.Class.a1), .s (.int .u64 a0.Class.a2), .s (.int .u64 a0.Class.a3), .s (.int .i64 a0.Least), .s (.int .i64 a0.Most)], .agg [.s (.int .i64 a1.N), slV (eI .u64) a1.Words]] (.s (.bool r)) := by
  refine W_fn Tryd.func28 rfl (by kernel_rfl) (by kernel_rfl) ?_
  intro X hro hn
  unfold ring_Accepts at h
  refine WX.seq ?_
  refine WC.reg (n := 19) (by assumption) [] [2, 3] [2, 3] ⟨[(2, .ptr 2 0), (3, .ptr 3 0)], [(2, .box 26 [.p (.s (.int .u64 a0.Class.a0)), .p (.s (.int .u64 a0.Class.a1)), .p (.s (.int .u64 a0.Class.a2)), .p (.s (.int .u64 a0.Class.a3)), .p (.s (.int .i64 a0.Least)), .p (.s (.int .i64 a0.Most))]), (3, .box 39 [.p (.s (.int .i64 a1.N)), .p (slV (eI .u64) a1.Words)])], ⟨[], false⟩, []⟩ trivial (by kernel_rfl) ?_
  refine WX.seq ?_
  obtain ⟨t2_2, h2_1, h⟩ := bind_some h
  refine WC.reg (n := 19) (by assumption) [(1, .resP (.agg [.s (.int .u64 t2_2.Class.a0), .s (.int .u64 t2_2.Class.a1), .s (.int .u64 t2_2.Class.a2), .s (.int .u64 t2_2.Class.a3), .s (.int .i64 t2_2.Least), .s (.int .i64 t2_2.Most)]))] [2, 3] [2, 3] ⟨[(2, .ptr 2 0), (3, .ptr 3 0)], [(2, .box 26 [.p (.s (.int .u64 t2_2.Class.a0)), .p (.s (.int .u64 t2_2.Class.a1)), .p (.s (.int .u64 t2_2.Class.a2)), .p (.s (.int .u64 t2_2.Class.a3)), .p (.s (.int .i64 t2_2.Least)), .p (.s (.int .i64 t2_2.Most))]), (3, .box 39 [.p (.s (.int .i64 a1.N)), .p (slV (eI .u64) a1.Words)])], ⟨[], false⟩, []⟩ (And.intro ((ring_may_ok h2_1)) (trivial)) (by kernel_rfl) ?_
  refine WX.seq ?_
  obtain ⟨t3_2, h3_1, h⟩ := bind_some h
  obtain ⟨t3_4, h3_3, h⟩ := bind_some h
  refine WC.drw (n := 19) (by assumption) [] [] [(2, .resP (.agg [.s (.int .i64 t3_2.N), slV (eI .u64) t3_2.Words])), (5, .resP (.tup [.s (.int .i64 t3_4.1), .s (.bool t3_4.2)]))] [6] [] ⟨[(6, .p (.s (.bool t3_4.2)))], [], ⟨[], false⟩, []⟩ (And.intro ((ring_state_ok h3_1)) (And.intro ((bits_First_ok h3_3)) (trivial))) (by kernel_rfl) (by kernel_rfl) (by kernel_rfl) (by kernel_rfl) ?_
  refine WX.seq ?_
  refine WC.reg (n := 19) (by assumption) [] [4] [] ⟨[(4, .p (.s (.bool t3_4.2)))], [], ⟨[], false⟩, []⟩ trivial (by kernel_rfl) ?_
  refine WX.ret ?_
  exact WC.outP (by rw [← Option.some.inj h]; kernel_rfl)
def ring_Ends (a0 : api_Ring) (a1 : (List Int)) (a2 : (List Int)) : Option ((api_Ring × (List Int) × (List Int))) :=
  (ring_may a0).bind fun t2_2 => some ((t2_2, a2, a1))
theorem ring_Ends_ok {a0 : api_Ring} {a1 : (List Int)} {a2 : (List Int)} {r : (api_Ring × (List Int) × (List Int))} (h : ring_Ends a0 a1 a2 = some r) : Ans Tryd.prog 30 [.agg [.s (.int .u64 a0.Class.a0), .s (.int .u64 a0.Class.a1), .s (.int .u64 a0.Class.a2), .s (.int .u64 a0.Class.a3), .s (.int .i64 a0.Least), .s (.int .i64 a0.Most)], slV (eI .i64) a1, slV (eI .u8) a2] (.fn 51 [.rop ([.s (.int .u64 r.1.Class.a0), .s (.int .u64 r.1.Class.a1), .s (.int .u64 r.1.Class.a2), .s (.int .u64 r.1.Class.a3), .s (.int .i64 r.1.Least), .s (.int .i64 r.1.Most)]), .rop ([slV (eI .u8) r.2.1]), .rop ([slV (eI .i64) r.2.2])]) := by
  refine W_fn Tryd.func30 rfl (by kernel_rfl) (by kernel_rfl) ?_
  intro X hro hn
  unfold ring_Ends at h
  refine WX.seq ?_
  refine WC.reg (n := 10) (by assumption) [] [3, 4, 5] [3, 4, 5] ⟨[(3, .ptr 3 0), (4, .ptr 4 0), (5, .ptr 5 0)], [(3, .box 26 [.p (.s (.int .u64 a0.Class.a0)), .p (.s (.int .u64 a0.Class.a1)), .p (.s (.int .u64 a0.Class.a2)), .p (.s (.int .u64 a0.Class.a3)), .p (.s (.int .i64 a0.Least)), .p (.s (.int .i64 a0.Most))]), (4, .box 27 [.p (slV (eI .i64) a1)]), (5, .box 28 [.p (slV (eI .u8) a2)])], ⟨[], false⟩, []⟩ trivial (by kernel_rfl) ?_
  refine WX.seq ?_
  obtain ⟨t2_2, h2_1, h⟩ := bind_some h
  refine WC.reg (n := 10) (by assumption) [(1, .resP (.agg [.s (.int .u64 t2_2.Class.a0), .s (.int .u64 t2_2.Class.a1), .s (.int .u64 t2_2.Class.a2), .s (.int .u64 t2_2.Class.a3), .s (.int .i64 t2_2.Least), .s (.int .i64 t2_2.Most)]))] [3, 4, 5] [3, 4, 5] ⟨[(3, .ptr 3 0), (4, .ptr 4 0), (5, .ptr 5 0)], [(3, .box 26 [.p (.s (.int .u64 t2_2.Class.a0)), .p (.s (.int .u64 t2_2.Class.a1)), .p (.s (.int .u64 t2_2.Class.a2)), .p (.s (.int .u64 t2_2.Class.a3)), .p (.s (.int .i64 t2_2.Least)), .p (.s (.int .i64 t2_2.Most))]), (4, .box 27 [.p (slV (eI .i64) a1)]), (5, .box 28 [.p (slV (eI .u8) a2)])], ⟨[], false⟩, []⟩ (And.intro ((ring_may_ok h2_1)) (trivial)) (by kernel_rfl) ?_
  refine WX.seq ?_
  refine WC.reg (n := 10) (by assumption) [] [6] [3, 4, 5] ⟨[(6, .fn 51 [.ptr 3 0, .ptr 5 0, .ptr 4 0])], [(3, .box 26 [.p (.s (.int .u64 t2_2.Class.a0)), .p (.s (.int .u64 t2_2.Class.a1)), .p (.s (.int .u64 t2_2.Class.a2)), .p (.s (.int .u64 t2_2.Class.a3)), .p (.s (.int .i64 t2_2.Least)), .p (.s (.int .i64 t2_2.Most))]), (4, .box 27 [.p (slV (eI .i64) a1)]), (5, .box 28 [.p (slV (eI .u8) a2)])], ⟨[], false⟩, []⟩ trivial (by kernel_rfl) ?_
  refine WX.ret ?_
  exact WC.outP (by rw [← Option.some.inj h]; kernel_rfl)
def ring_Ends_1_v1_l0 (a1 : api_Ring) (a2 : (List Int)) (a3 : (List Int)) : Nat → (Int × Int × List Int) → Option (List Int)
  | 0, _ => none
  | k + 1, (x3_1_1, x3_1_2, x3_1_3) => (if (decide (x3_1_1 < (IntKind.i64.wrap ((a2.length : Int) + 1)))) = true then (if (decide (x3_1_1 > 0)) = true then (at_ a2 ((IntKind.i64.wrap (x3_1_1 - 1)))).bind fun t47_2 => (ring_Next k a1 ((api_Bits.mk x3_1_2 x3_1_3)) t47_2).bind fun t47_4 => (slices_Contains_int_int k a3 x3_1_1).bind fun t48_2 => (if t48_2 = true then (ring_Trigger k a1 t47_4).bind fun t50_2 => (ring_Accepts k a1 t50_2).bind fun t51_2 => (if t51_2 = true then (ring_Ends_1_v1_l0 a1 a2 a3 k ((IntKind.i64.wrap (x3_1_1 + 1)), t50_2.N, t50_2.Words)).map (x3_1_1 :: ·) else ring_Ends_1_v1_l0 a1 a2 a3 k ((IntKind.i64.wrap (x3_1_1 + 1)), t50_2.N, t50_2.Words)) else (ring_Accepts k a1 t47_4).bind fun t54_2 => (if t54_2 = true then (ring_Ends_1_v1_l0 a1 a2 a3 k ((IntKind.i64.wrap (x3_1_1 + 1)), t47_4.N, t47_4.Words)).map (x3_1_1 :: ·) else ring_Ends_1_v1_l0 a1 a2 a3 k ((IntKind.i64.wrap (x3_1_1 + 1)), t47_4.N, t47_4.Words))) else (slices_Contains_int_int k a3 x3_1_1).bind fun t57_2 => (if t57_2 = true then (ring_Trigger k a1 ((api_Bits.mk x3_1_2 x3_1_3))).bind fun t59_2 => (ring_Accepts k a1 t59_2).bind fun t60_2 => (if t60_2 = true then (ring_Ends_1_v1_l0 a1 a2 a3 k ((IntKind.i64.wrap (x3_1_1 + 1)), t59_2.N, t59_2.Words)).map (x3_1_1 :: ·) else ring_Ends_1_v1_l0 a1 a2 a3 k ((IntKind.i64.wrap (x3_1_1 + 1)), t59_2.N, t59_2.Words)) else (ring_Accepts k a1 ((api_Bits.mk x3_1_2 x3_1_3))).bind fun t63_2 => (if t63_2 = true then (ring_Ends_1_v1_l0 a1 a2 a3 k ((IntKind.i64.wrap (x3_1_1 + 1)), x3_1_2, x3_1_3)).map (x3_1_1 :: ·) else ring_Ends_1_v1_l0 a1 a2 a3 k ((IntKind.i64.wrap (x3_1_1 + 1)), x3_1_2, x3_1_3)))) else some [])
def ring_Ends_1_v1 (k : Nat) (a1 : api_Ring) (a2 : (List Int)) (a3 : (List Int)) : Option (List Int) :=
  (ring_None k a1).bind fun t1_2 => ring_Ends_1_v1_l0 a1 a2 a3 k (0, t1_2.N, t1_2.Words)
theorem ring_Ends_1_v1_it {k : Nat} {a1 : api_Ring} {a2 : (List Int)} {a3 : (List Int)} {r : List Int} (h : ring_Ends_1_v1 k a1 a2 a3 = some r) : Iter Tryd.prog 51 [.rop ([.s (.int .u64 a1.Class.a0), .s (.int .u64 a1.Class.a1), .s (.int .u64 a1.Class.a2), .s (.int .u64 a1.Class.a3), .s (.int .i64 a1.Least), .s (.int .i64 a1.Most)]), .rop ([slV (eI .u8) a2]), .rop ([slV (eI .i64) a3])] (r.map (fun x : Int => ([.int .i64 x] : List Value))) := by
  refine W_it Tryd.func51 rfl (by kernel_rfl) (Nat.le_of_ble_eq_true (by kernel_rfl)) ?_
  intro X hro hn hY
  obtain ⟨L, hLe⟩ : ∃ L, L = r.map (fun x : Int => ([.int .i64 x] : List Value)) := ⟨_, rfl⟩
  rw [← hLe] at hY ⊢
  have hL : ([] : List (List Value)) ++ r.map (fun x : Int => ([.int .i64 x] : List Value)) = L := by rw [hLe]; rfl
  clear hLe
  unfold ring_Ends_1_v1 at h
  refine WX.seq ?_
  obtain ⟨t1_2, h1_1, h⟩ := bind_some h
  refine WC.reg (n := 41) (by assumption) [(1, .co [] [] [] [(8, rowV 22 (eI .u64) t1_2.Words)] (.agg [.p (.s (.int .i64 t1_2.N)), .own 8]))] [0, 1, 2, 3, 5] [5, 8] ⟨[(0, .yield), (1, .p (.rop ([.s (.int .u64 a1.Class.a0), .s (.int .u64 a1.Class.a1), .s (.int .u64 a1.Class.a2), .s (.int .u64 a1.Class.a3), .s (.int .i64 a1.Least), .s (.int .i64 a1.Most)]))), (2, .p (.rop ([slV (eI .u8) a2]))), (3, .p (.rop ([slV (eI .i64) a3]))), (5, .ptr 5 0)], [(5, .box 39 [.p (.s (.int .i64 t1_2.N)), .own 8]), (8, rowV 22 (eI .u64) t1_2.Words)], ⟨([] : List (List Value)), false⟩, []⟩ (And.intro (And.intro ((ring_None_ok h1_1).ren 10 8 (by kernel_rfl)) (trivial)) (trivial)) (by kernel_rfl) ?_
  refine WX.seq ?_
  refine WC.reg (n := 41) (by assumption) [] [0, 1, 2, 3, 5, 11, 12] [5, 8] ⟨[(0, .yield), (1, .p (.rop ([.s (.int .u64 a1.Class.a0), .s (.int .u64 a1.Class.a1), .s (.int .u64 a1.Class.a2), .s (.int .u64 a1.Class.a3), .s (.int .i64 a1.Least), .s (.int .i64 a1.Most)]))), (2, .p (.rop ([slV (eI .u8) a2]))), (3, .p (.rop ([slV (eI .i64) a3]))), (5, .ptr 5 0), (11, .p (.s (.int .i64 ((IntKind.i64.wrap ((a2.length : Int) + 1)))))), (12, .p (.s (.int .i64 0)))], [(5, .box 39 [.p (.s (.int .i64 t1_2.N)), .own 8]), (8, rowV 22 (eI .u64) t1_2.Words)], ⟨([] : List (List Value)), false⟩, []⟩ trivial (by kernel_rfl) ?_
  refine WX.block ?_
  refine WC.frz 8 (st' := ⟨[(0, .yield), (1, .p (.rop ([.s (.int .u64 a1.Class.a0), .s (.int .u64 a1.Class.a1), .s (.int .u64 a1.Class.a2), .s (.int .u64 a1.Class.a3), .s (.int .i64 a1.Least), .s (.int .i64 a1.Most)]))), (2, .p (.rop ([slV (eI .u8) a2]))), (3, .p (.rop ([slV (eI .i64) a3]))), (5, .ptr 5 0), (11, .p (.s (.int .i64 ((IntKind.i64.wrap ((a2.length : Int) + 1)))))), (12, .p (.s (.int .i64 0)))], [(5, .box 39 [.p (.s (.int .i64 t1_2.N)), .p (slV (eI .u64) t1_2.Words)])], ⟨([] : List (List Value)), false⟩, []⟩) (by kernel_rfl) ?_
  refine WC.loop (V := Int × Int × List Int × List (List Value)) (fun k v3 => (ring_Ends_1_v1_l0 a1 a2 a3 k (v3.1, v3.2.1, v3.2.2.1)).map fun r => v3.2.2.2 ++ r.map (fun x : Int => ([.int .i64 x] : List Value))) L (fun v3 => ⟨[(0, .yield), (1, .p (.rop ([.s (.int .u64 a1.Class.a0), .s (.int .u64 a1.Class.a1), .s (.int .u64 a1.Class.a2), .s (.int .u64 a1.Class.a3), .s (.int .i64 a1.Least), .s (.int .i64 a1.Most)]))), (2, .p (.rop ([slV (eI .u8) a2]))), (3, .p (.rop ([slV (eI .i64) a3]))), (5, .ptr 5 0), (11, .p (.s (.int .i64 ((IntKind.i64.wrap ((a2.length : Int) + 1)))))), (12, .p (.s (.int .i64 v3.1)))], [(5, .box 39 [.p (.s (.int .i64 v3.2.1)), .p (slV (eI .u64) v3.2.2.1)])], ⟨v3.2.2.2, false⟩, []⟩) _ (0, t1_2.N, t1_2.Words, ([] : List (List Value))) (by rw [h]; exact congrArg some hL) (fun _ => rfl) [0, 1, 2, 3, 5, 11, 12] [5] (by kernel_rfl) ?_
  clear h hL; rintro k ⟨x3_1_1, x3_1_2, x3_1_3, x3_1_4⟩ h K3 hnext3 hexit3
  obtain ⟨r, h, hL⟩ := mapO_some h
  dsimp only at h hL
  rw [ring_Ends_1_v1_l0] at h
  refine WX.seq ?_
  refine WC.reg (n := 41) (by assumption) [] [0, 1, 2, 3, 5, 11, 12, 13] [5] ⟨[(0, .yield), (1, .p (.rop ([.s (.int .u64 a1.Class.a0), .s (.int .u64 a1.Class.a1), .s (.int .u64 a1.Class.a2), .s (.int .u64 a1.Class.a3), .s (.int .i64 a1.Least), .s (.int .i64 a1.Most)]))), (2, .p (.rop ([slV (eI .u8) a2]))), (3, .p (.rop ([slV (eI .i64) a3]))), (5, .ptr 5 0), (11, .p (.s (.int .i64 ((IntKind.i64.wrap ((a2.length : Int) + 1)))))), (12, .p (.s (.int .i64 x3_1_1))), (13, .p (.s (.bool ((decide (x3_1_1 < (IntKind.i64.wrap ((a2.length : Int) + 1))))))))], [(5, .box 39 [.p (.s (.int .i64 x3_1_2)), .p (slV (eI .u64) x3_1_3)])], ⟨x3_1_4, false⟩, []⟩ trivial (by kernel_rfl) ?_
  refine WX.seq ?_
  rcases if_or h with ⟨c43, h⟩ | ⟨c43, h⟩
  · refine WC.condT c43 (by kernel_rfl) ?_
    refine WX.skip ?_
    refine WX.seq ?_
    refine WX.block ?_
    refine WX.seq ?_
    refine WC.reg (n := 41) (by assumption) [] [0, 1, 2, 3, 5, 6, 11, 12] [5] ⟨[(0, .yield), (1, .p (.rop ([.s (.int .u64 a1.Class.a0), .s (.int .u64 a1.Class.a1), .s (.int .u64 a1.Class.a2), .s (.int .u64 a1.Class.a3), .s (.int .i64 a1.Least), .s (.int .i64 a1.Most)]))), (2, .p (.rop ([slV (eI .u8) a2]))), (3, .p (.rop ([slV (eI .i64) a3]))), (5, .ptr 5 0), (6, .p (.s (.int .i64 x3_1_1))), (11, .p (.s (.int .i64 ((IntKind.i64.wrap ((a2.length : Int) + 1)))))), (12, .p (.s (.int .i64 x3_1_1)))], [(5, .box 39 [.p (.s (.int .i64 x3_1_2)), .p (slV (eI .u64) x3_1_3)])], ⟨x3_1_4, false⟩, []⟩ trivial (by kernel_rfl) ?_
    refine WX.seq ?_
    refine WX.seq ?_
    refine WC.reg (n := 41) (by assumption) [] [0, 1, 2, 3, 5, 6, 11, 12, 16] [5] ⟨[(0, .yield), (1, .p (.rop ([.s (.int .u64 a1.Class.a0), .s (.int .u64 a1.Class.a1), .s (.int .u64 a1.Class.a2), .s (.int .u64 a1.Class.a3), .s (.int .i64 a1.Least), .s (.int .i64 a1.Most)]))), (2, .p (.rop ([slV (eI .u8) a2]))), (3, .p (.rop ([slV (eI .i64) a3]))), (5, .ptr 5 0), (6, .p (.s (.int .i64 x3_1_1))), (11, .p (.s (.int .i64 ((IntKind.i64.wrap ((a2.length : Int) + 1)))))), (12, .p (.s (.int .i64 x3_1_1))), (16, .p (.s (.bool ((decide (x3_1_1 > 0))))))], [(5, .box 39 [.p (.s (.int .i64 x3_1_2)), .p (slV (eI .u64) x3_1_3)])], ⟨x3_1_4, false⟩, []⟩ trivial (by kernel_rfl) ?_
    rcases if_or h with ⟨c46, h⟩ | ⟨c46, h⟩
    · refine WC.condT c46 (by kernel_rfl) ?_
      obtain ⟨t47_2, h47_1, h⟩ := bind_some h
      obtain ⟨t47_4, h47_3, h⟩ := bind_some h
      refine WC.drw (n := 41) (by assumption) [(8, [])] [] [(5, .val (.p (.rop ((eI .u8).cells t47_2 ++ encL (eI .u8) (a2.drop (((IntKind.i64.wrap (x3_1_1 - 1))).toNat + 1)))))), (7, .resP (.agg [.s (.int .i64 t47_4.N), slV (eI .u64) t47_4.Words]))] [0, 1, 2, 3, 5, 6, 11, 12] [5] ⟨[(0, .yield), (1, .p (.rop ([.s (.int .u64 a1.Class.a0), .s (.int .u64 a1.Class.a1), .s (.int .u64 a1.Class.a2), .s (.int .u64 a1.Class.a3), .s (.int .i64 a1.Least), .s (.int .i64 a1.Most)]))), (2, .p (.rop ([slV (eI .u8) a2]))), (3, .p (.rop ([slV (eI .i64) a3]))), (5, .ptr 5 0), (6, .p (.s (.int .i64 x3_1_1))), (11, .p (.s (.int .i64 ((IntKind.i64.wrap ((a2.length : Int) + 1)))))), (12, .p (.s (.int .i64 x3_1_1)))], [(5, .box 39 [.p (.s (.int .i64 t47_4.N)), .p (slV (eI .u64) t47_4.Words)])], ⟨x3_1_4, false⟩, []⟩ (And.intro (Ix (eI .u8) h47_1) (And.intro ((ring_Next_okP h47_3)) (trivial))) (by kernel_rfl) (by kernel_rfl) (by kernel_rfl) (by kernel_rfl) ?_
      refine WX.seq ?_
      refine WX.seq ?_
      obtain ⟨t48_2, h48_1, h⟩ := bind_some h
      refine WC.reg (n := 41) (by assumption) [(2, .resP (.s (.bool t48_2)))] [0, 1, 2, 3, 5, 6, 11, 12, 27] [5] ⟨[(0, .yield), (1, .p (.rop ([.s (.int .u64 a1.Class.a0), .s (.int .u64 a1.Class.a1), .s (.int .u64 a1.Class.a2), .s (.int .u64 a1.Class.a3), .s (.int .i64 a1.Least), .s (.int .i64 a1.Most)]))), (2, .p (.rop ([slV (eI .u8) a2]))), (3, .p (.rop ([slV (eI .i64) a3]))), (5, .ptr 5 0), (6, .p (.s (.int .i64 x3_1_1))), (11, .p (.s (.int .i64 ((IntKind.i64.wrap ((a2.length : Int) + 1)))))), (12, .p (.s (.int .i64 x3_1_1))), (27, .p (.s (.bool t48_2)))], [(5, .box 39 [.p (.s (.int .i64 t47_4.N)), .p (slV (eI .u64) t47_4.Words)])], ⟨x3_1_4, false⟩, []⟩ (And.intro ((slices_Contains_int_int_ok h48_1)) (trivial)) (by kernel_rfl) ?_
      rcases if_or h with ⟨c49, h⟩ | ⟨c49, h⟩
      · refine WC.condT c49 (by kernel_rfl) ?_
        obtain ⟨t50_2, h50_1, h⟩ := bind_some h
        refine WC.reg (n := 41) (by assumption) [(2, .resP (.agg [.s (.int .i64 t50_2.N), slV (eI .u64) t50_2.Words]))] [0, 1, 2, 3, 5, 6, 11, 12] [5] ⟨[(0, .yield), (1, .p (.rop ([.s (.int .u64 a1.Class.a0), .s (.int .u64 a1.Class.a1), .s (.int .u64 a1.Class.a2), .s (.int .u64 a1.Class.a3), .s (.int .i64 a1.Least), .s (.int .i64 a1.Most)]))), (2, .p (.rop ([slV (eI .u8) a2]))), (3, .p (.rop ([slV (eI .i64) a3]))), (5, .ptr 5 0), (6, .p (.s (.int .i64 x3_1_1))), (11, .p (.s (.int .i64 ((IntKind.i64.wrap ((a2.length : Int) + 1)))))), (12, .p (.s (.int .i64 x3_1_1)))], [(5, .box 39 [.p (.s (.int .i64 t50_2.N)), .p (slV (eI .u64) t50_2.Words)])], ⟨x3_1_4, false⟩, []⟩ (And.intro ((ring_Trigger_ok h50_1)) (trivial)) (by kernel_rfl) ?_
        refine WX.seq ?_
        obtain ⟨t51_2, h51_1, h⟩ := bind_some h
        rcases if_or h with ⟨b51_3, h⟩ | ⟨b51_3, h⟩
        · obtain ⟨r51, hh51, hr51⟩ := mapO_some h
          subst hr51
          replace h := hh51
          refine WC.yld (n := 41) (by assumption) hY 6 [(2, .resP (.s (.bool t51_2))), (3, .val (.p (.s (.bool true))))] [0, 1, 2, 3, 5, 11, 12, 39] [5] (⟨[(0, .yield), (1, .p (.rop ([.s (.int .u64 a1.Class.a0), .s (.int .u64 a1.Class.a1), .s (.int .u64 a1.Class.a2), .s (.int .u64 a1.Class.a3), .s (.int .i64 a1.Least), .s (.int .i64 a1.Most)]))), (2, .p (.rop ([slV (eI .u8) a2]))), (3, .p (.rop ([slV (eI .i64) a3]))), (5, .ptr 5 0), (11, .p (.s (.int .i64 ((IntKind.i64.wrap ((a2.length : Int) + 1)))))), (12, .p (.s (.int .i64 x3_1_1))), (39, .p (.s (.bool false)))], [(5, .box 39 [.p (.s (.int .i64 t50_2.N)), .p (slV (eI .u64) t50_2.Words)])], ⟨(x3_1_4 ++ [[.int .i64 x3_1_1]]), false⟩, []⟩) (⟨[(0, .yield), (1, .p (.rop ([.s (.int .u64 a1.Class.a0), .s (.int .u64 a1.Class.a1), .s (.int .u64 a1.Class.a2), .s (.int .u64 a1.Class.a3), .s (.int .i64 a1.Least), .s (.int .i64 a1.Most)]))), (2, .p (.rop ([slV (eI .u8) a2]))), (3, .p (.rop ([slV (eI .i64) a3]))), (5, .ptr 5 0), (11, .p (.s (.int .i64 ((IntKind.i64.wrap ((a2.length : Int) + 1)))))), (12, .p (.s (.int .i64 x3_1_1))), (39, .p (.s (.bool true)))], [(5, .box 39 [.p (.s (.int .i64 t50_2.N)), .p (slV (eI .u64) t50_2.Words)])], ⟨(x3_1_4 ++ [[.int .i64 x3_1_1]]), true⟩, []⟩) x3_1_4 [.int .i64 x3_1_1] (And.intro (And.intro ((ring_Accepts_ok h51_1)) (And.intro (Bl b51_3) (True.intro))) (And.intro True.intro True.intro)) (by kernel_rfl) (pre_ok (val := (fun x : Int => ([.int .i64 x] : List Value))) (x := x3_1_1) (l := r51) hL) ?_ ?_
          · replace hL : (x3_1_4 ++ [[.int .i64 x3_1_1]]) ++ r51.map (fun x : Int => ([.int .i64 x] : List Value)) = L := by rw [← hL]; simp
            refine WC.condF rfl (by kernel_rfl) ?_
            refine WX.skip ?_
            refine WX.popBlk ?_
            refine WC.reg (n := 41) (by assumption) [] [0, 1, 2, 3, 5, 11, 12] [5] ⟨[(0, .yield), (1, .p (.rop ([.s (.int .u64 a1.Class.a0), .s (.int .u64 a1.Class.a1), .s (.int .u64 a1.Class.a2), .s (.int .u64 a1.Class.a3), .s (.int .i64 a1.Least), .s (.int .i64 a1.Most)]))), (2, .p (.rop ([slV (eI .u8) a2]))), (3, .p (.rop ([slV (eI .i64) a3]))), (5, .ptr 5 0), (11, .p (.s (.int .i64 ((IntKind.i64.wrap ((a2.length : Int) + 1)))))), (12, .p (.s (.int .i64 ((IntKind.i64.wrap (x3_1_1 + 1))))))], [(5, .box 39 [.p (.s (.int .i64 t50_2.N)), .p (slV (eI .u64) t50_2.Words)])], ⟨(x3_1_4 ++ [[.int .i64 x3_1_1]]), false⟩, []⟩ trivial (by kernel_rfl) ?_
            exact WC.next [0, 1, 2, 3, 5, 11, 12] [5] (by kernel_rfl) (hnext3 ((IntKind.i64.wrap (x3_1_1 + 1)), t50_2.N, t50_2.Words, (x3_1_4 ++ [[.int .i64 x3_1_1]])) (by rw [h]; exact congrArg some hL))
          · refine WC.condT rfl (by kernel_rfl) ?_
            refine WX.ret ?_
            refine WC.ret_all (hexit3 _ _ (by simp) ?_)
            exact WC.ret_all ⟨by kernel_rfl, fun h => by cases h⟩
        · refine WC.reg (n := 41) (by assumption) [(2, .resP (.s (.bool t51_2))), (3, .val (.p (.s (.bool false))))] [0, 1, 2, 3, 5, 11, 12, 39] [5] ⟨[(0, .yield), (1, .p (.rop ([.s (.int .u64 a1.Class.a0), .s (.int .u64 a1.Class.a1), .s (.int .u64 a1.Class.a2), .s (.int .u64 a1.Class.a3), .s (.int .i64 a1.Least), .s (.int .i64 a1.Most)]))), (2, .p (.rop ([slV (eI .u8) a2]))), (3, .p (.rop ([slV (eI .i64) a3]))), (5, .ptr 5 0), (11, .p (.s (.int .i64 ((IntKind.i64.wrap ((a2.length : Int) + 1)))))), (12, .p (.s (.int .i64 x3_1_1))), (39, .p (.s (.bool false)))], [(5, .box 39 [.p (.s (.int .i64 t50_2.N)), .p (slV (eI .u64) t50_2.Words)])], ⟨x3_1_4, false⟩, []⟩ (And.intro ((ring_Accepts_ok h51_1)) (And.intro (Bl b51_3) (trivial))) (by kernel_rfl) ?_
          refine WC.condF rfl (by kernel_rfl) ?_
          refine WX.skip ?_
          refine WX.popBlk ?_
          refine WC.reg (n := 41) (by assumption) [] [0, 1, 2, 3, 5, 11, 12] [5] ⟨[(0, .yield), (1, .p (.rop ([.s (.int .u64 a1.Class.a0), .s (.int .u64 a1.Class.a1), .s (.int .u64 a1.Class.a2), .s (.int .u64 a1.Class.a3), .s (.int .i64 a1.Least), .s (.int .i64 a1.Most)]))), (2, .p (.rop ([slV (eI .u8) a2]))), (3, .p (.rop ([slV (eI .i64) a3]))), (5, .ptr 5 0), (11, .p (.s (.int .i64 ((IntKind.i64.wrap ((a2.length : Int) + 1)))))), (12, .p (.s (.int .i64 ((IntKind.i64.wrap (x3_1_1 + 1))))))], [(5, .box 39 [.p (.s (.int .i64 t50_2.N)), .p (slV (eI .u64) t50_2.Words)])], ⟨x3_1_4, false⟩, []⟩ trivial (by kernel_rfl) ?_
          exact WC.next [0, 1, 2, 3, 5, 11, 12] [5] (by kernel_rfl) (hnext3 ((IntKind.i64.wrap (x3_1_1 + 1)), t50_2.N, t50_2.Words, x3_1_4) (by rw [h]; exact congrArg some hL))
      · refine WC.condF c49 (by kernel_rfl) ?_
        refine WX.skip ?_
        refine WX.seq ?_
        obtain ⟨t54_2, h54_1, h⟩ := bind_some h
        rcases if_or h with ⟨b54_3, h⟩ | ⟨b54_3, h⟩
        · obtain ⟨r54, hh54, hr54⟩ := mapO_some h
          subst hr54
          replace h := hh54
          refine WC.yld (n := 41) (by assumption) hY 6 [(2, .resP (.s (.bool t54_2))), (3, .val (.p (.s (.bool true))))] [0, 1, 2, 3, 5, 11, 12, 39] [5] (⟨[(0, .yield), (1, .p (.rop ([.s (.int .u64 a1.Class.a0), .s (.int .u64 a1.Class.a1), .s (.int .u64 a1.Class.a2), .s (.int .u64 a1.Class.a3), .s (.int .i64 a1.Least), .s (.int .i64 a1.Most)]))), (2, .p (.rop ([slV (eI .u8) a2]))), (3, .p (.rop ([slV (eI .i64) a3]))), (5, .ptr 5 0), (11, .p (.s (.int .i64 ((IntKind.i64.wrap ((a2.length : Int) + 1)))))), (12, .p (.s (.int .i64 x3_1_1))), (39, .p (.s (.bool false)))], [(5, .box 39 [.p (.s (.int .i64 t47_4.N)), .p (slV (eI .u64) t47_4.Words)])], ⟨(x3_1_4 ++ [[.int .i64 x3_1_1]]), false⟩, []⟩) (⟨[(0, .yield), (1, .p (.rop ([.s (.int .u64 a1.Class.a0), .s (.int .u64 a1.Class.a1), .s (.int .u64 a1.Class.a2), .s (.int .u64 a1.Class.a3), .s (.int .i64 a1.Least), .s (.int .i64 a1.Most)]))), (2, .p (.rop ([slV (eI .u8) a2]))), (3, .p (.rop ([slV (eI .i64) a3]))), (5, .ptr 5 0), (11, .p (.s (.int .i64 ((IntKind.i64.wrap ((a2.length : Int) + 1)))))), (12, .p (.s (.int .i64 x3_1_1))), (39, .p (.s (.bool true)))], [(5, .box 39 [.p (.s (.int .i64 t47_4.N)), .p (slV (eI .u64) t47_4.Words)])], ⟨(x3_1_4 ++ [[.int .i64 x3_1_1]]), true⟩, []⟩) x3_1_4 [.int .i64 x3_1_1] (And.intro (And.intro ((ring_Accepts_ok h54_1)) (And.intro (Bl b54_3) (True.intro))) (And.intro True.intro True.intro)) (by kernel_rfl) (pre_ok (val := (fun x : Int => ([.int .i64 x] : List Value))) (x := x3_1_1) (l := r54) hL) ?_ ?_
          · replace hL : (x3_1_4 ++ [[.int .i64 x3_1_1]]) ++ r54.map (fun x : Int => ([.int .i64 x] : List Value)) = L := by rw [← hL]; simp
            refine WC.condF rfl (by kernel_rfl) ?_
            refine WX.skip ?_
            refine WX.popBlk ?_
            refine WC.reg (n := 41) (by assumption) [] [0, 1, 2, 3, 5, 11, 12] [5] ⟨[(0, .yield), (1, .p (.rop ([.s (.int .u64 a1.Class.a0), .s (.int .u64 a1.Class.a1), .s (.int .u64 a1.Class.a2), .s (.int .u64 a1.Class.a3), .s (.int .i64 a1.Least), .s (.int .i64 a1.Most)]))), (2, .p (.rop ([slV (eI .u8) a2]))), (3, .p (.rop ([slV (eI .i64) a3]))), (5, .ptr 5 0), (11, .p (.s (.int .i64 ((IntKind.i64.wrap ((a2.length : Int) + 1)))))), (12, .p (.s (.int .i64 ((IntKind.i64.wrap (x3_1_1 + 1))))))], [(5, .box 39 [.p (.s (.int .i64 t47_4.N)), .p (slV (eI .u64) t47_4.Words)])], ⟨(x3_1_4 ++ [[.int .i64 x3_1_1]]), false⟩, []⟩ trivial (by kernel_rfl) ?_
            exact WC.next [0, 1, 2, 3, 5, 11, 12] [5] (by kernel_rfl) (hnext3 ((IntKind.i64.wrap (x3_1_1 + 1)), t47_4.N, t47_4.Words, (x3_1_4 ++ [[.int .i64 x3_1_1]])) (by rw [h]; exact congrArg some hL))
          · refine WC.condT rfl (by kernel_rfl) ?_
            refine WX.ret ?_
            refine WC.ret_all (hexit3 _ _ (by simp) ?_)
            exact WC.ret_all ⟨by kernel_rfl, fun h => by cases h⟩
        · refine WC.reg (n := 41) (by assumption) [(2, .resP (.s (.bool t54_2))), (3, .val (.p (.s (.bool false))))] [0, 1, 2, 3, 5, 11, 12, 39] [5] ⟨[(0, .yield), (1, .p (.rop ([.s (.int .u64 a1.Class.a0), .s (.int .u64 a1.Class.a1), .s (.int .u64 a1.Class.a2), .s (.int .u64 a1.Class.a3), .s (.int .i64 a1.Least), .s (.int .i64 a1.Most)]))), (2, .p (.rop ([slV (eI .u8) a2]))), (3, .p (.rop ([slV (eI .i64) a3]))), (5, .ptr 5 0), (11, .p (.s (.int .i64 ((IntKind.i64.wrap ((a2.length : Int) + 1)))))), (12, .p (.s (.int .i64 x3_1_1))), (39, .p (.s (.bool false)))], [(5, .box 39 [.p (.s (.int .i64 t47_4.N)), .p (slV (eI .u64) t47_4.Words)])], ⟨x3_1_4, false⟩, []⟩ (And.intro ((ring_Accepts_ok h54_1)) (And.intro (Bl b54_3) (trivial))) (by kernel_rfl) ?_
          refine WC.condF rfl (by kernel_rfl) ?_
          refine WX.skip ?_
          refine WX.popBlk ?_
          refine WC.reg (n := 41) (by assumption) [] [0, 1, 2, 3, 5, 11, 12] [5] ⟨[(0, .yield), (1, .p (.rop ([.s (.int .u64 a1.Class.a0), .s (.int .u64 a1.Class.a1), .s (.int .u64 a1.Class.a2), .s (.int .u64 a1.Class.a3), .s (.int .i64 a1.Least), .s (.int .i64 a1.Most)]))), (2, .p (.rop ([slV (eI .u8) a2]))), (3, .p (.rop ([slV (eI .i64) a3]))), (5, .ptr 5 0), (11, .p (.s (.int .i64 ((IntKind.i64.wrap ((a2.length : Int) + 1)))))), (12, .p (.s (.int .i64 ((IntKind.i64.wrap (x3_1_1 + 1))))))], [(5, .box 39 [.p (.s (.int .i64 t47_4.N)), .p (slV (eI .u64) t47_4.Words)])], ⟨x3_1_4, false⟩, []⟩ trivial (by kernel_rfl) ?_
          exact WC.next [0, 1, 2, 3, 5, 11, 12] [5] (by kernel_rfl) (hnext3 ((IntKind.i64.wrap (x3_1_1 + 1)), t47_4.N, t47_4.Words, x3_1_4) (by rw [h]; exact congrArg some hL))
    · refine WC.condF c46 (by kernel_rfl) ?_
      refine WX.skip ?_
      refine WX.seq ?_
      refine WX.seq ?_
      obtain ⟨t57_2, h57_1, h⟩ := bind_some h
      refine WC.reg (n := 41) (by assumption) [(2, .resP (.s (.bool t57_2)))] [0, 1, 2, 3, 5, 6, 11, 12, 27] [5] ⟨[(0, .yield), (1, .p (.rop ([.s (.int .u64 a1.Class.a0), .s (.int .u64 a1.Class.a1), .s (.int .u64 a1.Class.a2), .s (.int .u64 a1.Class.a3), .s (.int .i64 a1.Least), .s (.int .i64 a1.Most)]))), (2, .p (.rop ([slV (eI .u8) a2]))), (3, .p (.rop ([slV (eI .i64) a3]))), (5, .ptr 5 0), (6, .p (.s (.int .i64 x3_1_1))), (11, .p (.s (.int .i64 ((IntKind.i64.wrap ((a2.length : Int) + 1)))))), (12, .p (.s (.int .i64 x3_1_1))), (27, .p (.s (.bool t57_2)))], [(5, .box 39 [.p (.s (.int .i64 x3_1_2)), .p (slV (eI .u64) x3_1_3)])], ⟨x3_1_4, false⟩, []⟩ (And.intro ((slices_Contains_int_int_ok h57_1)) (trivial)) (by kernel_rfl) ?_
      rcases if_or h with ⟨c58, h⟩ | ⟨c58, h⟩
      · refine WC.condT c58 (by kernel_rfl) ?_
        obtain ⟨t59_2, h59_1, h⟩ := bind_some h
        refine WC.reg (n := 41) (by assumption) [(2, .resP (.agg [.s (.int .i64 t59_2.N), slV (eI .u64) t59_2.Words]))] [0, 1, 2, 3, 5, 6, 11, 12] [5] ⟨[(0, .yield), (1, .p (.rop ([.s (.int .u64 a1.Class.a0), .s (.int .u64 a1.Class.a1), .s (.int .u64 a1.Class.a2), .s (.int .u64 a1.Class.a3), .s (.int .i64 a1.Least), .s (.int .i64 a1.Most)]))), (2, .p (.rop ([slV (eI .u8) a2]))), (3, .p (.rop ([slV (eI .i64) a3]))), (5, .ptr 5 0), (6, .p (.s (.int .i64 x3_1_1))), (11, .p (.s (.int .i64 ((IntKind.i64.wrap ((a2.length : Int) + 1)))))), (12, .p (.s (.int .i64 x3_1_1)))], [(5, .box 39 [.p (.s (.int .i64 t59_2.N)), .p (slV (eI .u64) t59_2.Words)])], ⟨x3_1_4, false⟩, []⟩ (And.intro ((ring_Trigger_ok h59_1)) (trivial)) (by kernel_rfl) ?_
        refine WX.seq ?_
        obtain ⟨t60_2, h60_1, h⟩ := bind_some h
        rcases if_or h with ⟨b60_3, h⟩ | ⟨b60_3, h⟩
        · obtain ⟨r60, hh60, hr60⟩ := mapO_some h
          subst hr60
          replace h := hh60
          refine WC.yld (n := 41) (by assumption) hY 6 [(2, .resP (.s (.bool t60_2))), (3, .val (.p (.s (.bool true))))] [0, 1, 2, 3, 5, 11, 12, 39] [5] (⟨[(0, .yield), (1, .p (.rop ([.s (.int .u64 a1.Class.a0), .s (.int .u64 a1.Class.a1), .s (.int .u64 a1.Class.a2), .s (.int .u64 a1.Class.a3), .s (.int .i64 a1.Least), .s (.int .i64 a1.Most)]))), (2, .p (.rop ([slV (eI .u8) a2]))), (3, .p (.rop ([slV (eI .i64) a3]))), (5, .ptr 5 0), (11, .p (.s (.int .i64 ((IntKind.i64.wrap ((a2.length : Int) + 1)))))), (12, .p (.s (.int .i64 x3_1_1))), (39, .p (.s (.bool false)))], [(5, .box 39 [.p (.s (.int .i64 t59_2.N)), .p (slV (eI .u64) t59_2.Words)])], ⟨(x3_1_4 ++ [[.int .i64 x3_1_1]]), false⟩, []⟩) (⟨[(0, .yield), (1, .p (.rop ([.s (.int .u64 a1.Class.a0), .s (.int .u64 a1.Class.a1), .s (.int .u64 a1.Class.a2), .s (.int .u64 a1.Class.a3), .s (.int .i64 a1.Least), .s (.int .i64 a1.Most)]))), (2, .p (.rop ([slV (eI .u8) a2]))), (3, .p (.rop ([slV (eI .i64) a3]))), (5, .ptr 5 0), (11, .p (.s (.int .i64 ((IntKind.i64.wrap ((a2.length : Int) + 1)))))), (12, .p (.s (.int .i64 x3_1_1))), (39, .p (.s (.bool true)))], [(5, .box 39 [.p (.s (.int .i64 t59_2.N)), .p (slV (eI .u64) t59_2.Words)])], ⟨(x3_1_4 ++ [[.int .i64 x3_1_1]]), true⟩, []⟩) x3_1_4 [.int .i64 x3_1_1] (And.intro (And.intro ((ring_Accepts_ok h60_1)) (And.intro (Bl b60_3) (True.intro))) (And.intro True.intro True.intro)) (by kernel_rfl) (pre_ok (val := (fun x : Int => ([.int .i64 x] : List Value))) (x := x3_1_1) (l := r60) hL) ?_ ?_
          · replace hL : (x3_1_4 ++ [[.int .i64 x3_1_1]]) ++ r60.map (fun x : Int => ([.int .i64 x] : List Value)) = L := by rw [← hL]; simp
            refine WC.condF rfl (by kernel_rfl) ?_
            refine WX.skip ?_
            refine WX.popBlk ?_
            refine WC.reg (n := 41) (by assumption) [] [0, 1, 2, 3, 5, 11, 12] [5] ⟨[(0, .yield), (1, .p (.rop ([.s (.int .u64 a1.Class.a0), .s (.int .u64 a1.Class.a1), .s (.int .u64 a1.Class.a2), .s (.int .u64 a1.Class.a3), .s (.int .i64 a1.Least), .s (.int .i64 a1.Most)]))), (2, .p (.rop ([slV (eI .u8) a2]))), (3, .p (.rop ([slV (eI .i64) a3]))), (5, .ptr 5 0), (11, .p (.s (.int .i64 ((IntKind.i64.wrap ((a2.length : Int) + 1)))))), (12, .p (.s (.int .i64 ((IntKind.i64.wrap (x3_1_1 + 1))))))], [(5, .box 39 [.p (.s (.int .i64 t59_2.N)), .p (slV (eI .u64) t59_2.Words)])], ⟨(x3_1_4 ++ [[.int .i64 x3_1_1]]), false⟩, []⟩ trivial (by kernel_rfl) ?_
            exact WC.next [0, 1, 2, 3, 5, 11, 12] [5] (by kernel_rfl) (hnext3 ((IntKind.i64.wrap (x3_1_1 + 1)), t59_2.N, t59_2.Words, (x3_1_4 ++ [[.int .i64 x3_1_1]])) (by rw [h]; exact congrArg some hL))
          · refine WC.condT rfl (by kernel_rfl) ?_
            refine WX.ret ?_
            refine WC.ret_all (hexit3 _ _ (by simp) ?_)
            exact WC.ret_all ⟨by kernel_rfl, fun h => by cases h⟩
        · refine WC.reg (n := 41) (by assumption) [(2, .resP (.s (.bool t60_2))), (3, .val (.p (.s (.bool false))))] [0, 1, 2, 3, 5, 11, 12, 39] [5] ⟨[(0, .yield), (1, .p (.rop ([.s (.int .u64 a1.Class.a0), .s (.int .u64 a1.Class.a1), .s (.int .u64 a1.Class.a2), .s (.int .u64 a1.Class.a3), .s (.int .i64 a1.Least), .s (.int .i64 a1.Most)]))), (2, .p (.rop ([slV (eI .u8) a2]))), (3, .p (.rop ([slV (eI .i64) a3]))), (5, .ptr 5 0), (11, .p (.s (.int .i64 ((IntKind.i64.wrap ((a2.length : Int) + 1)))))), (12, .p (.s (.int .i64 x3_1_1))), (39, .p (.s (.bool false)))], [(5, .box 39 [.p (.s (.int .i64 t59_2.N)), .p (slV (eI .u64) t59_2.Words)])], ⟨x3_1_4, false⟩, []⟩ (And.intro ((ring_Accepts_ok h60_1)) (And.intro (Bl b60_3) (trivial))) (by kernel_rfl) ?_
          refine WC.condF rfl (by kernel_rfl) ?_
          refine WX.skip ?_
          refine WX.popBlk ?_
          refine WC.reg (n := 41) (by assumption) [] [0, 1, 2, 3, 5, 11, 12] [5] ⟨[(0, .yield), (1, .p (.rop ([.s (.int .u64 a1.Class.a0), .s (.int .u64 a1.Class.a1), .s (.int .u64 a1.Class.a2), .s (.int .u64 a1.Class.a3), .s (.int .i64 a1.Least), .s (.int .i64 a1.Most)]))), (2, .p (.rop ([slV (eI .u8) a2]))), (3, .p (.rop ([slV (eI .i64) a3]))), (5, .ptr 5 0), (11, .p (.s (.int .i64 ((IntKind.i64.wrap ((a2.length : Int) + 1)))))), (12, .p (.s (.int .i64 ((IntKind.i64.wrap (x3_1_1 + 1))))))], [(5, .box 39 [.p (.s (.int .i64 t59_2.N)), .p (slV (eI .u64) t59_2.Words)])], ⟨x3_1_4, false⟩, []⟩ trivial (by kernel_rfl) ?_
          exact WC.next [0, 1, 2, 3, 5, 11, 12] [5] (by kernel_rfl) (hnext3 ((IntKind.i64.wrap (x3_1_1 + 1)), t59_2.N, t59_2.Words, x3_1_4) (by rw [h]; exact congrArg some hL))
      · refine WC.condF c58 (by kernel_rfl) ?_
        refine WX.skip ?_
        refine WX.seq ?_
        obtain ⟨t63_2, h63_1, h⟩ := bind_some h
        rcases if_or h with ⟨b63_3, h⟩ | ⟨b63_3, h⟩
        · obtain ⟨r63, hh63, hr63⟩ := mapO_some h
          subst hr63
          replace h := hh63
          refine WC.yld (n := 41) (by assumption) hY 6 [(2, .resP (.s (.bool t63_2))), (3, .val (.p (.s (.bool true))))] [0, 1, 2, 3, 5, 11, 12, 39] [5] (⟨[(0, .yield), (1, .p (.rop ([.s (.int .u64 a1.Class.a0), .s (.int .u64 a1.Class.a1), .s (.int .u64 a1.Class.a2), .s (.int .u64 a1.Class.a3), .s (.int .i64 a1.Least), .s (.int .i64 a1.Most)]))), (2, .p (.rop ([slV (eI .u8) a2]))), (3, .p (.rop ([slV (eI .i64) a3]))), (5, .ptr 5 0), (11, .p (.s (.int .i64 ((IntKind.i64.wrap ((a2.length : Int) + 1)))))), (12, .p (.s (.int .i64 x3_1_1))), (39, .p (.s (.bool false)))], [(5, .box 39 [.p (.s (.int .i64 x3_1_2)), .p (slV (eI .u64) x3_1_3)])], ⟨(x3_1_4 ++ [[.int .i64 x3_1_1]]), false⟩, []⟩) (⟨[(0, .yield), (1, .p (.rop ([.s (.int .u64 a1.Class.a0), .s (.int .u64 a1.Class.a1), .s (.int .u64 a1.Class.a2), .s (.int .u64 a1.Class.a3), .s (.int .i64 a1.Least), .s (.int .i64 a1.Most)]))), (2, .p (.rop ([slV (eI .u8) a2]))), (3, .p (.rop ([slV (eI .i64) a3]))), (5, .ptr 5 0), (11, .p (.s (.int .i64 ((IntKind.i64.wrap ((a2.length : Int) + 1)))))), (12, .p (.s (.int .i64 x3_1_1))), (39, .p (.s (.bool true)))], [(5, .box 39 [.p (.s (.int .i64 x3_1_2)), .p (slV (eI .u64) x3_1_3)])], ⟨(x3_1_4 ++ [[.int .i64 x3_1_1]]), true⟩, []⟩) x3_1_4 [.int .i64 x3_1_1] (And.intro (And.intro ((ring_Accepts_ok h63_1)) (And.intro (Bl b63_3) (True.intro))) (And.intro True.intro True.intro)) (by kernel_rfl) (pre_ok (val := (fun x : Int => ([.int .i64 x] : List Value))) (x := x3_1_1) (l := r63) hL) ?_ ?_
          · replace hL : (x3_1_4 ++ [[.int .i64 x3_1_1]]) ++ r63.map (fun x : Int => ([.int .i64 x] : List Value)) = L := by rw [← hL]; simp
            refine WC.condF rfl (by kernel_rfl) ?_
            refine WX.skip ?_
            refine WX.popBlk ?_
            refine WC.reg (n := 41) (by assumption) [] [0, 1, 2, 3, 5, 11, 12] [5] ⟨[(0, .yield), (1, .p (.rop ([.s (.int .u64 a1.Class.a0), .s (.int .u64 a1.Class.a1), .s (.int .u64 a1.Class.a2), .s (.int .u64 a1.Class.a3), .s (.int .i64 a1.Least), .s (.int .i64 a1.Most)]))), (2, .p (.rop ([slV (eI .u8) a2]))), (3, .p (.rop ([slV (eI .i64) a3]))), (5, .ptr 5 0), (11, .p (.s (.int .i64 ((IntKind.i64.wrap ((a2.length : Int) + 1)))))), (12, .p (.s (.int .i64 ((IntKind.i64.wrap (x3_1_1 + 1))))))], [(5, .box 39 [.p (.s (.int .i64 x3_1_2)), .p (slV (eI .u64) x3_1_3)])], ⟨(x3_1_4 ++ [[.int .i64 x3_1_1]]), false⟩, []⟩ trivial (by kernel_rfl) ?_
            exact WC.next [0, 1, 2, 3, 5, 11, 12] [5] (by kernel_rfl) (hnext3 ((IntKind.i64.wrap (x3_1_1 + 1)), x3_1_2, x3_1_3, (x3_1_4 ++ [[.int .i64 x3_1_1]])) (by rw [h]; exact congrArg some hL))
          · refine WC.condT rfl (by kernel_rfl) ?_
            refine WX.ret ?_
            refine WC.ret_all (hexit3 _ _ (by simp) ?_)
            exact WC.ret_all ⟨by kernel_rfl, fun h => by cases h⟩
        · refine WC.reg (n := 41) (by assumption) [(2, .resP (.s (.bool t63_2))), (3, .val (.p (.s (.bool false))))] [0, 1, 2, 3, 5, 11, 12, 39] [5] ⟨[(0, .yield), (1, .p (.rop ([.s (.int .u64 a1.Class.a0), .s (.int .u64 a1.Class.a1), .s (.int .u64 a1.Class.a2), .s (.int .u64 a1.Class.a3), .s (.int .i64 a1.Least), .s (.int .i64 a1.Most)]))), (2, .p (.rop ([slV (eI .u8) a2]))), (3, .p (.rop ([slV (eI .i64) a3]))), (5, .ptr 5 0), (11, .p (.s (.int .i64 ((IntKind.i64.wrap ((a2.length : Int) + 1)))))), (12, .p (.s (.int .i64 x3_1_1))), (39, .p (.s (.bool false)))], [(5, .box 39 [.p (.s (.int .i64 x3_1_2)), .p (slV (eI .u64) x3_1_3)])], ⟨x3_1_4, false⟩, []⟩ (And.intro ((ring_Accepts_ok h63_1)) (And.intro (Bl b63_3) (trivial))) (by kernel_rfl) ?_
          refine WC.condF rfl (by kernel_rfl) ?_
          refine WX.skip ?_
          refine WX.popBlk ?_
          refine WC.reg (n := 41) (by assumption) [] [0, 1, 2, 3, 5, 11, 12] [5] ⟨[(0, .yield), (1, .p (.rop ([.s (.int .u64 a1.Class.a0), .s (.int .u64 a1.Class.a1), .s (.int .u64 a1.Class.a2), .s (.int .u64 a1.Class.a3), .s (.int .i64 a1.Least), .s (.int .i64 a1.Most)]))), (2, .p (.rop ([slV (eI .u8) a2]))), (3, .p (.rop ([slV (eI .i64) a3]))), (5, .ptr 5 0), (11, .p (.s (.int .i64 ((IntKind.i64.wrap ((a2.length : Int) + 1)))))), (12, .p (.s (.int .i64 ((IntKind.i64.wrap (x3_1_1 + 1))))))], [(5, .box 39 [.p (.s (.int .i64 x3_1_2)), .p (slV (eI .u64) x3_1_3)])], ⟨x3_1_4, false⟩, []⟩ trivial (by kernel_rfl) ?_
          exact WC.next [0, 1, 2, 3, 5, 11, 12] [5] (by kernel_rfl) (hnext3 ((IntKind.i64.wrap (x3_1_1 + 1)), x3_1_2, x3_1_3, x3_1_4) (by rw [h]; exact congrArg some hL))
  · refine WC.condF c43 (by kernel_rfl) ?_
    refine WX.exit ?_
    refine WX.popCodeExit ?_
    refine WC.exit_nil (hexit3 _ _ (by simp) ?_)
    refine WX.popBlkHit ?_
    obtain rfl := Option.some.inj h
    exact WC.exit_nil ⟨by kernel_rfl, fun _ => by simpa using hL⟩
def riddlelaw13_ends_l0 (k : Nat) : List Int → List Int → Option ((List Int))
  | [], x6_1_1 => some x6_1_1
  | x6 :: xs6, x6_1_1 => (if okApp 8 (x6_1_1.length + ([x6]).length) then riddlelaw13_ends_l0 k xs6 (x6_1_1 ++ ([x6])) else none)
def riddlelaw13_ends (k : Nat) (a0 : api_Ring) (a1 : (List Int)) (a2 : (List Int)) : Option ((List Int)) :=
  (ring_Ends a0 a1 a2).bind fun t3_2 => (ring_Ends_1_v1 k t3_2.1 t3_2.2.1 t3_2.2.2).bind fun l6 => riddlelaw13_ends_l0 k l6 (([] : List Int))
theorem riddlelaw13_ends_ok {k : Nat} {a0 : api_Ring} {a1 : (List Int)} {a2 : (List Int)} {r : (List Int)} (h : riddlelaw13_ends k a0 a1 a2 = some r) : AnsO Tryd.prog 9 [] [.p (.agg [.s (.int .u64 a0.Class.a0), .s (.int .u64 a0.Class.a1), .s (.int .u64 a0.Class.a2), .s (.int .u64 a0.Class.a3), .s (.int .i64 a0.Least), .s (.int .i64 a0.Most)]), .p (slV (eI .i64) a1), .p (slV (eI .u8) a2)] [(21, rowV 3 (eI .i64) r)] (.own 21) := by
  refine W_fnO [21] Tryd.func9 rfl (by kernel_rfl) (by kernel_rfl) (by kernel_rfl) (by kernel_rfl) ?_
  intro X hro hn
  unfold riddlelaw13_ends at h
  refine WX.seq ?_
  refine WC.reg (n := 23) (by assumption) [] [1, 2, 3] [3] ⟨[(1, .p (slV (eI .i64) a1)), (2, .p (slV (eI .u8) a2)), (3, .ptr 3 0)], [(3, .box 26 [.p (.s (.int .u64 a0.Class.a0)), .p (.s (.int .u64 a0.Class.a1)), .p (.s (.int .u64 a0.Class.a2)), .p (.s (.int .u64 a0.Class.a3)), .p (.s (.int .i64 a0.Least)), .p (.s (.int .i64 a0.Most))])], ⟨[], false⟩, []⟩ trivial (by kernel_rfl) ?_
  refine WX.seq ?_
  refine WC.reg (n := 23) (by assumption) [] [1, 2, 3, 7] [3, 7] ⟨[(1, .p (slV (eI .i64) a1)), (2, .p (slV (eI .u8) a2)), (3, .ptr 3 0), (7, .ptr 7 0)], [(3, .box 26 [.p (.s (.int .u64 a0.Class.a0)), .p (.s (.int .u64 a0.Class.a1)), .p (.s (.int .u64 a0.Class.a2)), .p (.s (.int .u64 a0.Class.a3)), .p (.s (.int .i64 a0.Least)), .p (.s (.int .i64 a0.Most))]), (7, .box 27 [.p (.sl .nil 0 [])])], ⟨[], false⟩, []⟩ trivial (by kernel_rfl) ?_
  refine WX.seq ?_
  obtain ⟨t3_2, h3_1, h⟩ := bind_some h
  refine WC.reg (n := 23) (by assumption) [(3, .resP (.fn 51 [.rop ([.s (.int .u64 t3_2.1.Class.a0), .s (.int .u64 t3_2.1.Class.a1), .s (.int .u64 t3_2.1.Class.a2), .s (.int .u64 t3_2.1.Class.a3), .s (.int .i64 t3_2.1.Least), .s (.int .i64 t3_2.1.Most)]), .rop ([slV (eI .u8) t3_2.2.1]), .rop ([slV (eI .i64) t3_2.2.2])]))] [7, 8] [7] ⟨[(7, .ptr 7 0), (8, .p (.fn 51 [.rop ([.s (.int .u64 t3_2.1.Class.a0), .s (.int .u64 t3_2.1.Class.a1), .s (.int .u64 t3_2.1.Class.a2), .s (.int .u64 t3_2.1.Class.a3), .s (.int .i64 t3_2.1.Least), .s (.int .i64 t3_2.1.Most)]), .rop ([slV (eI .u8) t3_2.2.1]), .rop ([slV (eI .i64) t3_2.2.2])]))], [(7, .box 27 [.p (.sl .nil 0 [])])], ⟨[], false⟩, []⟩ (And.intro ((ring_Ends_ok h3_1)) (trivial)) (by kernel_rfl) ?_
  refine WX.seq ?_
  refine WX.seq ?_
  refine WC.reg (n := 23) (by assumption) [] [7, 8, 15] [7] ⟨[(7, .ptr 7 0), (8, .p (.fn 51 [.rop ([.s (.int .u64 t3_2.1.Class.a0), .s (.int .u64 t3_2.1.Class.a1), .s (.int .u64 t3_2.1.Class.a2), .s (.int .u64 t3_2.1.Class.a3), .s (.int .i64 t3_2.1.Least), .s (.int .i64 t3_2.1.Most)]), .rop ([slV (eI .u8) t3_2.2.1]), .rop ([slV (eI .i64) t3_2.2.2])])), (15, .p (.s (.bool false)))], [(7, .box 27 [.p (.sl .nil 0 [])])], ⟨[], false⟩, []⟩ trivial (by kernel_rfl) ?_
  refine WC.condF rfl (by kernel_rfl) ?_
  refine WX.skip ?_
  refine WX.seq ?_
  refine WX.seq ?_
  refine WC.reg (n := 23) (by assumption) [] [7, 16] [7] ⟨[(7, .ptr 7 0), (16, .p (.fn 51 [.rop ([.s (.int .u64 t3_2.1.Class.a0), .s (.int .u64 t3_2.1.Class.a1), .s (.int .u64 t3_2.1.Class.a2), .s (.int .u64 t3_2.1.Class.a3), .s (.int .i64 t3_2.1.Least), .s (.int .i64 t3_2.1.Most)]), .rop ([slV (eI .u8) t3_2.2.1]), .rop ([slV (eI .i64) t3_2.2.2])]))], [(7, .box 27 [.p (.sl .nil 0 [])])], ⟨[], false⟩, []⟩ trivial (by kernel_rfl) ?_
  refine WX.block ?_
  obtain ⟨l6, hI6, h⟩ := bind_some h
  refine WC.nil (n := 23) (by assumption) [] (some (7, 0)) 21 3 1 (by kernel_rfl) [7, 16] [7, 21] (st' := ⟨[(7, .ptr 7 0), (16, .p (.fn 51 [.rop ([.s (.int .u64 t3_2.1.Class.a0), .s (.int .u64 t3_2.1.Class.a1), .s (.int .u64 t3_2.1.Class.a2), .s (.int .u64 t3_2.1.Class.a3), .s (.int .i64 t3_2.1.Least), .s (.int .i64 t3_2.1.Most)]), .rop ([slV (eI .u8) t3_2.2.1]), .rop ([slV (eI .i64) t3_2.2.2])]))], [(7, .box 27 [.own 21]), (21, rowV 3 (eI .i64) (([] : List Int)))], ⟨[], false⟩, []⟩) (by kernel_rfl) ?_
  refine WC.range (V := List Int) (n := 23) (by assumption) (riddlelaw13_ends_l0 k) r (fun v6 => ⟨[(7, .ptr 7 0), (16, .p (.fn 51 [.rop ([.s (.int .u64 t3_2.1.Class.a0), .s (.int .u64 t3_2.1.Class.a1), .s (.int .u64 t3_2.1.Class.a2), .s (.int .u64 t3_2.1.Class.a3), .s (.int .i64 t3_2.1.Least), .s (.int .i64 t3_2.1.Most)]), .rop ([slV (eI .u8) t3_2.2.1]), .rop ([slV (eI .i64) t3_2.2.2])]))], [(7, .box 27 [.own 21]), (21, rowV 3 (eI .i64) v6)], ⟨[], false⟩, []⟩) (fun x6 v6 => ⟨[(7, .ptr 7 0), (9, .p (.s (.int .i64 x6))), (16, .p (.fn 51 [.rop ([.s (.int .u64 t3_2.1.Class.a0), .s (.int .u64 t3_2.1.Class.a1), .s (.int .u64 t3_2.1.Class.a2), .s (.int .u64 t3_2.1.Class.a3), .s (.int .i64 t3_2.1.Least), .s (.int .i64 t3_2.1.Most)]), .rop ([slV (eI .u8) t3_2.2.1]), .rop ([slV (eI .i64) t3_2.2.2])])), (17, .p (.s (.int .i64 x6)))], [(7, .box 27 [.own 21]), (21, rowV 3 (eI .i64) v6)], ⟨[], false⟩, [[(7, .ptr 7 0), (16, .p (.fn 51 [.rop ([.s (.int .u64 t3_2.1.Class.a0), .s (.int .u64 t3_2.1.Class.a1), .s (.int .u64 t3_2.1.Class.a2), .s (.int .u64 t3_2.1.Class.a3), .s (.int .i64 t3_2.1.Least), .s (.int .i64 t3_2.1.Most)]), .rop ([slV (eI .u8) t3_2.2.1]), .rop ([slV (eI .i64) t3_2.2.2])]))]]⟩) (fun x : Int => ([.int .i64 x] : List Value)) l6 (([] : List Int)) h [7, 16] [7, 21] (by kernel_rfl) (fun v6 => .p (.fn 51 [.rop ([.s (.int .u64 t3_2.1.Class.a0), .s (.int .u64 t3_2.1.Class.a1), .s (.int .u64 t3_2.1.Class.a2), .s (.int .u64 t3_2.1.Class.a3), .s (.int .i64 t3_2.1.Least), .s (.int .i64 t3_2.1.Most)]), .rop ([slV (eI .u8) t3_2.2.1]), .rop ([slV (eI .i64) t3_2.2.2])])) (fun v6 => by kernel_rfl) (by kernel_rfl) (ring_Ends_1_v1_it hI6) (by kernel_rfl) (fun v6 => by kernel_rfl) (fun x => ⟨rfl, rfl⟩) ?_ ?_ ?_
  · clear h; rintro x6_1_1 h
    rw [riddlelaw13_ends_l0] at h
    refine WX.popBlk ?_
    refine WX.seq ?_
    refine WC.reg (n := 23) (by assumption) [] [6] [21] ⟨[(6, .own 21)], [(21, rowV 3 (eI .i64) x6_1_1)], ⟨[], false⟩, []⟩ trivial (by kernel_rfl) ?_
    refine WX.ret ?_
    exact WC.outO (by rw [← Option.some.inj h]; kernel_rfl)
  · clear h; intro X hn x6; rintro x6_1_1
    refine WC.reg (n := 23) (by assumption) [] [7, 9, 16, 17] [7, 21] ⟨[(7, .ptr 7 0), (9, .p (.s (.int .i64 x6))), (16, .p (.fn 51 [.rop ([.s (.int .u64 t3_2.1.Class.a0), .s (.int .u64 t3_2.1.Class.a1), .s (.int .u64 t3_2.1.Class.a2), .s (.int .u64 t3_2.1.Class.a3), .s (.int .i64 t3_2.1.Least), .s (.int .i64 t3_2.1.Most)]), .rop ([slV (eI .u8) t3_2.2.1]), .rop ([slV (eI .i64) t3_2.2.2])])), (17, .p (.s (.int .i64 x6)))], [(7, .box 27 [.own 21]), (21, rowV 3 (eI .i64) x6_1_1)], ⟨[], false⟩, [[(7, .ptr 7 0), (16, .p (.fn 51 [.rop ([.s (.int .u64 t3_2.1.Class.a0), .s (.int .u64 t3_2.1.Class.a1), .s (.int .u64 t3_2.1.Class.a2), .s (.int .u64 t3_2.1.Class.a3), .s (.int .i64 t3_2.1.Least), .s (.int .i64 t3_2.1.Most)]), .rop ([slV (eI .u8) t3_2.2.1]), .rop ([slV (eI .i64) t3_2.2.2])]))]]⟩ trivial (by kernel_rfl) ?_
    exact WC.exit_nil ⟨rfl, rfl⟩
  · clear h; intro X hn x6 xs6; rintro x6_1_1 h K6 hnext6 hexit6
    rw [riddlelaw13_ends_l0] at h
    refine WX.block ?_
    obtain ⟨c15_1, h⟩ := if_some h
    refine WC.reg (n := 23) (by assumption) [(3, .app (some 21) (rowV 3 (eI .i64) (x6_1_1 ++ ([x6]))))] [] [7, 21] ⟨[], [(7, .box 27 [.own 21]), (21, rowV 3 (eI .i64) (x6_1_1 ++ ([x6])))], ⟨[], false⟩, [[(7, .ptr 7 0), (16, .p (.fn 51 [.rop ([.s (.int .u64 t3_2.1.Class.a0), .s (.int .u64 t3_2.1.Class.a1), .s (.int .u64 t3_2.1.Class.a2), .s (.int .u64 t3_2.1.Class.a3), .s (.int .i64 t3_2.1.Least), .s (.int .i64 t3_2.1.Most)]), .rop ([slV (eI .u8) t3_2.2.1]), .rop ([slV (eI .i64) t3_2.2.2])]))]]⟩ (And.intro (Ap (eI .i64) (some 21) 3 8 1 x6_1_1 ([x6]) c15_1) (trivial)) (by kernel_rfl) ?_
    refine WX.popBlk ?_
    refine WC.keep [] [7, 21] (st' := ⟨[], [(7, .box 27 [.own 21]), (21, rowV 3 (eI .i64) (x6_1_1 ++ ([x6])))], ⟨[], false⟩, [[(7, .ptr 7 0), (16, .p (.fn 51 [.rop ([.s (.int .u64 t3_2.1.Class.a0), .s (.int .u64 t3_2.1.Class.a1), .s (.int .u64 t3_2.1.Class.a2), .s (.int .u64 t3_2.1.Class.a3), .s (.int .i64 t3_2.1.Least), .s (.int .i64 t3_2.1.Most)]), .rop ([slV (eI .u8) t3_2.2.1]), .rop ([slV (eI .i64) t3_2.2.2])]))]]⟩) (by kernel_rfl) ?_
    exact WC.nextR [] [7, 21] (s := ⟨[], [(7, .box 27 [.own 21]), (21, rowV 3 (eI .i64) (x6_1_1 ++ ([x6])))], ⟨[], false⟩, [[(7, .ptr 7 0), (16, .p (.fn 51 [.rop ([.s (.int .u64 t3_2.1.Class.a0), .s (.int .u64 t3_2.1.Class.a1), .s (.int .u64 t3_2.1.Class.a2), .s (.int .u64 t3_2.1.Class.a3), .s (.int .i64 t3_2.1.Least), .s (.int .i64 t3_2.1.Most)]), .rop ([slV (eI .u8) t3_2.2.1]), .rop ([slV (eI .i64) t3_2.2.2])]))]]⟩) (by kernel_rfl) rfl (fun s hb => hnext6 (x6_1_1 ++ ([x6])) s h hb)
theorem riddlelaw13_ends_okP {k : Nat} {a0 : api_Ring} {a1 : (List Int)} {a2 : (List Int)} {r : (List Int)} (h : riddlelaw13_ends k a0 a1 a2 = some r) : Ans Tryd.prog 9 [.agg [.s (.int .u64 a0.Class.a0), .s (.int .u64 a0.Class.a1), .s (.int .u64 a0.Class.a2), .s (.int .u64 a0.Class.a3), .s (.int .i64 a0.Least), .s (.int .i64 a0.Most)], slV (eI .i64) a1, slV (eI .u8) a2] (slV (eI .i64) r) := AnsO.ans (args := [.agg [.s (.int .u64 a0.Class.a0), .s (.int .u64 a0.Class.a1), .s (.int .u64 a0.Class.a2), .s (.int .u64 a0.Class.a3), .s (.int .i64 a0.Least), .s (.int .i64 a0.Most)], slV (eI .i64) a1, slV (eI .u8) a2]) (riddlelaw13_ends_ok h) (by kernel_rfl)
def riddlelaw13_live (k : Nat)  : Option (Bool) :=
  (riddlelaw13_ends k ((api_Ring.mk ((Arr4.mk 0 8589934592 0 0)) 2 3)) ([0, 1]) ([97, 97, 97, 98])).bind fun t4_2 => (slices_Equal_int_int k t4_2 ([2, 3])).bind fun t4_4 => some t4_4
theorem riddlelaw13_live_ok {k : Nat}  {r : Bool} (h : riddlelaw13_live k = some r) : Ans Tryd.prog 7 [] (.s (.bool r)) := by
  refine W_fn Tryd.func7 rfl (by kernel_rfl) (by kernel_rfl) ?_
  intro X hro hn
  unfold riddlelaw13_live at h
  refine WX.seq ?_
  refine WC.reg (n := 12) (by assumption) [] [] [] ⟨[], [], ⟨[], false⟩, []⟩ trivial (by kernel_rfl) ?_
  refine WX.seq ?_
  refine WC.reg (n := 12) (by assumption) [] [1] [1] ⟨[(1, .ptr 1 0)], [(1, .box 26 [.p (.s (.int .u64 0)), .p (.s (.int .u64 0)), .p (.s (.int .u64 0)), .p (.s (.int .u64 0)), .p (.s (.int .i64 2)), .p (.s (.int .i64 3))])], ⟨[], false⟩, []⟩ trivial (by kernel_rfl) ?_
  refine WX.seq ?_
  refine WC.reg (n := 12) (by assumption) [] [1] [1] ⟨[(1, .ptr 1 0)], [(1, .box 26 [.p (.s (.int .u64 0)), .p (.s (.int .u64 8589934592)), .p (.s (.int .u64 0)), .p (.s (.int .u64 0)), .p (.s (.int .i64 2)), .p (.s (.int .i64 3))])], ⟨[], false⟩, []⟩ trivial (by kernel_rfl) ?_
  refine WX.seq ?_
  obtain ⟨t4_2, h4_1, h⟩ := bind_some h
  obtain ⟨t4_4, h4_3, h⟩ := bind_some h
  refine WC.reg (n := 12) (by assumption) [(4, .co [] [] [6] [(9, rowV 3 (eI .i64) t4_2)] (.own 9)), (6, .res (.s (.bool t4_4)))] [0] [] ⟨[(0, .p (.s (.bool t4_4)))], [], ⟨[], false⟩, []⟩ (And.intro (And.intro ((riddlelaw13_ends_ok h4_1).ren 21 9 (by kernel_rfl)) (And.intro (rfl : (.own 9 : AV).flat = true) (And.intro (flats_encL (eI .i64) (fun _ => rfl) t4_2) (trivial)))) (And.intro (And.intro (slices_Equal_int_int_ok h4_3) (rfl : (.s (.bool t4_4) : PV).flat = true)) (trivial))) (by kernel_rfl) ?_
  refine WX.ret ?_
  exact WC.outP (by rw [← Option.some.inj h]; kernel_rfl)
def riddleref01_Zero (a0 : Int) : Option (api_Bits) :=
  (if okMake 8 ((IntKind.i64.wrap (((IntKind.i64.wrap (a0 + 63))).tdiv 64))) then some ((api_Bits.mk a0 (List.replicate ((IntKind.i64.wrap (((IntKind.i64.wrap (a0 + 63))).tdiv 64))).toNat 0))) else none)
theorem riddleref01_Zero_ok {a0 : Int} {r : api_Bits} (h : riddleref01_Zero a0 = some r) : AnsO Tryd.prog 42 [] [.p (.s (.int .i64 a0))] [(7, rowV 22 (eI .u64) r.Words)] (.agg [.p (.s (.int .i64 r.N)), .own 7]) := by
  refine W_fnO [7] Tryd.func42 rfl (by kernel_rfl) (by kernel_rfl) (by kernel_rfl) (by kernel_rfl) ?_
  intro X hro hn
  unfold riddleref01_Zero at h
  refine WX.seq ?_
  refine WC.reg (n := 9) (by assumption) [] [0, 2] [2] ⟨[(0, .p (.s (.int .i64 a0))), (2, .ptr 2 0)], [(2, .box 39 [.p (.s (.int .i64 0)), .p (.sl .nil 0 [])])], ⟨[], false⟩, []⟩ trivial (by kernel_rfl) ?_
  refine WX.seq ?_
  obtain ⟨c2_1, h⟩ := if_some h
  refine WC.reg (n := 9) (by assumption) [(4, .ob (rowV 22 (eI .u64) (List.replicate ((IntKind.i64.wrap (((IntKind.i64.wrap (a0 + 63))).tdiv 64))).toNat 0)))] [2] [2, 7] ⟨[(2, .ptr 2 0)], [(2, .box 39 [.p (.s (.int .i64 a0)), .own 7]), (7, rowV 22 (eI .u64) (List.replicate ((IntKind.i64.wrap (((IntKind.i64.wrap (a0 + 63))).tdiv 64))).toNat 0))], ⟨[], false⟩, []⟩ (And.intro (Mk (eI .u64) [.int .u64 0] 0 22 8 ((IntKind.i64.wrap (((IntKind.i64.wrap (a0 + 63))).tdiv 64))) rfl rfl c2_1) (trivial)) (by kernel_rfl) ?_
  refine WX.ret ?_
  exact WC.outO (by rw [← Option.some.inj h]; kernel_rfl)
theorem riddleref01_Zero_okP {a0 : Int} {r : api_Bits} (h : riddleref01_Zero a0 = some r) : Ans Tryd.prog 42 [.s (.int .i64 a0)] (.agg [.s (.int .i64 r.N), slV (eI .u64) r.Words]) := AnsO.ans (args := [.s (.int .i64 a0)]) (riddleref01_Zero_ok h) (by kernel_rfl)
def riddleref13_Check (a0 : api_Ring) : Option (Int) :=
  (if (((decide (a0.Most < 1))) || ((((decide (a0.Most > 1000))) || ((((decide (a0.Least < 0))) || ((decide (a0.Least > a0.Most)))))))) = true then some 130 else some 0)
theorem riddleref13_Check_ok {a0 : api_Ring} {r : Int} (h : riddleref13_Check a0 = some r) : Ans Tryd.prog 21 [.agg [.s (.int .u64 a0.Class.a0), .s (.int .u64 a0.Class.a1), .s (.int .u64 a0.Class.a2), .s (.int .u64 a0.Class.a3), .s (.int .i64 a0.Least), .s (.int .i64 a0.Most)]] (.s (.int .i64 r)) := by
  refine W_fn Tryd.func21 rfl (by kernel_rfl) (by kernel_rfl) ?_
  intro X hro hn
  unfold riddleref13_Check at h
  refine WX.seq ?_
  refine WC.reg (n := 23) (by assumption) [] [1] [1] ⟨[(1, .ptr 1 0)], [(1, .box 26 [.p (.s (.int .u64 a0.Class.a0)), .p (.s (.int .u64 a0.Class.a1)), .p (.s (.int .u64 a0.Class.a2)), .p (.s (.int .u64 a0.Class.a3)), .p (.s (.int .i64 a0.Least)), .p (.s (.int .i64 a0.Most))])], ⟨[], false⟩, []⟩ trivial (by kernel_rfl) ?_
  refine WX.seq ?_
  refine WX.seq ?_
  refine WC.via (α := Bool) (fun v2 => ⟨[(22, .p (.s (.bool v2)))], [], ⟨[], false⟩, []⟩) ((((decide (a0.Most < 1))) || ((((decide (a0.Most > 1000))) || ((((decide (a0.Least < 0))) || ((decide (a0.Least > a0.Most))))))))) (fun hk => ?_) ?_
  · rcases Bool.eq_false_or_eq_true ((decide (a0.Most < 1))) with b2_3 | b2_3
    · exact WC.reg (n := 23) (by assumption) [(3, .val (.p (.s (.bool true))))] [22] [] ⟨[(22, .p (.s (.bool true)))], [], ⟨[], false⟩, []⟩ (And.intro (Bl b2_3) (trivial)) (by kernel_rfl) (hk true (by first | (rw [b2_3]; rfl) | simp [b2_3]))
    · rcases Bool.eq_false_or_eq_true ((decide (a0.Most > 1000))) with b2_8 | b2_8
      · exact WC.reg (n := 23) (by assumption) [(3, .val (.p (.s (.bool false)))), (8, .val (.p (.s (.bool true))))] [22] [] ⟨[(22, .p (.s (.bool true)))], [], ⟨[], false⟩, []⟩ (And.intro (Bl b2_3) (And.intro (Bl b2_8) (trivial))) (by kernel_rfl) (hk true (by first | (rw [b2_3, b2_8]; rfl) | simp [b2_3, b2_8]))
      · rcases Bool.eq_false_or_eq_true ((decide (a0.Least < 0))) with b2_13 | b2_13
        · exact WC.reg (n := 23) (by assumption) [(3, .val (.p (.s (.bool false)))), (8, .val (.p (.s (.bool false)))), (13, .val (.p (.s (.bool true))))] [22] [] ⟨[(22, .p (.s (.bool true)))], [], ⟨[], false⟩, []⟩ (And.intro (Bl b2_3) (And.intro (Bl b2_8) (And.intro (Bl b2_13) (trivial)))) (by kernel_rfl) (hk true (by first | (rw [b2_3, b2_8, b2_13]; rfl) | simp [b2_3, b2_8, b2_13]))
        · exact WC.reg (n := 23) (by assumption) [(3, .val (.p (.s (.bool false)))), (8, .val (.p (.s (.bool false)))), (13, .val (.p (.s (.bool false))))] [22] [] ⟨[(22, .p (.s (.bool ((decide (a0.Least > a0.Most))))))], [], ⟨[], false⟩, []⟩ (And.intro (Bl b2_3) (And.intro (Bl b2_8) (And.intro (Bl b2_13) (trivial)))) (by kernel_rfl) (hk ((decide (a0.Least > a0.Most))) (by first | (rw [b2_3, b2_8, b2_13]; rfl) | simp [b2_3, b2_8, b2_13]))
  rcases if_or h with ⟨c3, h⟩ | ⟨c3, h⟩
  · refine WC.condT c3 (by kernel_rfl) ?_
    refine WX.seq ?_
    refine WC.reg (n := 23) (by assumption) [] [2] [] ⟨[(2, .p (.s (.int .i64 130)))], [], ⟨[], false⟩, []⟩ trivial (by kernel_rfl) ?_
    refine WX.ret ?_
    exact WC.outP (by rw [← Option.some.inj h]; kernel_rfl)
  · refine WC.condF c3 (by kernel_rfl) ?_
    refine WX.skip ?_
    refine WX.seq ?_
    refine WC.reg (n := 23) (by assumption) [] [2] [] ⟨[(2, .p (.s (.int .i64 0)))], [], ⟨[], false⟩, []⟩ trivial (by kernel_rfl) ?_
    refine WX.ret ?_
    exact WC.outP (by rw [← Option.some.inj h]; kernel_rfl)
def riddleref13_may (a0 : api_Ring) : Option (api_Ring) :=
  (riddleref13_Check a0).bind fun t2_2 => (if (t2_2 != 0) = true then some ((api_Ring.mk ((Arr4.mk 0 0 0 0)) 0 1)) else some a0)
theorem riddleref13_may_ok {a0 : api_Ring} {r : api_Ring} (h : riddleref13_may a0 = some r) : Ans Tryd.prog 43 [.agg [.s (.int .u64 a0.Class.a0), .s (.int .u64 a0.Class.a1), .s (.int .u64 a0.Class.a2), .s (.int .u64 a0.Class.a3), .s (.int .i64 a0.Least), .s (.int .i64 a0.Most)]] (.agg [.s (.int .u64 r.Class.a0), .s (.int .u64 r.Class.a1), .s (.int .u64 r.Class.a2), .s (.int .u64 r.Class.a3), .s (.int .i64 r.Least), .s (.int .i64 r.Most)]) := by
  refine W_fn Tryd.func43 rfl (by kernel_rfl) (by kernel_rfl) ?_
  intro X hro hn
  unfold riddleref13_may at h
  refine WX.seq ?_
  refine WC.reg (n := 8) (by assumption) [] [1, 2] [1, 2] ⟨[(1, .ptr 1 0), (2, .ptr 2 0)], [(1, .box 26 [.p (.s (.int .u64 a0.Class.a0)), .p (.s (.int .u64 a0.Class.a1)), .p (.s (.int .u64 a0.Class.a2)), .p (.s (.int .u64 a0.Class.a3)), .p (.s (.int .i64 a0.Least)), .p (.s (.int .i64 a0.Most))]), (2, .box 26 [.p (.s (.int .u64 0)), .p (.s (.int .u64 0)), .p (.s (.int .u64 0)), .p (.s (.int .u64 0)), .p (.s (.int .i64 0)), .p (.s (.int .i64 0))])], ⟨[], false⟩, []⟩ trivial (by kernel_rfl) ?_
  refine WX.seq ?_
  refine WX.seq ?_
  obtain ⟨t2_2, h2_1, h⟩ := bind_some h
  refine WC.reg (n := 8) (by assumption) [(1, .resP (.s (.int .i64 t2_2)))] [1, 2, 5] [1, 2] ⟨[(1, .ptr 1 0), (2, .ptr 2 0), (5, .p (.s (.bool ((t2_2 != 0)))))], [(1, .box 26 [.p (.s (.int .u64 a0.Class.a0)), .p (.s (.int .u64 a0.Class.a1)), .p (.s (.int .u64 a0.Class.a2)), .p (.s (.int .u64 a0.Class.a3)), .p (.s (.int .i64 a0.Least)), .p (.s (.int .i64 a0.Most))]), (2, .box 26 [.p (.s (.int .u64 0)), .p (.s (.int .u64 0)), .p (.s (.int .u64 0)), .p (.s (.int .u64 0)), .p (.s (.int .i64 0)), .p (.s (.int .i64 0))])], ⟨[], false⟩, []⟩ (And.intro ((riddleref13_Check_ok h2_1)) (trivial)) (by kernel_rfl) ?_
  rcases if_or h with ⟨c3, h⟩ | ⟨c3, h⟩
  · refine WC.condT c3 (by kernel_rfl) ?_
    refine WX.seq ?_
    refine WC.reg (n := 8) (by assumption) [] [2] [2] ⟨[(2, .ptr 2 0)], [(2, .box 26 [.p (.s (.int .u64 0)), .p (.s (.int .u64 0)), .p (.s (.int .u64 0)), .p (.s (.int .u64 0)), .p (.s (.int .i64 0)), .p (.s (.int .i64 1))])], ⟨[], false⟩, []⟩ trivial (by kernel_rfl) ?_
    refine WX.ret ?_
    exact WC.outP (by rw [← Option.some.inj h]; kernel_rfl)
  · refine WC.condF c3 (by kernel_rfl) ?_
    refine WX.skip ?_
    refine WX.seq ?_
    refine WC.reg (n := 8) (by assumption) [] [2] [2] ⟨[(2, .ptr 2 0)], [(2, .box 26 [.p (.s (.int .u64 a0.Class.a0)), .p (.s (.int .u64 a0.Class.a1)), .p (.s (.int .u64 a0.Class.a2)), .p (.s (.int .u64 a0.Class.a3)), .p (.s (.int .i64 a0.Least)), .p (.s (.int .i64 a0.Most))])], ⟨[], false⟩, []⟩ trivial (by kernel_rfl) ?_
    refine WX.ret ?_
    exact WC.outP (by rw [← Option.some.inj h]; kernel_rfl)
def riddleref13_None (a0 : api_Ring) : Option (api_Bits) :=
  (riddleref13_may a0).bind fun t2_2 => (riddleref01_Zero ((IntKind.i64.wrap (t2_2.Most + 1)))).bind fun t2_4 => some t2_4
theorem riddleref13_None_ok {a0 : api_Ring} {r : api_Bits} (h : riddleref13_None a0 = some r) : AnsO Tryd.prog 23 [] [.p (.agg [.s (.int .u64 a0.Class.a0), .s (.int .u64 a0.Class.a1), .s (.int .u64 a0.Class.a2), .s (.int .u64 a0.Class.a3), .s (.int .i64 a0.Least), .s (.int .i64 a0.Most)])] [(7, rowV 22 (eI .u64) r.Words)] (.agg [.p (.s (.int .i64 r.N)), .own 7]) := by
  refine W_fnO [7] Tryd.func23 rfl (by kernel_rfl) (by kernel_rfl) (by kernel_rfl) (by kernel_rfl) ?_
  intro X hro hn
  unfold riddleref13_None at h
  refine WX.seq ?_
  refine WC.reg (n := 8) (by assumption) [] [1, 2] [1, 2] ⟨[(1, .ptr 1 0), (2, .ptr 2 0)], [(1, .box 26 [.p (.s (.int .u64 a0.Class.a0)), .p (.s (.int .u64 a0.Class.a1)), .p (.s (.int .u64 a0.Class.a2)), .p (.s (.int .u64 a0.Class.a3)), .p (.s (.int .i64 a0.Least)), .p (.s (.int .i64 a0.Most))]), (2, .box 39 [.p (.s (.int .i64 0)), .p (.sl .nil 0 [])])], ⟨[], false⟩, []⟩ trivial (by kernel_rfl) ?_
  refine WX.seq ?_
  obtain ⟨t2_2, h2_1, h⟩ := bind_some h
  obtain ⟨t2_4, h2_3, h⟩ := bind_some h
  refine WC.reg (n := 8) (by assumption) [(1, .resP (.agg [.s (.int .u64 t2_2.Class.a0), .s (.int .u64 t2_2.Class.a1), .s (.int .u64 t2_2.Class.a2), .s (.int .u64 t2_2.Class.a3), .s (.int .i64 t2_2.Least), .s (.int .i64 t2_2.Most)])), (4, .co [] [] [] [(7, rowV 22 (eI .u64) t2_4.Words)] (.agg [.p (.s (.int .i64 t2_4.N)), .own 7]))] [2] [2, 7] ⟨[(2, .ptr 2 0)], [(2, .box 39 [.p (.s (.int .i64 t2_4.N)), .own 7]), (7, rowV 22 (eI .u64) t2_4.Words)], ⟨[], false⟩, []⟩ (And.intro ((riddleref13_may_ok h2_1)) (And.intro (And.intro (riddleref01_Zero_ok h2_3) (trivial)) (trivial))) (by kernel_rfl) ?_
  refine WX.ret ?_
  exact WC.outO (by rw [← Option.some.inj h]; kernel_rfl)
theorem riddleref13_None_okP {a0 : api_Ring} {r : api_Bits} (h : riddleref13_None a0 = some r) : Ans Tryd.prog 23 [.agg [.s (.int .u64 a0.Class.a0), .s (.int .u64 a0.Class.a1), .s (.int .u64 a0.Class.a2), .s (.int .u64 a0.Class.a3), .s (.int .i64 a0.Least), .s (.int .i64 a0.Most)]] (.agg [.s (.int .i64 r.N), slV (eI .u64) r.Words]) := AnsO.ans (args := [.agg [.s (.int .u64 a0.Class.a0), .s (.int .u64 a0.Class.a1), .s (.int .u64 a0.Class.a2), .s (.int .u64 a0.Class.a3), .s (.int .i64 a0.Least), .s (.int .i64 a0.Most)]]) (riddleref13_None_ok h) (by kernel_rfl)
def riddleref01_in (a0 : (List Int)) (a1 : Int) : Option (Bool) :=
  (at_ a0 ((IntKind.i64.wrap (a1.tdiv 64)))).bind fun t2_2 => (if ¬ (IntKind.u64.wrap ((a1.tmod 64))) < 0 then some (((bits .and .u64 ((t2_2.fdiv (2 ^ (min ((IntKind.u64.wrap ((a1.tmod 64)))).toNat IntKind.u64.bits)))) 1) == 1)) else none)
theorem riddleref01_in_ok {a0 : (List Int)} {a1 : Int} {r : Bool} (h : riddleref01_in a0 a1 = some r) : Ans Tryd.prog 36 [slV (eI .u64) a0, .s (.int .i64 a1)] (.s (.bool r)) := by
  refine W_fn Tryd.func36 rfl (by kernel_rfl) (by kernel_rfl) ?_
  intro X hro hn
  unfold riddleref01_in at h
  refine WX.seq ?_
  refine WC.reg (n := 16) (by assumption) [] [0, 1] [] ⟨[(0, .p (slV (eI .u64) a0)), (1, .p (.s (.int .i64 a1)))], [], ⟨[], false⟩, []⟩ trivial (by kernel_rfl) ?_
  refine WX.seq ?_
  obtain ⟨t2_2, h2_1, h⟩ := bind_some h
  obtain ⟨c2_3, h⟩ := if_some h
  refine WC.reg (n := 16) (by assumption) [(3, .val (.p (.rop ((eI .u64).cells t2_2 ++ encL (eI .u64) (a0.drop (((IntKind.i64.wrap (a1.tdiv 64))).toNat + 1)))))), (8, .val (.p (.s (.int .u64 (t2_2.fdiv (2 ^ (min ((IntKind.u64.wrap ((a1.tmod 64)))).toNat IntKind.u64.bits)))))))] [4] [] ⟨[(4, .p (.s (.bool (((bits .and .u64 ((t2_2.fdiv (2 ^ (min ((IntKind.u64.wrap ((a1.tmod 64)))).toNat IntKind.u64.bits)))) 1) == 1)))))], [], ⟨[], false⟩, []⟩ (And.intro (Ix (eI .u64) h2_1) (And.intro (Shr .u64 t2_2 ((IntKind.u64.wrap ((a1.tmod 64)))) c2_3) (trivial))) (by kernel_rfl) ?_
  refine WX.ret ?_
  exact WC.outP (by rw [← Option.some.inj h]; kernel_rfl)
def riddleref01_Check_l0 (a0 : api_Bits) (J6 : Unit → Option (Int)) : Nat → Int → Option (Int)
  | 0, _ => none
  | k + 1, x21_1_1 => (if (decide (x21_1_1 < (IntKind.i64.wrap (64 * (a0.Words.length : Int))))) = true then (riddleref01_in a0.Words x21_1_1).bind fun t36_2 => (if t36_2 = true then some 10 else riddleref01_Check_l0 a0 J6 k ((IntKind.i64.wrap (x21_1_1 + 1)))) else J6 ())
def riddleref01_Check (k : Nat) (a0 : api_Bits) : Option (Int) :=
  (if (((decide (a0.N < 0))) || ((((decide (a0.N > 8192))) || (((a0.Words.length : Int) != (IntKind.i64.wrap (((IntKind.i64.wrap (a0.N + 63))).tdiv 64))))))) = true then some 10 else jn (fun (v6 : Unit) => some 0) fun J6 => riddleref01_Check_l0 a0 J6 k a0.N)
theorem riddleref01_Check_ok {k : Nat} {a0 : api_Bits} {r : Int} (h : riddleref01_Check k a0 = some r) : Ans Tryd.prog 17 [.agg [.s (.int .i64 a0.N), slV (eI .u64) a0.Words]] (.s (.int .i64 r)) := by
  refine W_fn Tryd.func17 rfl (by kernel_rfl) (by kernel_rfl) ?_
  intro X hro hn
  unfold riddleref01_Check at h
  refine WX.seq ?_
  refine WC.reg (n := 36) (by assumption) [] [1] [1] ⟨[(1, .ptr 1 0)], [(1, .box 39 [.p (.s (.int .i64 a0.N)), .p (slV (eI .u64) a0.Words)])], ⟨[], false⟩, []⟩ trivial (by kernel_rfl) ?_
  refine WX.seq ?_
  refine WX.seq ?_
  refine WC.via (α := Bool) (fun v2 => ⟨[(1, .ptr 1 0), (21, .p (.s (.bool v2)))], [(1, .box 39 [.p (.s (.int .i64 a0.N)), .p (slV (eI .u64) a0.Words)])], ⟨[], false⟩, []⟩) ((((decide (a0.N < 0))) || ((((decide (a0.N > 8192))) || (((a0.Words.length : Int) != (IntKind.i64.wrap (((IntKind.i64.wrap (a0.N + 63))).tdiv 64)))))))) (fun hk => ?_) ?_
  · rcases Bool.eq_false_or_eq_true ((decide (a0.N < 0))) with b2_3 | b2_3
    · exact WC.reg (n := 36) (by assumption) [(3, .val (.p (.s (.bool true))))] [1, 21] [1] ⟨[(1, .ptr 1 0), (21, .p (.s (.bool true)))], [(1, .box 39 [.p (.s (.int .i64 a0.N)), .p (slV (eI .u64) a0.Words)])], ⟨[], false⟩, []⟩ (And.intro (Bl b2_3) (trivial)) (by kernel_rfl) (hk true (by first | (rw [b2_3]; rfl) | simp [b2_3]))
    · rcases Bool.eq_false_or_eq_true ((decide (a0.N > 8192))) with b2_8 | b2_8
      · exact WC.reg (n := 36) (by assumption) [(3, .val (.p (.s (.bool false)))), (8, .val (.p (.s (.bool true))))] [1, 21] [1] ⟨[(1, .ptr 1 0), (21, .p (.s (.bool true)))], [(1, .box 39 [.p (.s (.int .i64 a0.N)), .p (slV (eI .u64) a0.Words)])], ⟨[], false⟩, []⟩ (And.intro (Bl b2_3) (And.intro (Bl b2_8) (trivial))) (by kernel_rfl) (hk true (by first | (rw [b2_3, b2_8]; rfl) | simp [b2_3, b2_8]))
      · exact WC.reg (n := 36) (by assumption) [(3, .val (.p (.s (.bool false)))), (8, .val (.p (.s (.bool false))))] [1, 21] [1] ⟨[(1, .ptr 1 0), (21, .p (.s (.bool (((a0.Words.length : Int) != (IntKind.i64.wrap (((IntKind.i64.wrap (a0.N + 63))).tdiv 64)))))))], [(1, .box 39 [.p (.s (.int .i64 a0.N)), .p (slV (eI .u64) a0.Words)])], ⟨[], false⟩, []⟩ (And.intro (Bl b2_3) (And.intro (Bl b2_8) (trivial))) (by kernel_rfl) (hk (((a0.Words.length : Int) != (IntKind.i64.wrap (((IntKind.i64.wrap (a0.N + 63))).tdiv 64)))) (by first | (rw [b2_3, b2_8]; rfl) | simp [b2_3, b2_8]))
  rcases if_or h with ⟨c3, h⟩ | ⟨c3, h⟩
  · refine WC.condT c3 (by kernel_rfl) ?_
    refine WX.seq ?_
    refine WC.reg (n := 36) (by assumption) [] [2] [] ⟨[(2, .p (.s (.int .i64 10)))], [], ⟨[], false⟩, []⟩ trivial (by kernel_rfl) ?_
    refine WX.ret ?_
    exact WC.outP (by rw [← Option.some.inj h]; kernel_rfl)
  · refine WC.condF c3 (by kernel_rfl) ?_
    refine WX.skip ?_
    refine WX.seq ?_
    refine WX.seq ?_
    refine WC.reg (n := 36) (by assumption) [] [1, 3] [1] ⟨[(1, .ptr 1 0), (3, .p (.s (.int .i64 a0.N)))], [(1, .box 39 [.p (.s (.int .i64 a0.N)), .p (slV (eI .u64) a0.Words)])], ⟨[], false⟩, []⟩ trivial (by kernel_rfl) ?_
    obtain ⟨J6, eJ6, h⟩ := jn_some h
    try dsimp only at h
    refine WC.join (α := Unit) (fun v6 => ⟨[], [], ⟨[], false⟩, []⟩) (fun v6 => J6 v6 = some r) ?_ (fun hJ6 => ?_)
    · rintro _ h
      rw [eJ6] at h
      try dsimp only at h
      refine WX.seq ?_
      refine WC.reg (n := 36) (by assumption) [] [2] [] ⟨[(2, .p (.s (.int .i64 0)))], [], ⟨[], false⟩, []⟩ trivial (by kernel_rfl) ?_
      refine WX.ret ?_
      exact WC.outP (by rw [← Option.some.inj h]; kernel_rfl)
    · skip
      refine WX.block ?_
      refine WC.loop (V := Int) (riddleref01_Check_l0 a0 J6) r (fun v21 => ⟨[(1, .ptr 1 0), (3, .p (.s (.int .i64 v21)))], [(1, .box 39 [.p (.s (.int .i64 a0.N)), .p (slV (eI .u64) a0.Words)])], ⟨[], false⟩, []⟩) _ a0.N h (fun _ => rfl) [1, 3] [1] (by kernel_rfl) ?_
      clear h; rintro k x21_1_1 h K21 hnext21 hexit21
      rw [riddleref01_Check_l0] at h
      refine WX.seq ?_
      refine WX.seq ?_
      refine WC.reg (n := 36) (by assumption) [] [1, 3, 29] [1] ⟨[(1, .ptr 1 0), (3, .p (.s (.int .i64 x21_1_1))), (29, .p (.s (.bool ((decide (x21_1_1 < (IntKind.i64.wrap (64 * (a0.Words.length : Int)))))))))], [(1, .box 39 [.p (.s (.int .i64 a0.N)), .p (slV (eI .u64) a0.Words)])], ⟨[], false⟩, []⟩ trivial (by kernel_rfl) ?_
      rcases if_or h with ⟨c35, h⟩ | ⟨c35, h⟩
      · refine WC.condT c35 (by kernel_rfl) ?_
        refine WX.skip ?_
        refine WX.seq ?_
        refine WX.block ?_
        refine WX.seq ?_
        obtain ⟨t36_2, h36_1, h⟩ := bind_some h
        refine WC.reg (n := 36) (by assumption) [(3, .resP (.s (.bool t36_2)))] [1, 3, 35] [1] ⟨[(1, .ptr 1 0), (3, .p (.s (.int .i64 x21_1_1))), (35, .p (.s (.bool t36_2)))], [(1, .box 39 [.p (.s (.int .i64 a0.N)), .p (slV (eI .u64) a0.Words)])], ⟨[], false⟩, []⟩ (And.intro ((riddleref01_in_ok h36_1)) (trivial)) (by kernel_rfl) ?_
        rcases if_or h with ⟨c37, h⟩ | ⟨c37, h⟩
        · refine WC.condT c37 (by kernel_rfl) ?_
          refine WX.seq ?_
          refine WC.reg (n := 36) (by assumption) [] [2] [] ⟨[(2, .p (.s (.int .i64 10)))], [], ⟨[], false⟩, []⟩ trivial (by kernel_rfl) ?_
          refine WX.ret ?_
          refine WC.ret_all (hexit21 _ _ (by simp) ?_)
          exact WC.outP (by rw [← Option.some.inj h]; kernel_rfl)
        · refine WC.condF c37 (by kernel_rfl) ?_
          refine WX.skip ?_
          refine WX.popBlk ?_
          refine WC.reg (n := 36) (by assumption) [] [1, 3] [1] ⟨[(1, .ptr 1 0), (3, .p (.s (.int .i64 ((IntKind.i64.wrap (x21_1_1 + 1))))))], [(1, .box 39 [.p (.s (.int .i64 a0.N)), .p (slV (eI .u64) a0.Words)])], ⟨[], false⟩, []⟩ trivial (by kernel_rfl) ?_
          exact WC.next [1, 3] [1] (by kernel_rfl) (hnext21 ((IntKind.i64.wrap (x21_1_1 + 1))) h)
      · refine WC.condF c35 (by kernel_rfl) ?_
        refine WX.exit ?_
        refine WX.popCodeExit ?_
        refine WC.exit_nil (hexit21 _ _ (by simp) ?_)
        refine WX.popBlkHit ?_
        exact WC.keep [] [] (by kernel_rfl) (hJ6 () h)
def riddleref13_state (k : Nat) (a0 : api_Ring) (a1 : api_Bits) : Option (api_Bits) :=
  (riddleref01_Check k a1).bind fun t2_2 => ((if (t2_2 != 0) = true then some true else (riddleref13_may a0).bind fun t2_4 => some ((a1.N != (IntKind.i64.wrap (t2_4.Most + 1))))) : Option (Bool)).bind fun v2 => (if v2 = true then (riddleref13_None a0).bind fun t4_2 => some t4_2 else some a1)
theorem riddleref13_state_ok {k : Nat} {a0 : api_Ring} {a1 : api_Bits} {r : api_Bits} (h : riddleref13_state k a0 a1 = some r) : Ans Tryd.prog 40 [.agg [.s (.int .u64 a0.Class.a0), .s (.int .u64 a0.Class.a1), .s (.int .u64 a0.Class.a2), .s (.int .u64 a0.Class.a3), .s (.int .i64 a0.Least), .s (.int .i64 a0.Most)], .agg [.s (.int .i64 a1.N), slV (eI .u64) a1.Words]] (.agg [.s (.int .i64 r.N), slV (eI .u64) r.Words]) := by
  refine W_fn Tryd.func40 rfl (by kernel_rfl) (by kernel_rfl) ?_
  intro X hro hn
  unfold riddleref13_state at h
  refine WX.seq ?_
  refine WC.reg (n := 20) (by assumption) [] [2, 3, 4] [2, 3, 4] ⟨[(2, .ptr 2 0), (3, .ptr 3 0), (4, .ptr 4 0)], [(2, .box 26 [.p (.s (.int .u64 a0.Class.a0)), .p (.s (.int .u64 a0.Class.a1)), .p (.s (.int .u64 a0.Class.a2)), .p (.s (.int .u64 a0.Class.a3)), .p (.s (.int .i64 a0.Least)), .p (.s (.int .i64 a0.Most))]), (3, .box 39 [.p (.s (.int .i64 a1.N)), .p (slV (eI .u64) a1.Words)]), (4, .box 39 [.p (.s (.int .i64 0)), .p (.sl .nil 0 [])])], ⟨[], false⟩, []⟩ trivial (by kernel_rfl) ?_
  refine WX.seq ?_
  refine WX.seq ?_
  obtain ⟨t2_2, h2_1, h⟩ := bind_some h
  obtain ⟨m2_1, g2, h⟩ := bind_some h
  refine WC.via (α := Bool) (fun v2 => ⟨[(2, .ptr 2 0), (3, .ptr 3 0), (4, .ptr 4 0), (16, .p (.s (.bool v2)))], [(2, .box 26 [.p (.s (.int .u64 a0.Class.a0)), .p (.s (.int .u64 a0.Class.a1)), .p (.s (.int .u64 a0.Class.a2)), .p (.s (.int .u64 a0.Class.a3)), .p (.s (.int .i64 a0.Least)), .p (.s (.int .i64 a0.Most))]), (3, .box 39 [.p (.s (.int .i64 a1.N)), .p (slV (eI .u64) a1.Words)]), (4, .box 39 [.p (.s (.int .i64 0)), .p (.sl .nil 0 [])])], ⟨[], false⟩, []⟩) m2_1 (fun hk => ?_) ?_
  · rcases if_or g2 with ⟨b2_3, g2⟩ | ⟨b2_3, g2⟩
    · exact WC.drw (n := 20) (by assumption) [] [] [(1, .resP (.s (.int .i64 t2_2))), (3, .val (.p (.s (.bool true))))] [2, 3, 4, 16] [2, 3, 4] ⟨[(2, .ptr 2 0), (3, .ptr 3 0), (4, .ptr 4 0), (16, .p (.s (.bool true)))], [(2, .box 26 [.p (.s (.int .u64 a0.Class.a0)), .p (.s (.int .u64 a0.Class.a1)), .p (.s (.int .u64 a0.Class.a2)), .p (.s (.int .u64 a0.Class.a3)), .p (.s (.int .i64 a0.Least)), .p (.s (.int .i64 a0.Most))]), (3, .box 39 [.p (.s (.int .i64 a1.N)), .p (slV (eI .u64) a1.Words)]), (4, .box 39 [.p (.s (.int .i64 0)), .p (.sl .nil 0 [])])], ⟨[], false⟩, []⟩ (And.intro ((riddleref01_Check_ok h2_1)) (And.intro (Bl b2_3) (trivial))) (by kernel_rfl) (by kernel_rfl) (by kernel_rfl) (by kernel_rfl) (hk true (Option.some.inj g2))
    · obtain ⟨t2_4, h2_3, g2⟩ := bind_some g2
      exact WC.drw (n := 20) (by assumption) [] [] [(1, .resP (.s (.int .i64 t2_2))), (3, .val (.p (.s (.bool false)))), (7, .resP (.agg [.s (.int .u64 t2_4.Class.a0), .s (.int .u64 t2_4.Class.a1), .s (.int .u64 t2_4.Class.a2), .s (.int .u64 t2_4.Class.a3), .s (.int .i64 t2_4.Least), .s (.int .i64 t2_4.Most)]))] [2, 3, 4, 16] [2, 3, 4] ⟨[(2, .ptr 2 0), (3, .ptr 3 0), (4, .ptr 4 0), (16, .p (.s (.bool ((a1.N != (IntKind.i64.wrap (t2_4.Most + 1)))))))], [(2, .box 26 [.p (.s (.int .u64 a0.Class.a0)), .p (.s (.int .u64 a0.Class.a1)), .p (.s (.int .u64 a0.Class.a2)), .p (.s (.int .u64 a0.Class.a3)), .p (.s (.int .i64 a0.Least)), .p (.s (.int .i64 a0.Most))]), (3, .box 39 [.p (.s (.int .i64 a1.N)), .p (slV (eI .u64) a1.Words)]), (4, .box 39 [.p (.s (.int .i64 0)), .p (.sl .nil 0 [])])], ⟨[], false⟩, []⟩ (And.intro ((riddleref01_Check_ok h2_1)) (And.intro (Bl b2_3) (And.intro ((riddleref13_may_ok h2_3)) (trivial)))) (by kernel_rfl) (by kernel_rfl) (by kernel_rfl) (by kernel_rfl) (hk ((a1.N != (IntKind.i64.wrap (t2_4.Most + 1)))) (Option.some.inj g2))
  rcases if_or h with ⟨c3, h⟩ | ⟨c3, h⟩
  · refine WC.condT c3 (by kernel_rfl) ?_
    refine WX.seq ?_
    obtain ⟨t4_2, h4_1, h⟩ := bind_some h
    refine WC.reg (n := 20) (by assumption) [(1, .co [] [] [] [(18, rowV 22 (eI .u64) t4_2.Words)] (.agg [.p (.s (.int .i64 t4_2.N)), .own 18]))] [4] [4, 18] ⟨[(4, .ptr 4 0)], [(4, .box 39 [.p (.s (.int .i64 t4_2.N)), .own 18]), (18, rowV 22 (eI .u64) t4_2.Words)], ⟨[], false⟩, []⟩ (And.intro (And.intro ((riddleref13_None_ok h4_1).ren 7 18 (by kernel_rfl)) (trivial)) (trivial)) (by kernel_rfl) ?_
    refine WX.ret ?_
    exact WC.outP (by rw [← Option.some.inj h]; kernel_rfl)
  · refine WC.condF c3 (by kernel_rfl) ?_
    refine WX.skip ?_
    refine WX.seq ?_
    refine WC.reg (n := 20) (by assumption) [] [4] [4] ⟨[(4, .ptr 4 0)], [(4, .box 39 [.p (.s (.int .i64 a1.N)), .p (slV (eI .u64) a1.Words)])], ⟨[], false⟩, []⟩ trivial (by kernel_rfl) ?_
    refine WX.ret ?_
    exact WC.outP (by rw [← Option.some.inj h]; kernel_rfl)
def riddleref01_may (k : Nat) (a0 : api_Bits) : Option (api_Bits) :=
  (riddleref01_Check k a0).bind fun t2_2 => (if (t2_2 != 0) = true then (riddleref01_Zero 0).bind fun t4_2 => some t4_2 else some a0)
theorem riddleref01_may_ok {k : Nat} {a0 : api_Bits} {r : api_Bits} (h : riddleref01_may k a0 = some r) : Ans Tryd.prog 37 [.agg [.s (.int .i64 a0.N), slV (eI .u64) a0.Words]] (.agg [.s (.int .i64 r.N), slV (eI .u64) r.Words]) := by
  refine W_fn Tryd.func37 rfl (by kernel_rfl) (by kernel_rfl) ?_
  intro X hro hn
  unfold riddleref01_may at h
  refine WX.seq ?_
  refine WC.reg (n := 8) (by assumption) [] [1, 2] [1, 2] ⟨[(1, .ptr 1 0), (2, .ptr 2 0)], [(1, .box 39 [.p (.s (.int .i64 a0.N)), .p (slV (eI .u64) a0.Words)]), (2, .box 39 [.p (.s (.int .i64 0)), .p (.sl .nil 0 [])])], ⟨[], false⟩, []⟩ trivial (by kernel_rfl) ?_
  refine WX.seq ?_
  refine WX.seq ?_
  obtain ⟨t2_2, h2_1, h⟩ := bind_some h
  refine WC.reg (n := 8) (by assumption) [(1, .resP (.s (.int .i64 t2_2)))] [1, 2, 5] [1, 2] ⟨[(1, .ptr 1 0), (2, .ptr 2 0), (5, .p (.s (.bool ((t2_2 != 0)))))], [(1, .box 39 [.p (.s (.int .i64 a0.N)), .p (slV (eI .u64) a0.Words)]), (2, .box 39 [.p (.s (.int .i64 0)), .p (.sl .nil 0 [])])], ⟨[], false⟩, []⟩ (And.intro ((riddleref01_Check_ok h2_1)) (trivial)) (by kernel_rfl) ?_
  rcases if_or h with ⟨c3, h⟩ | ⟨c3, h⟩
  · refine WC.condT c3 (by kernel_rfl) ?_
    refine WX.seq ?_
    obtain ⟨t4_2, h4_1, h⟩ := bind_some h
    refine WC.reg (n := 8) (by assumption) [(0, .co [] [] [] [(6, rowV 22 (eI .u64) t4_2.Words)] (.agg [.p (.s (.int .i64 t4_2.N)), .own 6]))] [2] [2, 6] ⟨[(2, .ptr 2 0)], [(2, .box 39 [.p (.s (.int .i64 t4_2.N)), .own 6]), (6, rowV 22 (eI .u64) t4_2.Words)], ⟨[], false⟩, []⟩ (And.intro (And.intro ((riddleref01_Zero_ok h4_1).ren 7 6 (by kernel_rfl)) (trivial)) (trivial)) (by kernel_rfl) ?_
    refine WX.ret ?_
    exact WC.outP (by rw [← Option.some.inj h]; kernel_rfl)
  · refine WC.condF c3 (by kernel_rfl) ?_
    refine WX.skip ?_
    refine WX.seq ?_
    refine WC.reg (n := 8) (by assumption) [] [2] [2] ⟨[(2, .ptr 2 0)], [(2, .box 39 [.p (.s (.int .i64 a0.N)), .p (slV (eI .u64) a0.Words)])], ⟨[], false⟩, []⟩ trivial (by kernel_rfl) ?_
    refine WX.ret ?_
    exact WC.outP (by rw [← Option.some.inj h]; kernel_rfl)
def riddleref01_Copy (k : Nat) (a0 : api_Bits) : Option (api_Bits) :=
  (riddleref01_may k a0).bind fun t2_2 => (if okApp 8 (([] : List Int).length + t2_2.Words.length) then some ((api_Bits.mk t2_2.N (([] : List Int) ++ t2_2.Words))) else none)
theorem riddleref01_Copy_ok {k : Nat} {a0 : api_Bits} {r : api_Bits} (h : riddleref01_Copy k a0 = some r) : AnsO Tryd.prog 48 [] [.p (.agg [.s (.int .i64 a0.N), slV (eI .u64) a0.Words])] [(11, rowV 22 (eI .u64) r.Words)] (.agg [.p (.s (.int .i64 r.N)), .own 11]) := by
  refine W_fnO [11] Tryd.func48 rfl (by kernel_rfl) (by kernel_rfl) (by kernel_rfl) (by kernel_rfl) ?_
  intro X hro hn
  unfold riddleref01_Copy at h
  refine WX.seq ?_
  refine WC.reg (n := 13) (by assumption) [] [1, 2] [1, 2] ⟨[(1, .ptr 1 0), (2, .ptr 2 0)], [(1, .box 39 [.p (.s (.int .i64 a0.N)), .p (slV (eI .u64) a0.Words)]), (2, .box 39 [.p (.s (.int .i64 0)), .p (.sl .nil 0 [])])], ⟨[], false⟩, []⟩ trivial (by kernel_rfl) ?_
  refine WX.seq ?_
  obtain ⟨t2_2, h2_1, h⟩ := bind_some h
  refine WC.reg (n := 13) (by assumption) [(1, .resP (.agg [.s (.int .i64 t2_2.N), slV (eI .u64) t2_2.Words]))] [1, 2] [1, 2] ⟨[(1, .ptr 1 0), (2, .ptr 2 0)], [(1, .box 39 [.p (.s (.int .i64 t2_2.N)), .p (slV (eI .u64) t2_2.Words)]), (2, .box 39 [.p (.s (.int .i64 0)), .p (.sl .nil 0 [])])], ⟨[], false⟩, []⟩ (And.intro ((riddleref01_may_ok h2_1)) (trivial)) (by kernel_rfl) ?_
  refine WX.seq ?_
  refine WC.reg (n := 13) (by assumption) [] [1, 2, 3] [1, 2] ⟨[(1, .ptr 1 0), (2, .ptr 2 0), (3, .p (.sl .nil 0 []))], [(1, .box 39 [.p (.s (.int .i64 t2_2.N)), .p (slV (eI .u64) t2_2.Words)]), (2, .box 39 [.p (.s (.int .i64 0)), .p (.sl .nil 0 [])])], ⟨[], false⟩, []⟩ trivial (by kernel_rfl) ?_
  refine WX.seq ?_
  obtain ⟨c4_1, h⟩ := if_some h
  refine WC.drw (n := 13) (by assumption) [(5, [0, 1]), (7, [])] [11] [(5, .app none (rowV 22 (eI .u64) (([] : List Int) ++ t2_2.Words)))] [2] [2, 11] ⟨[(2, .ptr 2 0)], [(2, .box 39 [.p (.s (.int .i64 t2_2.N)), .own 11]), (11, rowV 22 (eI .u64) (([] : List Int) ++ t2_2.Words))], ⟨[], false⟩, []⟩ (And.intro (ApS (eI .u64) none 22 8 ([] : List Int) t2_2.Words c4_1) (And.intro (And.intro (Eq.refl (some (.ptr 1 0 : AV))) (And.intro (Eq.refl (some (.p (.s (.int .i64 t2_2.N)) : AV))) (trivial))) (trivial))) (by kernel_rfl) (by kernel_rfl) (by kernel_rfl) (by kernel_rfl) ?_
  refine WX.ret ?_
  exact WC.outO (by rw [← Option.some.inj h]; kernel_rfl)
theorem riddleref01_Copy_okP {k : Nat} {a0 : api_Bits} {r : api_Bits} (h : riddleref01_Copy k a0 = some r) : Ans Tryd.prog 48 [.agg [.s (.int .i64 a0.N), slV (eI .u64) a0.Words]] (.agg [.s (.int .i64 r.N), slV (eI .u64) r.Words]) := AnsO.ans (args := [.agg [.s (.int .i64 a0.N), slV (eI .u64) a0.Words]]) (riddleref01_Copy_ok h) (by kernel_rfl)
def riddleref01_put (a0 : api_Bits) (a1 : Int) : Option ((List Int)) :=
  (if (((decide (a1 ≥ 0))) && ((decide (a1 < a0.N)))) = true then (at_ a0.Words ((IntKind.i64.wrap (a1.tdiv 64)))).bind fun t4_2 => (if ¬ (IntKind.u64.wrap ((a1.tmod 64))) < 0 then some (a0.Words.set ((IntKind.i64.wrap (a1.tdiv 64))).toNat ((bits .or .u64 t4_2 ((IntKind.u64.wrap (1 * 2 ^ (min ((IntKind.u64.wrap ((a1.tmod 64)))).toNat IntKind.u64.bits))))))) else none) else some a0.Words)
theorem riddleref01_put_ok {a0 : api_Bits} {a1 : Int} {r : (List Int)} (h : riddleref01_put a0 a1 = some r) : AnsO Tryd.prog 57 [(1000, rowV 22 (eI .u64) a0.Words)] [.agg [.p (.s (.int .i64 a0.N)), .own 1000], .p (.s (.int .i64 a1))] [(1000, rowV 22 (eI .u64) r)] (.tup []) := by
  refine W_fnO [1000] Tryd.func57 rfl (by kernel_rfl) (by kernel_rfl) (by kernel_rfl) (by kernel_rfl) ?_
  intro X hro hn
  unfold riddleref01_put at h
  refine WX.seq ?_
  refine WC.reg (n := 24) (by assumption) [] [1, 2] [2, 1000] ⟨[(1, .p (.s (.int .i64 a1))), (2, .ptr 2 0)], [(2, .box 39 [.p (.s (.int .i64 a0.N)), .own 1000]), (1000, rowV 22 (eI .u64) a0.Words)], ⟨[], false⟩, []⟩ trivial (by kernel_rfl) ?_
  refine WX.seq ?_
  refine WC.via (α := Bool) (fun v2 => ⟨[(1, .p (.s (.int .i64 a1))), (2, .ptr 2 0), (11, .p (.s (.bool v2)))], [(2, .box 39 [.p (.s (.int .i64 a0.N)), .own 1000]), (1000, rowV 22 (eI .u64) a0.Words)], ⟨[], false⟩, []⟩) ((((decide (a1 ≥ 0))) && ((decide (a1 < a0.N))))) (fun hk => ?_) ?_
  · rcases Bool.eq_false_or_eq_true ((decide (a1 ≥ 0))) with b2_2 | b2_2
    · exact WC.reg (n := 24) (by assumption) [(2, .val (.p (.s (.bool true))))] [1, 2, 11] [2, 1000] ⟨[(1, .p (.s (.int .i64 a1))), (2, .ptr 2 0), (11, .p (.s (.bool ((decide (a1 < a0.N))))))], [(2, .box 39 [.p (.s (.int .i64 a0.N)), .own 1000]), (1000, rowV 22 (eI .u64) a0.Words)], ⟨[], false⟩, []⟩ (And.intro (Bl b2_2) (trivial)) (by kernel_rfl) (hk ((decide (a1 < a0.N))) (by first | (rw [b2_2]; rfl) | simp [b2_2]))
    · exact WC.reg (n := 24) (by assumption) [(2, .val (.p (.s (.bool false))))] [1, 2, 11] [2, 1000] ⟨[(1, .p (.s (.int .i64 a1))), (2, .ptr 2 0), (11, .p (.s (.bool false)))], [(2, .box 39 [.p (.s (.int .i64 a0.N)), .own 1000]), (1000, rowV 22 (eI .u64) a0.Words)], ⟨[], false⟩, []⟩ (And.intro (Bl b2_2) (trivial)) (by kernel_rfl) (hk false (by first | (rw [b2_2]; rfl) | simp [b2_2]))
  rcases if_or h with ⟨c3, h⟩ | ⟨c3, h⟩
  · refine WC.condT c3 (by kernel_rfl) ?_
    obtain ⟨t4_2, h4_1, h⟩ := bind_some h
    obtain ⟨c4_3, h⟩ := if_some h
    refine WC.reg (n := 24) (by assumption) [(4, .val (.ptr 1000 (((IntKind.i64.wrap (a1.tdiv 64))).toNat * 1))), (5, .val (.p (.s (.int .u64 t4_2)))), (9, .val (.p (.s (.int .u64 (IntKind.u64.wrap (1 * 2 ^ (min ((IntKind.u64.wrap ((a1.tmod 64)))).toNat IntKind.u64.bits))))))), (11, .val (.ptr 1000 (((IntKind.i64.wrap (a1.tdiv 64))).toNat * 1))), (12, .sto 1000 (rowV 22 (eI .u64) (a0.Words.set ((IntKind.i64.wrap (a1.tdiv 64))).toNat ((bits .or .u64 t4_2 ((IntKind.u64.wrap (1 * 2 ^ (min ((IntKind.u64.wrap ((a1.tmod 64)))).toNat IntKind.u64.bits)))))))))] [] [1000] ⟨[], [(1000, rowV 22 (eI .u64) (a0.Words.set ((IntKind.i64.wrap (a1.tdiv 64))).toNat ((bits .or .u64 t4_2 ((IntKind.u64.wrap (1 * 2 ^ (min ((IntKind.u64.wrap ((a1.tmod 64)))).toNat IntKind.u64.bits))))))))], ⟨[], false⟩, []⟩ (And.intro (IxO 1000 1 h4_1) (And.intro (LdO0 Tryd.prog (eI .u64) 22 h4_1) (And.intro (Shl .u64 1 ((IntKind.u64.wrap ((a1.tmod 64)))) c4_3) (And.intro (IxO 1000 1 h4_1) (And.intro (StO0 (eI .u64) 1000 22 1 1 [.s (.int .u64 ((bits .or .u64 t4_2 ((IntKind.u64.wrap (1 * 2 ^ (min ((IntKind.u64.wrap ((a1.tmod 64)))).toNat IntKind.u64.bits)))))))] ((bits .or .u64 t4_2 ((IntKind.u64.wrap (1 * 2 ^ (min ((IntKind.u64.wrap ((a1.tmod 64)))).toNat IntKind.u64.bits)))))) h4_1 rfl rfl (by decide)) (trivial)))))) (by kernel_rfl) ?_
    exact WC.outOn (by rw [← Option.some.inj h]; kernel_rfl)
  · refine WC.condF c3 (by kernel_rfl) ?_
    refine WX.skip ?_
    exact WC.outOn (by rw [← Option.some.inj h]; kernel_rfl)
def riddleref01_With (k : Nat) (a0 : api_Bits) (a1 : Int) : Option (api_Bits) :=
  (riddleref01_Copy k a0).bind fun t2_2 => (riddleref01_put t2_2 a1).bind fun t3_2 => some ((api_Bits.mk t2_2.N t3_2))
theorem riddleref01_With_ok {k : Nat} {a0 : api_Bits} {a1 : Int} {r : api_Bits} (h : riddleref01_With k a0 a1 = some r) : AnsO Tryd.prog 44 [] [.p (.agg [.s (.int .i64 a0.N), slV (eI .u64) a0.Words]), .p (.s (.int .i64 a1))] [(7, rowV 22 (eI .u64) r.Words)] (.agg [.p (.s (.int .i64 r.N)), .own 7]) := by
  refine W_fnO [7] Tryd.func44 rfl (by kernel_rfl) (by kernel_rfl) (by kernel_rfl) (by kernel_rfl) ?_
  intro X hro hn
  unfold riddleref01_With at h
  refine WX.seq ?_
  refine WC.reg (n := 12) (by assumption) [] [1, 2, 4] [2, 4] ⟨[(1, .p (.s (.int .i64 a1))), (2, .ptr 2 0), (4, .ptr 4 0)], [(2, .box 39 [.p (.s (.int .i64 a0.N)), .p (slV (eI .u64) a0.Words)]), (4, .box 39 [.p (.s (.int .i64 0)), .p (.sl .nil 0 [])])], ⟨[], false⟩, []⟩ trivial (by kernel_rfl) ?_
  refine WX.seq ?_
  obtain ⟨t2_2, h2_1, h⟩ := bind_some h
  refine WC.reg (n := 12) (by assumption) [(1, .co [] [] [] [(7, rowV 22 (eI .u64) t2_2.Words)] (.agg [.p (.s (.int .i64 t2_2.N)), .own 7]))] [1, 4, 5] [4, 5, 7] ⟨[(1, .p (.s (.int .i64 a1))), (4, .ptr 4 0), (5, .ptr 5 0)], [(4, .box 39 [.p (.s (.int .i64 0)), .p (.sl .nil 0 [])]), (5, .box 39 [.p (.s (.int .i64 t2_2.N)), .own 7]), (7, rowV 22 (eI .u64) t2_2.Words)], ⟨[], false⟩, []⟩ (And.intro (And.intro ((riddleref01_Copy_ok h2_1).ren 11 7 (by kernel_rfl)) (trivial)) (trivial)) (by kernel_rfl) ?_
  refine WX.seq ?_
  obtain ⟨t3_2, h3_1, h⟩ := bind_some h
  refine WC.reg (n := 12) (by assumption) [(2, .co [] [7] [] [(7, rowV 22 (eI .u64) t3_2)] (.tup []))] [4, 5] [4, 5, 7] ⟨[(4, .ptr 4 0), (5, .ptr 5 0)], [(4, .box 39 [.p (.s (.int .i64 0)), .p (.sl .nil 0 [])]), (5, .box 39 [.p (.s (.int .i64 t2_2.N)), .own 7]), (7, rowV 22 (eI .u64) t3_2)], ⟨[], false⟩, []⟩ (And.intro (And.intro ((riddleref01_put_ok h3_1).ren 1000 7 (by kernel_rfl)) (trivial)) (trivial)) (by kernel_rfl) ?_
  refine WX.seq ?_
  refine WC.reg (n := 12) (by assumption) [] [4] [4, 7] ⟨[(4, .ptr 4 0)], [(4, .box 39 [.p (.s (.int .i64 t2_2.N)), .own 7]), (7, rowV 22 (eI .u64) t3_2)], ⟨[], false⟩, []⟩ trivial (by kernel_rfl) ?_
  refine WX.ret ?_
  exact WC.outO (by rw [← Option.some.inj h]; kernel_rfl)
theorem riddleref01_With_okP {k : Nat} {a0 : api_Bits} {a1 : Int} {r : api_Bits} (h : riddleref01_With k a0 a1 = some r) : Ans Tryd.prog 44 [.agg [.s (.int .i64 a0.N), slV (eI .u64) a0.Words], .s (.int .i64 a1)] (.agg [.s (.int .i64 r.N), slV (eI .u64) r.Words]) := AnsO.ans (args := [.agg [.s (.int .i64 a0.N), slV (eI .u64) a0.Words], .s (.int .i64 a1)]) (riddleref01_With_ok h) (by kernel_rfl)
def riddleref13_Trigger (k : Nat) (a0 : api_Ring) (a1 : api_Bits) : Option (api_Bits) :=
  (riddleref13_state k a0 a1).bind fun t2_2 => (riddleref01_With k t2_2 0).bind fun t2_4 => some t2_4
theorem riddleref13_Trigger_ok {k : Nat} {a0 : api_Ring} {a1 : api_Bits} {r : api_Bits} (h : riddleref13_Trigger k a0 a1 = some r) : AnsO Tryd.prog 24 [] [.p (.agg [.s (.int .u64 a0.Class.a0), .s (.int .u64 a0.Class.a1), .s (.int .u64 a0.Class.a2), .s (.int .u64 a0.Class.a3), .s (.int .i64 a0.Least), .s (.int .i64 a0.Most)]), .p (.agg [.s (.int .i64 a1.N), slV (eI .u64) a1.Words])] [(8, rowV 22 (eI .u64) r.Words)] (.agg [.p (.s (.int .i64 r.N)), .own 8]) := by
  refine W_fnO [8] Tryd.func24 rfl (by kernel_rfl) (by kernel_rfl) (by kernel_rfl) (by kernel_rfl) ?_
  intro X hro hn
  unfold riddleref13_Trigger at h
  refine WX.seq ?_
  refine WC.reg (n := 9) (by assumption) [] [2, 3, 4] [2, 3, 4] ⟨[(2, .ptr 2 0), (3, .ptr 3 0), (4, .ptr 4 0)], [(2, .box 26 [.p (.s (.int .u64 a0.Class.a0)), .p (.s (.int .u64 a0.Class.a1)), .p (.s (.int .u64 a0.Class.a2)), .p (.s (.int .u64 a0.Class.a3)), .p (.s (.int .i64 a0.Least)), .p (.s (.int .i64 a0.Most))]), (3, .box 39 [.p (.s (.int .i64 a1.N)), .p (slV (eI .u64) a1.Words)]), (4, .box 39 [.p (.s (.int .i64 0)), .p (.sl .nil 0 [])])], ⟨[], false⟩, []⟩ trivial (by kernel_rfl) ?_
  refine WX.seq ?_
  obtain ⟨t2_2, h2_1, h⟩ := bind_some h
  obtain ⟨t2_4, h2_3, h⟩ := bind_some h
  refine WC.reg (n := 9) (by assumption) [(2, .resP (.agg [.s (.int .i64 t2_2.N), slV (eI .u64) t2_2.Words])), (3, .co [] [] [] [(8, rowV 22 (eI .u64) t2_4.Words)] (.agg [.p (.s (.int .i64 t2_4.N)), .own 8]))] [4] [4, 8] ⟨[(4, .ptr 4 0)], [(4, .box 39 [.p (.s (.int .i64 t2_4.N)), .own 8]), (8, rowV 22 (eI .u64) t2_4.Words)], ⟨[], false⟩, []⟩ (And.intro ((riddleref13_state_ok h2_1)) (And.intro (And.intro ((riddleref01_With_ok h2_3).ren 7 8 (by kernel_rfl)) (trivial)) (trivial))) (by kernel_rfl) ?_
  refine WX.ret ?_
  exact WC.outO (by rw [← Option.some.inj h]; kernel_rfl)
theorem riddleref13_Trigger_okP {k : Nat} {a0 : api_Ring} {a1 : api_Bits} {r : api_Bits} (h : riddleref13_Trigger k a0 a1 = some r) : Ans Tryd.prog 24 [.agg [.s (.int .u64 a0.Class.a0), .s (.int .u64 a0.Class.a1), .s (.int .u64 a0.Class.a2), .s (.int .u64 a0.Class.a3), .s (.int .i64 a0.Least), .s (.int .i64 a0.Most)], .agg [.s (.int .i64 a1.N), slV (eI .u64) a1.Words]] (.agg [.s (.int .i64 r.N), slV (eI .u64) r.Words]) := AnsO.ans (args := [.agg [.s (.int .u64 a0.Class.a0), .s (.int .u64 a0.Class.a1), .s (.int .u64 a0.Class.a2), .s (.int .u64 a0.Class.a3), .s (.int .i64 a0.Least), .s (.int .i64 a0.Most)], .agg [.s (.int .i64 a1.N), slV (eI .u64) a1.Words]]) (riddleref13_Trigger_ok h) (by kernel_rfl)
def riddleref02_Has (a0 : (Arr4 Int)) (a1 : Int) : Option (Bool) :=
  (if 0 ≤ (IntKind.u8.wrap (a1.tdiv 64)) ∧ (IntKind.u8.wrap (a1.tdiv 64)) < 4 then (if ¬ (a1.tmod 64) < 0 then some (((((((get4 a0.a0 a0.a1 a0.a2 a0.a3 ((IntKind.u8.wrap (a1.tdiv 64))))).fdiv (2 ^ (min ((a1.tmod 64)).toNat IntKind.u64.bits)))).tmod 2) == 1)) else none) else none)
theorem riddleref02_Has_ok {a0 : (Arr4 Int)} {a1 : Int} {r : Bool} (h : riddleref02_Has a0 a1 = some r) : Ans Tryd.prog 13 [.agg [.s (.int .u64 a0.a0), .s (.int .u64 a0.a1), .s (.int .u64 a0.a2), .s (.int .u64 a0.a3)], .s (.int .u8 a1)] (.s (.bool r)) := by
  refine W_fn Tryd.func13 rfl (by kernel_rfl) (by kernel_rfl) ?_
  intro X hro hn
  unfold riddleref02_Has at h
  refine WX.seq ?_
  refine WC.reg (n := 14) (by assumption) [] [1, 2] [2] ⟨[(1, .p (.s (.int .u8 a1))), (2, .ptr 2 0)], [(2, .box 24 [.p (.s (.int .u64 a0.a0)), .p (.s (.int .u64 a0.a1)), .p (.s (.int .u64 a0.a2)), .p (.s (.int .u64 a0.a3))])], ⟨[], false⟩, []⟩ trivial (by kernel_rfl) ?_
  refine WX.seq ?_
  obtain ⟨c2_1, h⟩ := if_some h
  obtain ⟨c2_2, h⟩ := if_some h
  refine WC.reg (n := 14) (by assumption) [(2, .val (.ptr 2 (0 + ((IntKind.u8.wrap (a1.tdiv 64))).toNat * 1))), (3, .val (.p (.s (.int .u64 ((get4 a0.a0 a0.a1 a0.a2 a0.a3 ((IntKind.u8.wrap (a1.tdiv 64))))))))), (6, .val (.p (.s (.int .u64 (((get4 a0.a0 a0.a1 a0.a2 a0.a3 ((IntKind.u8.wrap (a1.tdiv 64))))).fdiv (2 ^ (min ((a1.tmod 64)).toNat IntKind.u64.bits)))))))] [4] [] ⟨[(4, .p (.s (.bool (((((((get4 a0.a0 a0.a1 a0.a2 a0.a3 ((IntKind.u8.wrap (a1.tdiv 64))))).fdiv (2 ^ (min ((a1.tmod 64)).toNat IntKind.u64.bits)))).tmod 2) == 1)))))], [], ⟨[], false⟩, []⟩ (And.intro (IxA4 2 0 ((IntKind.u8.wrap (a1.tdiv 64))) c2_1) (And.intro (LdA4 Tryd.prog 22 [] .u64 a0.a0 a0.a1 a0.a2 a0.a3 [] ((IntKind.u8.wrap (a1.tdiv 64))) c2_1 rfl rfl) (And.intro (Shr .u64 ((get4 a0.a0 a0.a1 a0.a2 a0.a3 ((IntKind.u8.wrap (a1.tdiv 64))))) ((a1.tmod 64)) c2_2) (trivial)))) (by kernel_rfl) ?_
  refine WX.ret ?_
  exact WC.outP (by rw [← Option.some.inj h]; kernel_rfl)
def riddleref01_Has (k : Nat) (a0 : api_Bits) (a1 : Int) : Option (Bool) :=
  (riddleref01_may k a0).bind fun t2_2 => ((if (decide (a1 ≥ 0)) = true then (if (decide (a1 < t2_2.N)) = true then (riddleref01_in t2_2.Words a1).bind fun t3_2 => some t3_2 else some false) else some false) : Option (Bool)).bind fun v3 => some v3
theorem riddleref01_Has_ok {k : Nat} {a0 : api_Bits} {a1 : Int} {r : Bool} (h : riddleref01_Has k a0 a1 = some r) : Ans Tryd.prog 18 [.agg [.s (.int .i64 a0.N), slV (eI .u64) a0.Words], .s (.int .i64 a1)] (.s (.bool r)) := by
  refine W_fn Tryd.func18 rfl (by kernel_rfl) (by kernel_rfl) ?_
  intro X hro hn
  unfold riddleref01_Has at h
  refine WX.seq ?_
  refine WC.reg (n := 21) (by assumption) [] [1, 2] [2] ⟨[(1, .p (.s (.int .i64 a1))), (2, .ptr 2 0)], [(2, .box 39 [.p (.s (.int .i64 a0.N)), .p (slV (eI .u64) a0.Words)])], ⟨[], false⟩, []⟩ trivial (by kernel_rfl) ?_
  refine WX.seq ?_
  obtain ⟨t2_2, h2_1, h⟩ := bind_some h
  refine WC.reg (n := 21) (by assumption) [(1, .resP (.agg [.s (.int .i64 t2_2.N), slV (eI .u64) t2_2.Words]))] [1, 2] [2] ⟨[(1, .p (.s (.int .i64 a1))), (2, .ptr 2 0)], [(2, .box 39 [.p (.s (.int .i64 t2_2.N)), .p (slV (eI .u64) t2_2.Words)])], ⟨[], false⟩, []⟩ (And.intro ((riddleref01_may_ok h2_1)) (trivial)) (by kernel_rfl) ?_
  refine WX.seq ?_
  obtain ⟨m3_1, g3, h⟩ := bind_some h
  refine WC.via (α := Bool) (fun v3 => ⟨[(4, .p (.s (.bool v3)))], [], ⟨[], false⟩, []⟩) m3_1 (fun hk => ?_) ?_
  · rcases if_or g3 with ⟨b3_2, g3⟩ | ⟨b3_2, g3⟩
    · rcases if_or g3 with ⟨b3_8, g3⟩ | ⟨b3_8, g3⟩
      · obtain ⟨t3_2, h3_1, g3⟩ := bind_some g3
        exact WC.reg (n := 21) (by assumption) [(2, .val (.p (.s (.bool true)))), (8, .val (.p (.s (.bool true)))), (12, .resP (.s (.bool t3_2)))] [4] [] ⟨[(4, .p (.s (.bool t3_2)))], [], ⟨[], false⟩, []⟩ (And.intro (Bl b3_2) (And.intro (Bl b3_8) (And.intro ((riddleref01_in_ok h3_1)) (trivial)))) (by kernel_rfl) (hk t3_2 (Option.some.inj g3))
      · exact WC.reg (n := 21) (by assumption) [(2, .val (.p (.s (.bool true)))), (8, .val (.p (.s (.bool false))))] [4] [] ⟨[(4, .p (.s (.bool false)))], [], ⟨[], false⟩, []⟩ (And.intro (Bl b3_2) (And.intro (Bl b3_8) (trivial))) (by kernel_rfl) (hk false (Option.some.inj g3))
    · exact WC.reg (n := 21) (by assumption) [(2, .val (.p (.s (.bool false))))] [4] [] ⟨[(4, .p (.s (.bool false)))], [], ⟨[], false⟩, []⟩ (And.intro (Bl b3_2) (trivial)) (by kernel_rfl) (hk false (Option.some.inj g3))
  refine WX.ret ?_
  exact WC.outP (by rw [← Option.some.inj h]; kernel_rfl)
def riddleref01_Shift_l0 (a0 : api_Bits) (a1 : Int) (t2_4 : api_Bits) (J4 : List Int → Option (api_Bits)) : Nat → (Int × List Int) → Option (api_Bits)
  | 0, _ => none
  | k + 1, (x21_1_1, x21_1_2) => (if (decide (x21_1_1 < t2_4.N)) = true then (riddleref01_Has k a0 x21_1_1).bind fun t38_2 => (if (t38_2 && ((((decide (a1 < t2_4.N))) && ((decide (a1 > (IntKind.i64.wrap (0 - t2_4.N)))))))) = true then (riddleref01_put ((api_Bits.mk t2_4.N x21_1_2)) ((IntKind.i64.wrap (x21_1_1 + a1)))).bind fun t40_2 => riddleref01_Shift_l0 a0 a1 t2_4 J4 k ((IntKind.i64.wrap (x21_1_1 + 1)), t40_2) else riddleref01_Shift_l0 a0 a1 t2_4 J4 k ((IntKind.i64.wrap (x21_1_1 + 1)), x21_1_2)) else J4 x21_1_2)
def riddleref01_Shift (k : Nat) (a0 : api_Bits) (a1 : Int) : Option (api_Bits) :=
  (riddleref01_may k a0).bind fun t2_2 => (riddleref01_Zero t2_2.N).bind fun t2_4 => jn (fun (v4 : List Int) => some ((api_Bits.mk t2_4.N v4))) fun J4 => riddleref01_Shift_l0 a0 a1 t2_4 J4 k (0, t2_4.Words)
theorem riddleref01_Shift_ok {k : Nat} {a0 : api_Bits} {a1 : Int} {r : api_Bits} (h : riddleref01_Shift k a0 a1 = some r) : AnsO Tryd.prog 47 [] [.p (.agg [.s (.int .i64 a0.N), slV (eI .u64) a0.Words]), .p (.s (.int .i64 a1))] [(10, rowV 22 (eI .u64) r.Words)] (.agg [.p (.s (.int .i64 r.N)), .own 10]) := by
  refine W_fnO [10] Tryd.func47 rfl (by kernel_rfl) (by kernel_rfl) (by kernel_rfl) (by kernel_rfl) ?_
  intro X hro hn
  unfold riddleref01_Shift at h
  refine WX.seq ?_
  refine WC.reg (n := 39) (by assumption) [] [1, 2, 4] [2, 4] ⟨[(1, .p (.s (.int .i64 a1))), (2, .ptr 2 0), (4, .ptr 4 0)], [(2, .box 39 [.p (.s (.int .i64 a0.N)), .p (slV (eI .u64) a0.Words)]), (4, .box 39 [.p (.s (.int .i64 0)), .p (.sl .nil 0 [])])], ⟨[], false⟩, []⟩ trivial (by kernel_rfl) ?_
  refine WX.seq ?_
  obtain ⟨t2_2, h2_1, h⟩ := bind_some h
  obtain ⟨t2_4, h2_3, h⟩ := bind_some h
  refine WC.reg (n := 39) (by assumption) [(1, .resP (.agg [.s (.int .i64 t2_2.N), slV (eI .u64) t2_2.Words])), (3, .co [] [] [] [(10, rowV 22 (eI .u64) t2_4.Words)] (.agg [.p (.s (.int .i64 t2_4.N)), .own 10]))] [1, 2, 4, 5] [2, 4, 5, 10] ⟨[(1, .p (.s (.int .i64 a1))), (2, .ptr 2 0), (4, .ptr 4 0), (5, .ptr 5 0)], [(2, .box 39 [.p (.s (.int .i64 a0.N)), .p (slV (eI .u64) a0.Words)]), (4, .box 39 [.p (.s (.int .i64 0)), .p (.sl .nil 0 [])]), (5, .box 39 [.p (.s (.int .i64 t2_4.N)), .own 10]), (10, rowV 22 (eI .u64) t2_4.Words)], ⟨[], false⟩, []⟩ (And.intro ((riddleref01_may_ok h2_1)) (And.intro (And.intro ((riddleref01_Zero_ok h2_3).ren 7 10 (by kernel_rfl)) (trivial)) (trivial))) (by kernel_rfl) ?_
  refine WX.seq ?_
  refine WX.seq ?_
  refine WC.reg (n := 39) (by assumption) [] [1, 2, 4, 5, 6] [2, 4, 5, 10] ⟨[(1, .p (.s (.int .i64 a1))), (2, .ptr 2 0), (4, .ptr 4 0), (5, .ptr 5 0), (6, .p (.s (.int .i64 0)))], [(2, .box 39 [.p (.s (.int .i64 a0.N)), .p (slV (eI .u64) a0.Words)]), (4, .box 39 [.p (.s (.int .i64 0)), .p (.sl .nil 0 [])]), (5, .box 39 [.p (.s (.int .i64 t2_4.N)), .own 10]), (10, rowV 22 (eI .u64) t2_4.Words)], ⟨[], false⟩, []⟩ trivial (by kernel_rfl) ?_
  obtain ⟨J4, eJ4, h⟩ := jn_some h
  try dsimp only at h
  refine WC.join (α := List Int) (fun v4 => ⟨[(4, .ptr 4 0), (5, .ptr 5 0)], [(4, .box 39 [.p (.s (.int .i64 0)), .p (.sl .nil 0 [])]), (5, .box 39 [.p (.s (.int .i64 t2_4.N)), .own 10]), (10, rowV 22 (eI .u64) v4)], ⟨[], false⟩, []⟩) (fun v4 => J4 v4 = some r) ?_ (fun hJ4 => ?_)
  · rintro y4_1 h
    rw [eJ4] at h
    try dsimp only at h
    refine WX.seq ?_
    refine WC.reg (n := 39) (by assumption) [] [4] [4, 10] ⟨[(4, .ptr 4 0)], [(4, .box 39 [.p (.s (.int .i64 t2_4.N)), .own 10]), (10, rowV 22 (eI .u64) y4_1)], ⟨[], false⟩, []⟩ trivial (by kernel_rfl) ?_
    refine WX.ret ?_
    exact WC.outO (by rw [← Option.some.inj h]; kernel_rfl)
  · replace hJ4 := fun y4_1 => hJ4 y4_1
    refine WX.block ?_
    refine WC.loop (V := Int × List Int) (riddleref01_Shift_l0 a0 a1 t2_4 J4) r (fun v21 => ⟨[(1, .p (.s (.int .i64 a1))), (2, .ptr 2 0), (4, .ptr 4 0), (5, .ptr 5 0), (6, .p (.s (.int .i64 v21.1)))], [(2, .box 39 [.p (.s (.int .i64 a0.N)), .p (slV (eI .u64) a0.Words)]), (4, .box 39 [.p (.s (.int .i64 0)), .p (.sl .nil 0 [])]), (5, .box 39 [.p (.s (.int .i64 t2_4.N)), .own 10]), (10, rowV 22 (eI .u64) v21.2)], ⟨[], false⟩, []⟩) _ (0, t2_4.Words) h (fun _ => rfl) [1, 2, 4, 5, 6] [2, 4, 5, 10] (by kernel_rfl) ?_
    clear h; rintro k ⟨x21_1_1, x21_1_2⟩ h K21 hnext21 hexit21
    rw [riddleref01_Shift_l0] at h
    refine WX.seq ?_
    refine WX.seq ?_
    refine WC.reg (n := 39) (by assumption) [] [1, 2, 4, 5, 6, 14] [2, 4, 5, 10] ⟨[(1, .p (.s (.int .i64 a1))), (2, .ptr 2 0), (4, .ptr 4 0), (5, .ptr 5 0), (6, .p (.s (.int .i64 x21_1_1))), (14, .p (.s (.bool ((decide (x21_1_1 < t2_4.N))))))], [(2, .box 39 [.p (.s (.int .i64 a0.N)), .p (slV (eI .u64) a0.Words)]), (4, .box 39 [.p (.s (.int .i64 0)), .p (.sl .nil 0 [])]), (5, .box 39 [.p (.s (.int .i64 t2_4.N)), .own 10]), (10, rowV 22 (eI .u64) x21_1_2)], ⟨[], false⟩, []⟩ trivial (by kernel_rfl) ?_
    rcases if_or h with ⟨c37, h⟩ | ⟨c37, h⟩
    · refine WC.condT c37 (by kernel_rfl) ?_
      refine WX.skip ?_
      refine WX.seq ?_
      refine WX.block ?_
      refine WX.seq ?_
      obtain ⟨t38_2, h38_1, h⟩ := bind_some h
      refine WC.via (α := Bool) (fun v38 => ⟨[(1, .p (.s (.int .i64 a1))), (2, .ptr 2 0), (4, .ptr 4 0), (5, .ptr 5 0), (6, .p (.s (.int .i64 x21_1_1))), (32, .p (.s (.bool v38)))], [(2, .box 39 [.p (.s (.int .i64 a0.N)), .p (slV (eI .u64) a0.Words)]), (4, .box 39 [.p (.s (.int .i64 0)), .p (.sl .nil 0 [])]), (5, .box 39 [.p (.s (.int .i64 t2_4.N)), .own 10]), (10, rowV 22 (eI .u64) x21_1_2)], ⟨[], false⟩, []⟩) ((t38_2 && ((((decide (a1 < t2_4.N))) && ((decide (a1 > (IntKind.i64.wrap (0 - t2_4.N))))))))) (fun hk => ?_) ?_
      · rcases Bool.eq_false_or_eq_true t38_2 with b38_3 | b38_3
        · rcases Bool.eq_false_or_eq_true ((decide (a1 < t2_4.N))) with b38_9 | b38_9
          · exact WC.reg (n := 39) (by assumption) [(2, .resP (.s (.bool t38_2))), (3, .val (.p (.s (.bool true)))), (9, .val (.p (.s (.bool true))))] [1, 2, 4, 5, 6, 32] [2, 4, 5, 10] ⟨[(1, .p (.s (.int .i64 a1))), (2, .ptr 2 0), (4, .ptr 4 0), (5, .ptr 5 0), (6, .p (.s (.int .i64 x21_1_1))), (32, .p (.s (.bool ((decide (a1 > (IntKind.i64.wrap (0 - t2_4.N))))))))], [(2, .box 39 [.p (.s (.int .i64 a0.N)), .p (slV (eI .u64) a0.Words)]), (4, .box 39 [.p (.s (.int .i64 0)), .p (.sl .nil 0 [])]), (5, .box 39 [.p (.s (.int .i64 t2_4.N)), .own 10]), (10, rowV 22 (eI .u64) x21_1_2)], ⟨[], false⟩, []⟩ (And.intro ((riddleref01_Has_ok h38_1)) (And.intro (Bl b38_3) (And.intro (Bl b38_9) (trivial)))) (by kernel_rfl) (hk ((decide (a1 > (IntKind.i64.wrap (0 - t2_4.N))))) (by first | (rw [b38_3, b38_9]; rfl) | simp [b38_3, b38_9]))
          · exact WC.reg (n := 39) (by assumption) [(2, .resP (.s (.bool t38_2))), (3, .val (.p (.s (.bool true)))), (9, .val (.p (.s (.bool false))))] [1, 2, 4, 5, 6, 32] [2, 4, 5, 10] ⟨[(1, .p (.s (.int .i64 a1))), (2, .ptr 2 0), (4, .ptr 4 0), (5, .ptr 5 0), (6, .p (.s (.int .i64 x21_1_1))), (32, .p (.s (.bool false)))], [(2, .box 39 [.p (.s (.int .i64 a0.N)), .p (slV (eI .u64) a0.Words)]), (4, .box 39 [.p (.s (.int .i64 0)), .p (.sl .nil 0 [])]), (5, .box 39 [.p (.s (.int .i64 t2_4.N)), .own 10]), (10, rowV 22 (eI .u64) x21_1_2)], ⟨[], false⟩, []⟩ (And.intro ((riddleref01_Has_ok h38_1)) (And.intro (Bl b38_3) (And.intro (Bl b38_9) (trivial)))) (by kernel_rfl) (hk false (by first | (rw [b38_3, b38_9]; rfl) | simp [b38_3, b38_9]))
        · exact WC.reg (n := 39) (by assumption) [(2, .resP (.s (.bool t38_2))), (3, .val (.p (.s (.bool false))))] [1, 2, 4, 5, 6, 32] [2, 4, 5, 10] ⟨[(1, .p (.s (.int .i64 a1))), (2, .ptr 2 0), (4, .ptr 4 0), (5, .ptr 5 0), (6, .p (.s (.int .i64 x21_1_1))), (32, .p (.s (.bool false)))], [(2, .box 39 [.p (.s (.int .i64 a0.N)), .p (slV (eI .u64) a0.Words)]), (4, .box 39 [.p (.s (.int .i64 0)), .p (.sl .nil 0 [])]), (5, .box 39 [.p (.s (.int .i64 t2_4.N)), .own 10]), (10, rowV 22 (eI .u64) x21_1_2)], ⟨[], false⟩, []⟩ (And.intro ((riddleref01_Has_ok h38_1)) (And.intro (Bl b38_3) (trivial))) (by kernel_rfl) (hk false (by first | (rw [b38_3]; rfl) | simp [b38_3]))
      rcases if_or h with ⟨c39, h⟩ | ⟨c39, h⟩
      · refine WC.condT c39 (by kernel_rfl) ?_
        obtain ⟨t40_2, h40_1, h⟩ := bind_some h
        refine WC.reg (n := 39) (by assumption) [(4, .co [] [10] [] [(10, rowV 22 (eI .u64) t40_2)] (.tup []))] [1, 2, 4, 5, 6] [2, 4, 5, 10] ⟨[(1, .p (.s (.int .i64 a1))), (2, .ptr 2 0), (4, .ptr 4 0), (5, .ptr 5 0), (6, .p (.s (.int .i64 x21_1_1)))], [(2, .box 39 [.p (.s (.int .i64 a0.N)), .p (slV (eI .u64) a0.Words)]), (4, .box 39 [.p (.s (.int .i64 0)), .p (.sl .nil 0 [])]), (5, .box 39 [.p (.s (.int .i64 t2_4.N)), .own 10]), (10, rowV 22 (eI .u64) t40_2)], ⟨[], false⟩, []⟩ (And.intro (And.intro ((riddleref01_put_ok h40_1).ren 1000 10 (by kernel_rfl)) (trivial)) (trivial)) (by kernel_rfl) ?_
        refine WX.popBlk ?_
        refine WC.reg (n := 39) (by assumption) [] [1, 2, 4, 5, 6] [2, 4, 5, 10] ⟨[(1, .p (.s (.int .i64 a1))), (2, .ptr 2 0), (4, .ptr 4 0), (5, .ptr 5 0), (6, .p (.s (.int .i64 ((IntKind.i64.wrap (x21_1_1 + 1))))))], [(2, .box 39 [.p (.s (.int .i64 a0.N)), .p (slV (eI .u64) a0.Words)]), (4, .box 39 [.p (.s (.int .i64 0)), .p (.sl .nil 0 [])]), (5, .box 39 [.p (.s (.int .i64 t2_4.N)), .own 10]), (10, rowV 22 (eI .u64) t40_2)], ⟨[], false⟩, []⟩ trivial (by kernel_rfl) ?_
        exact WC.next [1, 2, 4, 5, 6] [2, 4, 5, 10] (by kernel_rfl) (hnext21 ((IntKind.i64.wrap (x21_1_1 + 1)), t40_2) h)
      · refine WC.condF c39 (by kernel_rfl) ?_
        refine WX.skip ?_
        refine WX.popBlk ?_
        refine WC.reg (n := 39) (by assumption) [] [1, 2, 4, 5, 6] [2, 4, 5, 10] ⟨[(1, .p (.s (.int .i64 a1))), (2, .ptr 2 0), (4, .ptr 4 0), (5, .ptr 5 0), (6, .p (.s (.int .i64 ((IntKind.i64.wrap (x21_1_1 + 1))))))], [(2, .box 39 [.p (.s (.int .i64 a0.N)), .p (slV (eI .u64) a0.Words)]), (4, .box 39 [.p (.s (.int .i64 0)), .p (.sl .nil 0 [])]), (5, .box 39 [.p (.s (.int .i64 t2_4.N)), .own 10]), (10, rowV 22 (eI .u64) x21_1_2)], ⟨[], false⟩, []⟩ trivial (by kernel_rfl) ?_
        exact WC.next [1, 2, 4, 5, 6] [2, 4, 5, 10] (by kernel_rfl) (hnext21 ((IntKind.i64.wrap (x21_1_1 + 1)), x21_1_2) h)
    · refine WC.condF c37 (by kernel_rfl) ?_
      refine WX.exit ?_
      refine WX.popCodeExit ?_
      refine WC.exit_nil (hexit21 _ _ (by simp) ?_)
      refine WX.popBlkHit ?_
      exact WC.keep [4, 5] [4, 5, 10] (by kernel_rfl) (hJ4 x21_1_2 h)
theorem riddleref01_Shift_okP {k : Nat} {a0 : api_Bits} {a1 : Int} {r : api_Bits} (h : riddleref01_Shift k a0 a1 = some r) : Ans Tryd.prog 47 [.agg [.s (.int .i64 a0.N), slV (eI .u64) a0.Words], .s (.int .i64 a1)] (.agg [.s (.int .i64 r.N), slV (eI .u64) r.Words]) := AnsO.ans (args := [.agg [.s (.int .i64 a0.N), slV (eI .u64) a0.Words], .s (.int .i64 a1)]) (riddleref01_Shift_ok h) (by kernel_rfl)
def riddleref13_Next (k : Nat) (a0 : api_Ring) (a1 : api_Bits) (a2 : Int) : Option (api_Bits) :=
  (riddleref13_may a0).bind fun t2_2 => (riddleref02_Has t2_2.Class a2).bind fun t2_4 => (if (!t2_4) = true then (riddleref13_None a0).bind fun t4_2 => some t4_2 else (riddleref13_state k a0 a1).bind fun t5_2 => (riddleref01_Shift k t5_2 1).bind fun t5_4 => some t5_4)
theorem riddleref13_Next_ok {k : Nat} {a0 : api_Ring} {a1 : api_Bits} {a2 : Int} {r : api_Bits} (h : riddleref13_Next k a0 a1 a2 = some r) : AnsO Tryd.prog 26 [] [.p (.agg [.s (.int .u64 a0.Class.a0), .s (.int .u64 a0.Class.a1), .s (.int .u64 a0.Class.a2), .s (.int .u64 a0.Class.a3), .s (.int .i64 a0.Least), .s (.int .i64 a0.Most)]), .p (.agg [.s (.int .i64 a1.N), slV (eI .u64) a1.Words]), .p (.s (.int .u8 a2))] [(14, rowV 22 (eI .u64) r.Words)] (.agg [.p (.s (.int .i64 r.N)), .own 14]) := by
  refine W_fnO [14] Tryd.func26 rfl (by kernel_rfl) (by kernel_rfl) (by kernel_rfl) (by kernel_rfl) ?_
  intro X hro hn
  unfold riddleref13_Next at h
  refine WX.seq ?_
  refine WC.reg (n := 19) (by assumption) [] [2, 3, 4, 6] [3, 4, 6] ⟨[(2, .p (.s (.int .u8 a2))), (3, .ptr 3 0), (4, .ptr 4 0), (6, .ptr 6 0)], [(3, .box 26 [.p (.s (.int .u64 a0.Class.a0)), .p (.s (.int .u64 a0.Class.a1)), .p (.s (.int .u64 a0.Class.a2)), .p (.s (.int .u64 a0.Class.a3)), .p (.s (.int .i64 a0.Least)), .p (.s (.int .i64 a0.Most))]), (4, .box 39 [.p (.s (.int .i64 a1.N)), .p (slV (eI .u64) a1.Words)]), (6, .box 39 [.p (.s (.int .i64 0)), .p (.sl .nil 0 [])])], ⟨[], false⟩, []⟩ trivial (by kernel_rfl) ?_
  refine WX.seq ?_
  refine WX.seq ?_
  obtain ⟨t2_2, h2_1, h⟩ := bind_some h
  obtain ⟨t2_4, h2_3, h⟩ := bind_some h
  refine WC.reg (n := 19) (by assumption) [(1, .resP (.agg [.s (.int .u64 t2_2.Class.a0), .s (.int .u64 t2_2.Class.a1), .s (.int .u64 t2_2.Class.a2), .s (.int .u64 t2_2.Class.a3), .s (.int .i64 t2_2.Least), .s (.int .i64 t2_2.Most)])), (4, .resP (.s (.bool t2_4)))] [3, 4, 6, 12] [3, 4, 6] ⟨[(3, .ptr 3 0), (4, .ptr 4 0), (6, .ptr 6 0), (12, .p (.s (.bool ((!t2_4)))))], [(3, .box 26 [.p (.s (.int .u64 a0.Class.a0)), .p (.s (.int .u64 a0.Class.a1)), .p (.s (.int .u64 a0.Class.a2)), .p (.s (.int .u64 a0.Class.a3)), .p (.s (.int .i64 a0.Least)), .p (.s (.int .i64 a0.Most))]), (4, .box 39 [.p (.s (.int .i64 a1.N)), .p (slV (eI .u64) a1.Words)]), (6, .box 39 [.p (.s (.int .i64 0)), .p (.sl .nil 0 [])])], ⟨[], false⟩, []⟩ (And.intro ((riddleref13_may_ok h2_1)) (And.intro ((riddleref02_Has_ok h2_3)) (trivial))) (by kernel_rfl) ?_
  rcases if_or h with ⟨c3, h⟩ | ⟨c3, h⟩
  · refine WC.condT c3 (by kernel_rfl) ?_
    refine WX.seq ?_
    obtain ⟨t4_2, h4_1, h⟩ := bind_some h
    refine WC.reg (n := 19) (by assumption) [(1, .co [] [] [] [(14, rowV 22 (eI .u64) t4_2.Words)] (.agg [.p (.s (.int .i64 t4_2.N)), .own 14]))] [6] [6, 14] ⟨[(6, .ptr 6 0)], [(6, .box 39 [.p (.s (.int .i64 t4_2.N)), .own 14]), (14, rowV 22 (eI .u64) t4_2.Words)], ⟨[], false⟩, []⟩ (And.intro (And.intro ((riddleref13_None_ok h4_1).ren 7 14 (by kernel_rfl)) (trivial)) (trivial)) (by kernel_rfl) ?_
    refine WX.ret ?_
    exact WC.outO (by rw [← Option.some.inj h]; kernel_rfl)
  · refine WC.condF c3 (by kernel_rfl) ?_
    refine WX.skip ?_
    refine WX.seq ?_
    obtain ⟨t5_2, h5_1, h⟩ := bind_some h
    obtain ⟨t5_4, h5_3, h⟩ := bind_some h
    refine WC.reg (n := 19) (by assumption) [(2, .resP (.agg [.s (.int .i64 t5_2.N), slV (eI .u64) t5_2.Words])), (3, .co [] [] [] [(18, rowV 22 (eI .u64) t5_4.Words)] (.agg [.p (.s (.int .i64 t5_4.N)), .own 18]))] [6] [6, 18] ⟨[(6, .ptr 6 0)], [(6, .box 39 [.p (.s (.int .i64 t5_4.N)), .own 18]), (18, rowV 22 (eI .u64) t5_4.Words)], ⟨[], false⟩, []⟩ (And.intro ((riddleref13_state_ok h5_1)) (And.intro (And.intro ((riddleref01_Shift_ok h5_3).ren 10 18 (by kernel_rfl)) (trivial)) (trivial))) (by kernel_rfl) ?_
    refine WX.ret ?_
    refine WC.ren (n := 19) (by assumption) 18 14 (by kernel_rfl) [6] [6, 14] (st' := ⟨[(6, .ptr 6 0)], [(6, .box 39 [.p (.s (.int .i64 t5_4.N)), .own 14]), (14, rowV 22 (eI .u64) t5_4.Words)], ⟨[], false⟩, []⟩) (by kernel_rfl) ?_
    exact WC.outO (by rw [← Option.some.inj h]; kernel_rfl)
theorem riddleref13_Next_okP {k : Nat} {a0 : api_Ring} {a1 : api_Bits} {a2 : Int} {r : api_Bits} (h : riddleref13_Next k a0 a1 a2 = some r) : Ans Tryd.prog 26 [.agg [.s (.int .u64 a0.Class.a0), .s (.int .u64 a0.Class.a1), .s (.int .u64 a0.Class.a2), .s (.int .u64 a0.Class.a3), .s (.int .i64 a0.Least), .s (.int .i64 a0.Most)], .agg [.s (.int .i64 a1.N), slV (eI .u64) a1.Words], .s (.int .u8 a2)] (.agg [.s (.int .i64 r.N), slV (eI .u64) r.Words]) := AnsO.ans (args := [.agg [.s (.int .u64 a0.Class.a0), .s (.int .u64 a0.Class.a1), .s (.int .u64 a0.Class.a2), .s (.int .u64 a0.Class.a3), .s (.int .i64 a0.Least), .s (.int .i64 a0.Most)], .agg [.s (.int .i64 a1.N), slV (eI .u64) a1.Words], .s (.int .u8 a2)]) (riddleref13_Next_ok h) (by kernel_rfl)
def riddleref01_First_l0 (a0 : api_Bits) (J3 : Unit → Option (Int × Bool)) : Nat → Int → Option (Int × Bool)
  | 0, _ => none
  | k + 1, x18_1_1 => (riddleref01_may k a0).bind fun t31_2 => (if (decide (x18_1_1 < t31_2.N)) = true then (riddleref01_Has k a0 x18_1_1).bind fun t33_2 => (if t33_2 = true then some (x18_1_1, true) else riddleref01_First_l0 a0 J3 k ((IntKind.i64.wrap (x18_1_1 + 1)))) else J3 ())
def riddleref01_First (k : Nat) (a0 : api_Bits) (a1 : Int) : Option (Int × Bool) :=
  jn (fun (v3 : Unit) => some (0, false)) fun J3 => riddleref01_First_l0 a0 J3 k ((maxI a1 0))
theorem riddleref01_First_ok {k : Nat} {a0 : api_Bits} {a1 : Int} {r : Int × Bool} (h : riddleref01_First k a0 a1 = some r) : Ans Tryd.prog 50 [.agg [.s (.int .i64 a0.N), slV (eI .u64) a0.Words], .s (.int .i64 a1)] (.tup [.s (.int .i64 r.1), .s (.bool r.2)]) := by
  refine W_fn Tryd.func50 rfl (by kernel_rfl) (by kernel_rfl) ?_
  intro X hro hn
  unfold riddleref01_First at h
  refine WX.seq ?_
  refine WC.reg (n := 20) (by assumption) [] [1, 2] [2] ⟨[(1, .p (.s (.int .i64 a1))), (2, .ptr 2 0)], [(2, .box 39 [.p (.s (.int .i64 a0.N)), .p (slV (eI .u64) a0.Words)])], ⟨[], false⟩, []⟩ trivial (by kernel_rfl) ?_
  refine WX.seq ?_
  refine WX.seq ?_
  refine WC.reg (n := 20) (by assumption) [] [2, 6] [2] ⟨[(2, .ptr 2 0), (6, .p (.s (.int .i64 ((maxI a1 0)))))], [(2, .box 39 [.p (.s (.int .i64 a0.N)), .p (slV (eI .u64) a0.Words)])], ⟨[], false⟩, []⟩ trivial (by kernel_rfl) ?_
  obtain ⟨J3, eJ3, h⟩ := jn_some h
  try dsimp only at h
  refine WC.join (α := Unit) (fun v3 => ⟨[], [], ⟨[], false⟩, []⟩) (fun v3 => J3 v3 = some r) ?_ (fun hJ3 => ?_)
  · rintro _ h
    rw [eJ3] at h
    try dsimp only at h
    refine WX.seq ?_
    refine WC.reg (n := 20) (by assumption) [] [4, 5] [] ⟨[(4, .p (.s (.int .i64 0))), (5, .p (.s (.bool false)))], [], ⟨[], false⟩, []⟩ trivial (by kernel_rfl) ?_
    refine WX.ret ?_
    exact WC.outP (by rw [← Option.some.inj h]; kernel_rfl)
  · skip
    refine WX.block ?_
    refine WC.loop (V := Int) (riddleref01_First_l0 a0 J3) r (fun v18 => ⟨[(2, .ptr 2 0), (6, .p (.s (.int .i64 v18)))], [(2, .box 39 [.p (.s (.int .i64 a0.N)), .p (slV (eI .u64) a0.Words)])], ⟨[], false⟩, []⟩) _ ((maxI a1 0)) h (fun _ => rfl) [2, 6] [2] (by kernel_rfl) ?_
    clear h; rintro k x18_1_1 h K18 hnext18 hexit18
    rw [riddleref01_First_l0] at h
    refine WX.seq ?_
    refine WX.seq ?_
    obtain ⟨t31_2, h31_1, h⟩ := bind_some h
    refine WC.reg (n := 20) (by assumption) [(2, .resP (.agg [.s (.int .i64 t31_2.N), slV (eI .u64) t31_2.Words]))] [2, 6, 13] [2] ⟨[(2, .ptr 2 0), (6, .p (.s (.int .i64 x18_1_1))), (13, .p (.s (.bool ((decide (x18_1_1 < t31_2.N))))))], [(2, .box 39 [.p (.s (.int .i64 a0.N)), .p (slV (eI .u64) a0.Words)])], ⟨[], false⟩, []⟩ (And.intro ((riddleref01_may_ok h31_1)) (trivial)) (by kernel_rfl) ?_
    rcases if_or h with ⟨c32, h⟩ | ⟨c32, h⟩
    · refine WC.condT c32 (by kernel_rfl) ?_
      refine WX.skip ?_
      refine WX.seq ?_
      refine WX.block ?_
      refine WX.seq ?_
      obtain ⟨t33_2, h33_1, h⟩ := bind_some h
      refine WC.reg (n := 20) (by assumption) [(2, .resP (.s (.bool t33_2)))] [2, 6, 18] [2] ⟨[(2, .ptr 2 0), (6, .p (.s (.int .i64 x18_1_1))), (18, .p (.s (.bool t33_2)))], [(2, .box 39 [.p (.s (.int .i64 a0.N)), .p (slV (eI .u64) a0.Words)])], ⟨[], false⟩, []⟩ (And.intro ((riddleref01_Has_ok h33_1)) (trivial)) (by kernel_rfl) ?_
      rcases if_or h with ⟨c34, h⟩ | ⟨c34, h⟩
      · refine WC.condT c34 (by kernel_rfl) ?_
        refine WX.seq ?_
        refine WC.reg (n := 20) (by assumption) [] [4, 5] [] ⟨[(4, .p (.s (.int .i64 x18_1_1))), (5, .p (.s (.bool true)))], [], ⟨[], false⟩, []⟩ trivial (by kernel_rfl) ?_
        refine WX.ret ?_
        refine WC.ret_all (hexit18 _ _ (by simp) ?_)
        exact WC.outP (by rw [← Option.some.inj h]; kernel_rfl)
      · refine WC.condF c34 (by kernel_rfl) ?_
        refine WX.skip ?_
        refine WX.popBlk ?_
        refine WC.reg (n := 20) (by assumption) [] [2, 6] [2] ⟨[(2, .ptr 2 0), (6, .p (.s (.int .i64 ((IntKind.i64.wrap (x18_1_1 + 1))))))], [(2, .box 39 [.p (.s (.int .i64 a0.N)), .p (slV (eI .u64) a0.Words)])], ⟨[], false⟩, []⟩ trivial (by kernel_rfl) ?_
        exact WC.next [2, 6] [2] (by kernel_rfl) (hnext18 ((IntKind.i64.wrap (x18_1_1 + 1))) h)
    · refine WC.condF c32 (by kernel_rfl) ?_
      refine WX.exit ?_
      refine WX.popCodeExit ?_
      refine WC.exit_nil (hexit18 _ _ (by simp) ?_)
      refine WX.popBlkHit ?_
      exact WC.keep [] [] (by kernel_rfl) (hJ3 () h)
def riddleref13_Accepts (k : Nat) (a0 : api_Ring) (a1 : api_Bits) : Option (Bool) :=
  (riddleref13_state k a0 a1).bind fun t2_2 => (riddleref13_may a0).bind fun t2_4 => (riddleref01_First k t2_2 t2_4.Least).bind fun t2_6 => some t2_6.2
theorem riddleref13_Accepts_ok {k : Nat} {a0 : api_Ring} {a1 : api_Bits} {r : Bool} (h : riddleref13_Accepts k a0 a1 = some r) : Ans Tryd.prog 29 [.agg [.s (.int .u64 a0.Class.a0), .s (.int .u64 a0.Class.a1), .s (.int .u64 a0.Class.a2), .s (.int .u64 a0.Class.a3), .s (.int .i64 a0.Least), .s (.int .i64 a0.Most)], .agg [.s (.int .i64 a1.N), slV (eI .u64) a1.Words]] (.s (.bool r)) := by
  refine W_fn Tryd.func29 rfl (by kernel_rfl) (by kernel_rfl) ?_
  intro X hro hn
  unfold riddleref13_Accepts at h
  refine WX.seq ?_
  refine WC.reg (n := 18) (by assumption) [] [2, 3] [2, 3] ⟨[(2, .ptr 2 0), (3, .ptr 3 0)], [(2, .box 26 [.p (.s (.int .u64 a0.Class.a0)), .p (.s (.int .u64 a0.Class.a1)), .p (.s (.int .u64 a0.Class.a2)), .p (.s (.int .u64 a0.Class.a3)), .p (.s (.int .i64 a0.Least)), .p (.s (.int .i64 a0.Most))]), (3, .box 39 [.p (.s (.int .i64 a1.N)), .p (slV (eI .u64) a1.Words)])], ⟨[], false⟩, []⟩ trivial (by kernel_rfl) ?_
  refine WX.seq ?_
  obtain ⟨t2_2, h2_1, h⟩ := bind_some h
  obtain ⟨t2_4, h2_3, h⟩ := bind_some h
  obtain ⟨t2_6, h2_5, h⟩ := bind_some h
  refine WC.drw (n := 18) (by assumption) [] [] [(2, .resP (.agg [.s (.int .i64 t2_2.N), slV (eI .u64) t2_2.Words])), (4, .resP (.agg [.s (.int .u64 t2_4.Class.a0), .s (.int .u64 t2_4.Class.a1), .s (.int .u64 t2_4.Class.a2), .s (.int .u64 t2_4.Class.a3), .s (.int .i64 t2_4.Least), .s (.int .i64 t2_4.Most)])), (6, .resP (.tup [.s (.int .i64 t2_6.1), .s (.bool t2_6.2)]))] [6] [] ⟨[(6, .p (.s (.bool t2_6.2)))], [], ⟨[], false⟩, []⟩ (And.intro ((riddleref13_state_ok h2_1)) (And.intro ((riddleref13_may_ok h2_3)) (And.intro ((riddleref01_First_ok h2_5)) (trivial)))) (by kernel_rfl) (by kernel_rfl) (by kernel_rfl) (by kernel_rfl) ?_
  refine WX.seq ?_
  refine WC.reg (n := 18) (by assumption) [] [4] [] ⟨[(4, .p (.s (.bool t2_6.2)))], [], ⟨[], false⟩, []⟩ trivial (by kernel_rfl) ?_
  refine WX.ret ?_
  exact WC.outP (by rw [← Option.some.inj h]; kernel_rfl)
def riddleref13_has_l0 (a0 : (List Int)) (a1 : Int) (J3 : Unit → Option (Bool)) : Nat → Int → Option (Bool)
  | 0, _ => none
  | k + 1, x18_1_1 => (if (decide (x18_1_1 < (a0.length : Int))) = true then (at_ a0 x18_1_1).bind fun t33_2 => (if (t33_2 == a1) = true then some true else riddleref13_has_l0 a0 a1 J3 k ((IntKind.i64.wrap (x18_1_1 + 1)))) else J3 ())
def riddleref13_has (k : Nat) (a0 : (List Int)) (a1 : Int) : Option (Bool) :=
  jn (fun (v3 : Unit) => some false) fun J3 => riddleref13_has_l0 a0 a1 J3 k 0
theorem riddleref13_has_ok {k : Nat} {a0 : (List Int)} {a1 : Int} {r : Bool} (h : riddleref13_has k a0 a1 = some r) : Ans Tryd.prog 31 [slV (eI .i64) a0, .s (.int .i64 a1)] (.s (.bool r)) := by
  refine W_fn Tryd.func31 rfl (by kernel_rfl) (by kernel_rfl) ?_
  intro X hro hn
  unfold riddleref13_has at h
  refine WX.seq ?_
  refine WC.reg (n := 18) (by assumption) [] [0, 1] [] ⟨[(0, .p (slV (eI .i64) a0)), (1, .p (.s (.int .i64 a1)))], [], ⟨[], false⟩, []⟩ trivial (by kernel_rfl) ?_
  refine WX.seq ?_
  refine WX.seq ?_
  refine WC.reg (n := 18) (by assumption) [] [0, 1, 5] [] ⟨[(0, .p (slV (eI .i64) a0)), (1, .p (.s (.int .i64 a1))), (5, .p (.s (.int .i64 0)))], [], ⟨[], false⟩, []⟩ trivial (by kernel_rfl) ?_
  obtain ⟨J3, eJ3, h⟩ := jn_some h
  try dsimp only at h
  refine WC.join (α := Unit) (fun v3 => ⟨[], [], ⟨[], false⟩, []⟩) (fun v3 => J3 v3 = some r) ?_ (fun hJ3 => ?_)
  · rintro _ h
    rw [eJ3] at h
    try dsimp only at h
    refine WX.seq ?_
    refine WC.reg (n := 18) (by assumption) [] [4] [] ⟨[(4, .p (.s (.bool false)))], [], ⟨[], false⟩, []⟩ trivial (by kernel_rfl) ?_
    refine WX.ret ?_
    exact WC.outP (by rw [← Option.some.inj h]; kernel_rfl)
  · skip
    refine WX.block ?_
    refine WC.loop (V := Int) (riddleref13_has_l0 a0 a1 J3) r (fun v18 => ⟨[(0, .p (slV (eI .i64) a0)), (1, .p (.s (.int .i64 a1))), (5, .p (.s (.int .i64 v18)))], [], ⟨[], false⟩, []⟩) _ 0 h (fun _ => rfl) [0, 1, 5] [] (by kernel_rfl) ?_
    clear h; rintro k x18_1_1 h K18 hnext18 hexit18
    rw [riddleref13_has_l0] at h
    refine WX.seq ?_
    refine WX.seq ?_
    refine WC.reg (n := 18) (by assumption) [] [0, 1, 5, 9] [] ⟨[(0, .p (slV (eI .i64) a0)), (1, .p (.s (.int .i64 a1))), (5, .p (.s (.int .i64 x18_1_1))), (9, .p (.s (.bool ((decide (x18_1_1 < (a0.length : Int)))))))], [], ⟨[], false⟩, []⟩ trivial (by kernel_rfl) ?_
    rcases if_or h with ⟨c32, h⟩ | ⟨c32, h⟩
    · refine WC.condT c32 (by kernel_rfl) ?_
      refine WX.skip ?_
      refine WX.seq ?_
      refine WX.block ?_
      refine WX.seq ?_
      obtain ⟨t33_2, h33_1, h⟩ := bind_some h
      refine WC.reg (n := 18) (by assumption) [(2, .val (.p (.rop ((eI .i64).cells t33_2 ++ encL (eI .i64) (a0.drop (x18_1_1.toNat + 1))))))] [0, 1, 5, 17] [] ⟨[(0, .p (slV (eI .i64) a0)), (1, .p (.s (.int .i64 a1))), (5, .p (.s (.int .i64 x18_1_1))), (17, .p (.s (.bool ((t33_2 == a1)))))], [], ⟨[], false⟩, []⟩ (And.intro (Ix (eI .i64) h33_1) (trivial)) (by kernel_rfl) ?_
      rcases if_or h with ⟨c34, h⟩ | ⟨c34, h⟩
      · refine WC.condT c34 (by kernel_rfl) ?_
        refine WX.seq ?_
        refine WC.reg (n := 18) (by assumption) [] [4] [] ⟨[(4, .p (.s (.bool true)))], [], ⟨[], false⟩, []⟩ trivial (by kernel_rfl) ?_
        refine WX.ret ?_
        refine WC.ret_all (hexit18 _ _ (by simp) ?_)
        exact WC.outP (by rw [← Option.some.inj h]; kernel_rfl)
      · refine WC.condF c34 (by kernel_rfl) ?_
        refine WX.skip ?_
        refine WX.popBlk ?_
        refine WC.reg (n := 18) (by assumption) [] [0, 1, 5] [] ⟨[(0, .p (slV (eI .i64) a0)), (1, .p (.s (.int .i64 a1))), (5, .p (.s (.int .i64 ((IntKind.i64.wrap (x18_1_1 + 1))))))], [], ⟨[], false⟩, []⟩ trivial (by kernel_rfl) ?_
        exact WC.next [0, 1, 5] [] (by kernel_rfl) (hnext18 ((IntKind.i64.wrap (x18_1_1 + 1))) h)
    · refine WC.condF c32 (by kernel_rfl) ?_
      refine WX.exit ?_
      refine WX.popCodeExit ?_
      refine WC.exit_nil (hexit18 _ _ (by simp) ?_)
      refine WX.popBlkHit ?_
      exact WC.keep [] [] (by kernel_rfl) (hJ3 () h)
end Go.Proofs.YthmobmginjblhaaDoor
