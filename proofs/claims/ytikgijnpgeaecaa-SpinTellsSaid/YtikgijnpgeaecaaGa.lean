/- YtikgijnpgeaecaaGa: a part of the proof; see the last text for what is proved. -/
import Derived.Test.YtikgijnpgeaecaaAaExp
import Derived.Test.YtikgijnpgeaecaaAaFlt
import Derived.Test.YtikgijnpgeaecaaProg
import Derived.KernelRfl
set_option maxRecDepth 100000
set_option linter.unusedVariables false
set_option linter.unusedSimpArgs false
namespace Go.Proofs.Ytikgijnpgeaecaa
open Go.AE
structure S7 where
  x : Int
  y : Int
  signed : Bool
  code : Int
def e_S7 : Enc S7 := ⟨fun x => [.s (.int .i64 x.x), .s (.int .i64 x.y), .s (.bool x.signed), .s (.int .u8 x.code)], 4, fun _ => rfl, by decide⟩
structure runtime_boundsError where
  x : Int
  y : Int
  signed : Bool
  code : Int
def e_runtime_boundsError : Enc runtime_boundsError := ⟨fun x => [.s (.int .i64 x.x), .s (.int .i64 x.y), .s (.bool x.signed), .s (.int .u8 x.code)], 4, fun _ => rfl, by decide⟩
structure S13 where
  msg : ByteArray
  addr : Int
def e_S13 : Enc S13 := ⟨fun x => [.s (.string x.msg), .s (.int .u64 x.addr)], 2, fun _ => rfl, by decide⟩
structure runtime_errorAddressString where
  msg : ByteArray
  addr : Int
def e_runtime_errorAddressString : Enc runtime_errorAddressString := ⟨fun x => [.s (.string x.msg), .s (.int .u64 x.addr)], 2, fun _ => rfl, by decide⟩
structure S24 where
  Re : Int
  Im : Int
def e_S24 : Enc S24 := ⟨fun x => [.s (.int .i64 x.Re), .s (.int .i64 x.Im)], 2, fun _ => rfl, by decide⟩
structure riddleref16_Point where
  Re : Int
  Im : Int
def e_riddleref16_Point : Enc riddleref16_Point := ⟨fun x => [.s (.int .i64 x.Re), .s (.int .i64 x.Im)], 2, fun _ => rfl, by decide⟩
structure riddlelaw16_window where
  at_ : Int
  z : (Nat × Nat)
def e_riddlelaw16_window : Enc riddlelaw16_window := ⟨fun x => [.s (.int .i64 x.at_), .s (.complex .f64 x.z.1 x.z.2)], 2, fun _ => rfl, by decide⟩
structure S46 where
  at_ : Int
  z : (Nat × Nat)
def e_S46 : Enc S46 := ⟨fun x => [.s (.int .i64 x.at_), .s (.complex .f64 x.z.1 x.z.2)], 2, fun _ => rfl, by decide⟩
abbrev i6 (x : Int) : PV := .s (.int .i64 x)
abbrev u6 (x : Int) : PV := .s (.int .u64 x)
abbrev sI (l : List Int) : PV := slV (eI .i64) l
abbrev rI (E : Nat) (l : List Int) : AE.Obj := rowV E (eI .i64) l
abbrev rW (E : Nat) (l : List Int) : AE.Obj := rowV E (eI .u64) l
abbrev bo (x : Bool) : PV := .s (.bool x)
abbrev sW (l : List Int) : PV := slV (eI .u64) l
abbrev sC (l : List (Arr4 Int)) : PV := slV (e4 (eI .u64)) l
abbrev L0 : Log := ⟨[], false⟩
abbrev vV2 (x : riddleref16_Point) : List AV := [.p (i6 (x.Re)), .p (i6 (x.Im))]
abbrev pP2 (x : riddleref16_Point) : PV := .agg [i6 (x.Re), i6 (x.Im)]
def riddlelaw16_small (a0 : Int) : Option (Bool) :=
  some ((decide (a0 ≤ 1048576)))
theorem riddlelaw16_small_ok {a0 : Int} {r : Bool} (h : riddlelaw16_small a0 = some r) : Ans Try.prog 8 [i6 (a0)] (bo (r)) := by
  refine W_fn Try.func8 rfl (by kernel_rfl) (by kernel_rfl) ?_
  intro X hro hn
  unfold riddlelaw16_small at h
  refine WC.rg hn [] [0] [] ⟨[(0, .p (i6 (a0)))], [], L0, []⟩ trivial ?_
  refine WC.rg hn [] [2] [] ⟨[(2, .p (bo (((decide (a0 ≤ 1048576))))))], [], L0, []⟩ trivial ?_
  refine WX.ret ?_
  exact WC.outP (by rw [← Option.some.inj h]; kernel_rfl)
def spin_Turn (a0 : (Nat × Nat)) (a1 : Int) : Option ((Nat × Nat)) :=
  (if ((bits .and .i64 a1 3) == 1) = true then some (((fneg a0.2), a0.1)) else (if ((bits .and .i64 a1 3) == 2) = true then some (((fneg a0.1), (fneg a0.2))) else (if ((bits .and .i64 a1 3) == 3) = true then some ((a0.2, (fneg a0.1))) else some a0)))
theorem spin_Turn_ok {a0 : (Nat × Nat)} {a1 : Int} {r : (Nat × Nat)} (h : spin_Turn a0 a1 = some r) : Ans Try.prog 13 [.s (.complex .f64 a0.1 a0.2), i6 (a1)] (.s (.complex .f64 r.1 r.2)) := by
  refine W_fn Try.func13 rfl (by kernel_rfl) (by kernel_rfl) ?_
  intro X hro hn
  unfold spin_Turn at h
  refine WC.rg hn [] [0, 1] [] ⟨[(0, .p (.s (.complex .f64 a0.1 a0.2))), (1, .p (i6 (a1)))], [], L0, []⟩ trivial ?_
  refine WC.rg hn [] [0, 1, 5, 6] [] ⟨[(0, .p (.s (.complex .f64 a0.1 a0.2))), (1, .p (i6 (a1))), (5, .p (.s (.float .f64 a0.1))), (6, .p (.s (.float .f64 a0.2)))], [], L0, []⟩ trivial ?_
  refine WX.seq ?_
  refine WC.rg hn [] [0, 5, 6, 12] [] ⟨[(0, .p (.s (.complex .f64 a0.1 a0.2))), (5, .p (.s (.float .f64 a0.1))), (6, .p (.s (.float .f64 a0.2))), (12, .p (i6 (((bits .and .i64 a1 3)))))], [], L0, []⟩ trivial ?_
  refine WX.block ?_
  refine WC.rg hn [] [0, 5, 6, 12, 13] [] ⟨[(0, .p (.s (.complex .f64 a0.1 a0.2))), (5, .p (.s (.float .f64 a0.1))), (6, .p (.s (.float .f64 a0.2))), (12, .p (i6 (((bits .and .i64 a1 3))))), (13, .p (bo ((((bits .and .i64 a1 3) == 1)))))], [], L0, []⟩ trivial ?_
  rcases if_or h with ⟨c5, h⟩ | ⟨c5, h⟩
  · refine WC.condT c5 (by kernel_rfl) ?_
    refine WC.rg hn [] [4] [] ⟨[(4, .p (.s (.complex .f64 ((fneg a0.2)) a0.1)))], [], L0, []⟩ trivial ?_
    refine WX.ret ?_
    exact WC.outP (by rw [← Option.some.inj h]; kernel_rfl)
  · refine WC.condF c5 (by kernel_rfl) ?_
    refine WC.rg hn [] [0, 5, 6, 12, 19] [] ⟨[(0, .p (.s (.complex .f64 a0.1 a0.2))), (5, .p (.s (.float .f64 a0.1))), (6, .p (.s (.float .f64 a0.2))), (12, .p (i6 (((bits .and .i64 a1 3))))), (19, .p (bo ((((bits .and .i64 a1 3) == 2)))))], [], L0, []⟩ trivial ?_
    rcases if_or h with ⟨c8, h⟩ | ⟨c8, h⟩
    · refine WC.condT c8 (by kernel_rfl) ?_
      refine WC.rg hn [] [4] [] ⟨[(4, .p (.s (.complex .f64 ((fneg a0.1)) ((fneg a0.2)))))], [], L0, []⟩ trivial ?_
      refine WX.ret ?_
      exact WC.outP (by rw [← Option.some.inj h]; kernel_rfl)
    · refine WC.condF c8 (by kernel_rfl) ?_
      refine WC.rg hn [] [0, 5, 6, 26] [] ⟨[(0, .p (.s (.complex .f64 a0.1 a0.2))), (5, .p (.s (.float .f64 a0.1))), (6, .p (.s (.float .f64 a0.2))), (26, .p (bo ((((bits .and .i64 a1 3) == 3)))))], [], L0, []⟩ trivial ?_
      rcases if_or h with ⟨c11, h⟩ | ⟨c11, h⟩
      · refine WC.condT c11 (by kernel_rfl) ?_
        refine WC.rg hn [] [4] [] ⟨[(4, .p (.s (.complex .f64 a0.2 ((fneg a0.1)))))], [], L0, []⟩ trivial ?_
        refine WX.ret ?_
        exact WC.outP (by rw [← Option.some.inj h]; kernel_rfl)
      · refine WC.condF c11 (by kernel_rfl) ?_
        refine WX.skip ?_
        refine WX.popBlk ?_
        refine WC.rg hn [] [4] [] ⟨[(4, .p (.s (.complex .f64 a0.1 a0.2)))], [], L0, []⟩ trivial ?_
        refine WX.ret ?_
        exact WC.outP (by rw [← Option.some.inj h]; kernel_rfl)
def spin_Gauss (a0 : Int) : Option ((Nat × Nat)) :=
  some (((i2f ((IntKind.u8.wrap (a0.tdiv 16)))), (i2f ((a0.tmod 16)))))
theorem spin_Gauss_ok {a0 : Int} {r : (Nat × Nat)} (h : spin_Gauss a0 = some r) : Ans Try.prog 10 [.s (.int .u8 a0)] (.s (.complex .f64 r.1 r.2)) := by
  refine W_fn Try.func10 rfl (by kernel_rfl) (by kernel_rfl) ?_
  intro X hro hn
  unfold spin_Gauss at h
  refine WC.rg hn [] [0] [] ⟨[(0, .p (.s (.int .u8 a0)))], [], L0, []⟩ trivial ?_
  refine WC.rg hn [] [2] [] ⟨[(2, .p (.s (.complex .f64 ((i2f ((IntKind.u8.wrap (a0.tdiv 16))))) ((i2f ((a0.tmod 16)))))))], [], L0, []⟩ trivial ?_
  refine WX.ret ?_
  exact WC.outP (by rw [← Option.some.inj h]; kernel_rfl)
def spin_turned (a0 : (List Int)) : Option (((List Int))) :=
  some a0
theorem spin_turned_ok {a0 : (List Int)} {r : ((List Int))} (h : spin_turned a0 = some r) : Ans Try.prog 26 [slV (eI .u8) a0] (.fn 32 [.rop ([slV (eI .u8) r])]) := by
  refine W_fn Try.func26 rfl (by kernel_rfl) (by kernel_rfl) ?_
  intro X hro hn
  unfold spin_turned at h
  refine WC.rg hn [] [1] [1] ⟨[(1, .ptr 1 0)], [(1, .box 22 [.p (slV (eI .u8) a0)])], L0, []⟩ trivial ?_
  refine WC.rg hn [] [2] [1] ⟨[(2, .fn 32 [.ptr 1 0])], [(1, .box 22 [.p (slV (eI .u8) a0)])], L0, []⟩ trivial ?_
  refine WX.ret ?_
  exact WC.outP (by rw [← Option.some.inj h]; kernel_rfl)
def spin_turned_1_v1_l0 (a1 : (List Int)) : Nat → Int → Option (List (Int × (Nat × Nat)))
  | 0, _ => none
  | k + 1, x2_1_1 => (if (decide (x2_1_1 < (a1.length : Int))) = true then (at_ a1 x2_1_1).bind fun t15_2 => (spin_Gauss t15_2).bind fun t16_2 => (spin_turned_1_v1_l0 a1 k ((IntKind.i64.wrap (x2_1_1 + 1)))).map ((x2_1_1, t16_2) :: ·) else some [])
def spin_turned_1_v1 (k : Nat) (a1 : (List Int)) : Option (List (Int × (Nat × Nat))) :=
  spin_turned_1_v1_l0 a1 k 0
theorem spin_turned_1_v1_it {k : Nat} {a1 : (List Int)} {r : List (Int × (Nat × Nat))} (h : spin_turned_1_v1 k a1 = some r) : Iter Try.prog 32 [.rop ([slV (eI .u8) a1])] (r.map (fun x : Int × (Nat × Nat) => ([.int .i64 x.1, .complex .f64 x.2.1 x.2.2] : List Value))) := by
  refine W_it Try.func32 rfl (by kernel_rfl) (Nat.le_of_ble_eq_true (by kernel_rfl)) ?_
  intro X hro hn hY
  obtain ⟨L, hLe⟩ : ∃ L, L = r.map (fun x : Int × (Nat × Nat) => ([.int .i64 x.1, .complex .f64 x.2.1 x.2.2] : List Value)) := ⟨_, rfl⟩
  rw [← hLe] at hY ⊢
  have hL : ([] : List (List Value)) ++ r.map (fun x : Int × (Nat × Nat) => ([.int .i64 x.1, .complex .f64 x.2.1 x.2.2] : List Value)) = L := by rw [hLe]; rfl
  clear hLe
  unfold spin_turned_1_v1 at h
  refine WC.rg hn [] [0, 5, 6, 7] [] ⟨[(0, .yield), (5, .p (slV (eI .u8) a1)), (6, .p (i6 (((a1.length : Int))))), (7, .p (i6 (0)))], [], ⟨([] : List (List Value)), false⟩, []⟩ trivial ?_
  refine WX.block ?_
  refine WC.loop (V := Int × List (List Value)) (fun k v2 => (spin_turned_1_v1_l0 a1 k v2.1).map fun r => v2.2 ++ r.map (fun x : Int × (Nat × Nat) => ([.int .i64 x.1, .complex .f64 x.2.1 x.2.2] : List Value))) L (fun v2 => ⟨[(0, .yield), (5, .p (slV (eI .u8) a1)), (6, .p (i6 (((a1.length : Int))))), (7, .p (i6 (v2.1)))], [], ⟨v2.2, false⟩, []⟩) _ (0, ([] : List (List Value))) (by rw [h]; exact congrArg some hL) (fun _ => rfl) [0, 5, 6, 7] [] (by kernel_rfl) ?_
  clear h hL; rintro k ⟨x2_1_1, x2_1_2⟩ h K2 hnext2 hexit2
  obtain ⟨r, h, hL⟩ := mapO_some h
  dsimp only at h hL
  rw [spin_turned_1_v1_l0] at h
  refine WC.rg hn [] [0, 5, 6, 7, 8] [] ⟨[(0, .yield), (5, .p (slV (eI .u8) a1)), (6, .p (i6 (((a1.length : Int))))), (7, .p (i6 (x2_1_1))), (8, .p (bo (((decide (x2_1_1 < (a1.length : Int)))))))], [], ⟨x2_1_2, false⟩, []⟩ trivial ?_
  refine WX.seq ?_
  rcases if_or h with ⟨c14, h⟩ | ⟨c14, h⟩
  · refine WC.condT c14 (by kernel_rfl) ?_
    refine WX.skip ?_
    refine WX.seq ?_
    refine WX.block ?_
    refine WX.seq ?_
    obtain ⟨t15_2, h15_1, h⟩ := bind_some h
    refine WC.r1 hn [(1, .val (.p (.rop ((eI .u8).cells t15_2 ++ encL (eI .u8) (a1.drop (x2_1_1.toNat + 1))))))] [0, 3, 4, 5, 6, 7] [] ⟨[(0, .yield), (3, .p (i6 (x2_1_1))), (4, .p (.s (.int .u8 t15_2))), (5, .p (slV (eI .u8) a1)), (6, .p (i6 (((a1.length : Int))))), (7, .p (i6 (x2_1_1)))], [], ⟨x2_1_2, false⟩, []⟩ (And.intro (Ix (eI .u8) h15_1) (trivial)) ?_
    refine WX.seq ?_
    obtain ⟨t16_2, h16_1, h⟩ := bind_some h
    obtain ⟨r16, hh16, hr16⟩ := mapO_some h
    subst hr16
    replace h := hh16
    refine WC.yld hn hY 4 [(3, .resP (.s (.complex .f64 t16_2.1 t16_2.2)))] [0, 5, 6, 7, 17] [] (⟨[(0, .yield), (5, .p (slV (eI .u8) a1)), (6, .p (i6 (((a1.length : Int))))), (7, .p (i6 (x2_1_1))), (17, .p (bo (false)))], [], ⟨(x2_1_2 ++ [[.int .i64 x2_1_1, .complex .f64 t16_2.1 t16_2.2]]), false⟩, []⟩) (⟨[(0, .yield), (5, .p (slV (eI .u8) a1)), (6, .p (i6 (((a1.length : Int))))), (7, .p (i6 (x2_1_1))), (17, .p (bo (true)))], [], ⟨(x2_1_2 ++ [[.int .i64 x2_1_1, .complex .f64 t16_2.1 t16_2.2]]), true⟩, []⟩) x2_1_2 [.int .i64 x2_1_1, .complex .f64 t16_2.1 t16_2.2] (And.intro (And.intro ((spin_Gauss_ok h16_1)) (True.intro)) (And.intro True.intro True.intro)) (by kernel_rfl) (pre_ok (val := (fun x : Int × (Nat × Nat) => ([.int .i64 x.1, .complex .f64 x.2.1 x.2.2] : List Value))) (x := (x2_1_1, t16_2)) (l := r16) hL) ?_ ?_
    · replace hL : (x2_1_2 ++ [[.int .i64 x2_1_1, .complex .f64 t16_2.1 t16_2.2]]) ++ r16.map (fun x : Int × (Nat × Nat) => ([.int .i64 x.1, .complex .f64 x.2.1 x.2.2] : List Value)) = L := by rw [← hL]; simp
      refine WC.condF rfl (by kernel_rfl) ?_
      refine WX.skip ?_
      refine WX.popBlk ?_
      refine WC.r1 hn [] [0, 5, 6, 7] [] ⟨[(0, .yield), (5, .p (slV (eI .u8) a1)), (6, .p (i6 (((a1.length : Int))))), (7, .p (i6 (((IntKind.i64.wrap (x2_1_1 + 1))))))], [], ⟨(x2_1_2 ++ [[.int .i64 x2_1_1, .complex .f64 t16_2.1 t16_2.2]]), false⟩, []⟩ trivial ?_
      exact WC.next [0, 5, 6, 7] [] (by kernel_rfl) (hnext2 ((IntKind.i64.wrap (x2_1_1 + 1)), (x2_1_2 ++ [[.int .i64 x2_1_1, .complex .f64 t16_2.1 t16_2.2]])) (by rw [h]; exact congrArg some hL))
    · refine WC.condT rfl (by kernel_rfl) ?_
      refine WX.ret ?_
      refine WC.ret_all (hexit2 _ _ (by simp) ?_)
      exact WC.ret_all ⟨by kernel_rfl, fun h => by cases h⟩
  · refine WC.condF c14 (by kernel_rfl) ?_
    refine WX.exit ?_
    refine WX.popCodeExit ?_
    refine WC.exit_nil (hexit2 _ _ (by simp) ?_)
    refine WX.popBlkHit ?_
    obtain rfl := Option.some.inj h
    exact WC.exit_nil ⟨by kernel_rfl, fun _ => by simpa using hL⟩
def spin_Of_l0 (k : Nat) : List (Int × (Nat × Nat)) → (Nat × Nat) → Option ((Nat × Nat))
  | [], x4_1_1 => some x4_1_1
  | x4 :: xs4, x4_1_1 => (spin_Turn x4.2 x4.1).bind fun t16_2 => (cadd x4_1_1.1 x4_1_1.2 t16_2.1 t16_2.2).bind fun t16_4 => spin_Of_l0 k xs4 t16_4
def spin_Of (k : Nat) (a0 : (List Int)) : Option ((Nat × Nat)) :=
  (spin_turned a0).bind fun t3_2 => (spin_turned_1_v1 k t3_2).bind fun l4 => spin_Of_l0 k l4 ((0, 0))
theorem spin_Of_ok {k : Nat} {a0 : (List Int)} {r : (Nat × Nat)} (h : spin_Of k a0 = some r) : Ans Try.prog 15 [slV (eI .u8) a0] (.s (.complex .f64 r.1 r.2)) := by
  refine W_fn Try.func15 rfl (by kernel_rfl) (by kernel_rfl) ?_
  intro X hro hn
  unfold spin_Of at h
  refine WC.rg hn [] [0] [] ⟨[(0, .p (slV (eI .u8) a0))], [], L0, []⟩ trivial ?_
  refine WC.rg hn [] [0, 3] [3] ⟨[(0, .p (slV (eI .u8) a0)), (3, .ptr 3 0)], [(3, .box 27 [.p (.s (.complex .f64 0 0))])], L0, []⟩ trivial ?_
  refine WX.seq ?_
  refine WX.seq ?_
  obtain ⟨t3_2, h3_1, h⟩ := bind_some h
  refine WC.r1 hn [(1, .resP (.fn 32 [.rop ([slV (eI .u8) t3_2])]))] [3, 7] [3] ⟨[(3, .ptr 3 0), (7, .p (.fn 32 [.rop ([slV (eI .u8) t3_2])]))], [(3, .box 27 [.p (.s (.complex .f64 0 0))])], L0, []⟩ (And.intro ((spin_turned_ok h3_1)) (trivial)) ?_
  refine WX.block ?_
  obtain ⟨l4, hI4, h⟩ := bind_some h
  refine WC.range (V := (Nat × Nat)) hn (spin_Of_l0 k) r (fun v4 => ⟨[(3, .ptr 3 0), (7, .p (.fn 32 [.rop ([slV (eI .u8) t3_2])]))], [(3, .box 27 [.p (.s (.complex .f64 v4.1 v4.2))])], L0, []⟩) (fun x4 v4 => ⟨[(3, .ptr 3 0), (4, .p (i6 (x4.1))), (5, .p (.s (.complex .f64 x4.2.1 x4.2.2))), (7, .p (.fn 32 [.rop ([slV (eI .u8) t3_2])])), (8, .p (i6 (x4.1))), (9, .p (.s (.complex .f64 x4.2.1 x4.2.2)))], [(3, .box 27 [.p (.s (.complex .f64 v4.1 v4.2))])], ⟨[], false⟩, [[(3, .ptr 3 0), (7, .p (.fn 32 [.rop ([slV (eI .u8) t3_2])]))]]⟩) (fun x : Int × (Nat × Nat) => ([.int .i64 x.1, .complex .f64 x.2.1 x.2.2] : List Value)) l4 ((0, 0)) h [3, 7] [3] (by kernel_rfl) (fun v4 => .p (.fn 32 [.rop ([slV (eI .u8) t3_2])])) (fun v4 => by kernel_rfl) (by kernel_rfl) (spin_turned_1_v1_it hI4) (by kernel_rfl) (fun v4 => by kernel_rfl) (fun x => ⟨rfl, rfl⟩) ?_ ?_ ?_
  · clear h; rintro x4_1_1 h
    rw [spin_Of_l0] at h
    refine WX.popBlk ?_
    refine WC.rg hn [] [2] [] ⟨[(2, .p (.s (.complex .f64 x4_1_1.1 x4_1_1.2)))], [], L0, []⟩ trivial ?_
    refine WX.ret ?_
    exact WC.outP (by rw [← Option.some.inj h]; kernel_rfl)
  · clear h; intro X hn x4; rintro x4_1_1
    refine WC.rg hn [] [3, 4, 7, 8, 9] [3] ⟨[(3, .ptr 3 0), (4, .p (i6 (x4.1))), (7, .p (.fn 32 [.rop ([slV (eI .u8) t3_2])])), (8, .p (i6 (x4.1))), (9, .p (.s (.complex .f64 x4.2.1 x4.2.2)))], [(3, .box 27 [.p (.s (.complex .f64 x4_1_1.1 x4_1_1.2))])], ⟨[], false⟩, [[(3, .ptr 3 0), (7, .p (.fn 32 [.rop ([slV (eI .u8) t3_2])]))]]⟩ trivial ?_
    refine WC.r1 hn [] [3, 4, 5, 7, 8, 9] [3] ⟨[(3, .ptr 3 0), (4, .p (i6 (x4.1))), (5, .p (.s (.complex .f64 x4.2.1 x4.2.2))), (7, .p (.fn 32 [.rop ([slV (eI .u8) t3_2])])), (8, .p (i6 (x4.1))), (9, .p (.s (.complex .f64 x4.2.1 x4.2.2)))], [(3, .box 27 [.p (.s (.complex .f64 x4_1_1.1 x4_1_1.2))])], ⟨[], false⟩, [[(3, .ptr 3 0), (7, .p (.fn 32 [.rop ([slV (eI .u8) t3_2])]))]]⟩ trivial ?_
    exact WC.exit_nil ⟨rfl, rfl⟩
  · clear h; intro X hn x4 xs4; rintro x4_1_1 h K4 hnext4 hexit4
    rw [spin_Of_l0] at h
    refine WX.block ?_
    obtain ⟨t16_2, h16_1, h⟩ := bind_some h
    obtain ⟨t16_4, h16_3, h⟩ := bind_some h
    refine WC.drw hn [(5, [])] [] [(3, .resP (.s (.complex .f64 t16_2.1 t16_2.2))), (4, .val (.p (.s (.complex .f64 t16_4.1 t16_4.2))))] [] [3] ⟨[], [(3, .box 27 [.p (.s (.complex .f64 t16_4.1 t16_4.2))])], ⟨[], false⟩, [[(3, .ptr 3 0), (7, .p (.fn 32 [.rop ([slV (eI .u8) t3_2])]))]]⟩ (And.intro ((spin_Turn_ok h16_1)) (And.intro (Cadd h16_3) (trivial))) (by kernel_rfl) (by kernel_rfl) (by kernel_rfl) (by kernel_rfl) ?_
    refine WX.popBlk ?_
    refine WC.keep [] [3] (st' := ⟨[], [(3, .box 27 [.p (.s (.complex .f64 t16_4.1 t16_4.2))])], ⟨[], false⟩, [[(3, .ptr 3 0), (7, .p (.fn 32 [.rop ([slV (eI .u8) t3_2])]))]]⟩) (by kernel_rfl) ?_
    exact WC.nextR [] [3] (s := ⟨[], [(3, .box 27 [.p (.s (.complex .f64 t16_4.1 t16_4.2))])], ⟨[], false⟩, [[(3, .ptr 3 0), (7, .p (.fn 32 [.rop ([slV (eI .u8) t3_2])]))]]⟩) (by kernel_rfl) rfl (fun s hb => hnext4 t16_4 s h hb)
def spin_Roll (a0 : (Nat × Nat)) (a1 : Int) (a2 : Int) (a3 : Int) : Option ((Nat × Nat)) :=
  (spin_Gauss a2).bind fun t2_2 => (csub a0.1 a0.2 t2_2.1 t2_2.2).bind fun t2_4 => (spin_Turn t2_4 ((-1))).bind fun t2_6 => (spin_Gauss a3).bind fun t2_8 => (spin_Turn t2_8 ((IntKind.i64.wrap (a1 - 1)))).bind fun t2_10 => (cadd t2_6.1 t2_6.2 t2_10.1 t2_10.2).bind fun t2_12 => some t2_12
theorem spin_Roll_ok {a0 : (Nat × Nat)} {a1 : Int} {a2 : Int} {a3 : Int} {r : (Nat × Nat)} (h : spin_Roll a0 a1 a2 a3 = some r) : Ans Try.prog 21 [.s (.complex .f64 a0.1 a0.2), i6 (a1), .s (.int .u8 a2), .s (.int .u8 a3)] (.s (.complex .f64 r.1 r.2)) := by
  refine W_fn Try.func21 rfl (by kernel_rfl) (by kernel_rfl) ?_
  intro X hro hn
  unfold spin_Roll at h
  refine WC.rg hn [] [0, 1, 2, 3] [] ⟨[(0, .p (.s (.complex .f64 a0.1 a0.2))), (1, .p (i6 (a1))), (2, .p (.s (.int .u8 a2))), (3, .p (.s (.int .u8 a3)))], [], L0, []⟩ trivial ?_
  refine WX.seq ?_
  obtain ⟨t2_2, h2_1, h⟩ := bind_some h
  obtain ⟨t2_4, h2_3, h⟩ := bind_some h
  obtain ⟨t2_6, h2_5, h⟩ := bind_some h
  obtain ⟨t2_8, h2_7, h⟩ := bind_some h
  obtain ⟨t2_10, h2_9, h⟩ := bind_some h
  obtain ⟨t2_12, h2_11, h⟩ := bind_some h
  refine WC.r1 hn [(2, .resP (.s (.complex .f64 t2_2.1 t2_2.2))), (3, .val (.p (.s (.complex .f64 t2_4.1 t2_4.2)))), (4, .resP (.s (.complex .f64 t2_6.1 t2_6.2))), (6, .resP (.s (.complex .f64 t2_8.1 t2_8.2))), (9, .resP (.s (.complex .f64 t2_10.1 t2_10.2))), (10, .val (.p (.s (.complex .f64 t2_12.1 t2_12.2))))] [8] [] ⟨[(8, .p (.s (.complex .f64 t2_12.1 t2_12.2)))], [], L0, []⟩ (And.intro ((spin_Gauss_ok h2_1)) (And.intro (Csub h2_3) (And.intro ((spin_Turn_ok h2_5)) (And.intro ((spin_Gauss_ok h2_7)) (And.intro ((spin_Turn_ok h2_9)) (And.intro (Cadd h2_11) (trivial))))))) ?_
  refine WX.ret ?_
  exact WC.outP (by rw [← Option.some.inj h]; kernel_rfl)
def riddlelaw16_begun (k : Nat)  : Option (Bool) :=
  (spin_Of k ([18, 52])).bind fun t2_2 => ((if (ceq t2_2.1 t2_2.2 13837309855095848960 4617315517961601024) = true then (spin_Roll t2_2 2 18 86).bind fun t3_2 => some ((ceq t3_2.1 t3_2.2 13837309855095848960 4621256167635550208)) else some false) : Option (Bool)).bind fun v3 => some v3
theorem riddlelaw16_begun_ok {k : Nat}  {r : Bool} (h : riddlelaw16_begun k = some r) : Ans Try.prog 9 [] (bo (r)) := by
  refine W_fn Try.func9 rfl (by kernel_rfl) (by kernel_rfl) ?_
  intro X hro hn
  unfold riddlelaw16_begun at h
  refine WC.rg hn [] [] [] ⟨[], [], L0, []⟩ trivial ?_
  refine WX.seq ?_
  obtain ⟨t2_2, h2_1, h⟩ := bind_some h
  refine WC.r1 hn [(1, .res (.s (.complex .f64 t2_2.1 t2_2.2)))] [1] [] ⟨[(1, .p (.s (.complex .f64 t2_2.1 t2_2.2)))], [], L0, []⟩ (And.intro (And.intro (spin_Of_ok h2_1) (rfl : (.s (.complex .f64 t2_2.1 t2_2.2) : PV).flat = true)) (trivial)) ?_
  refine WX.seq ?_
  obtain ⟨m3_1, g3, h⟩ := bind_some h
  refine WC.via (α := Bool) (fun v3 => ⟨[(0, .p (bo (v3)))], [], L0, []⟩) m3_1 (fun hk => ?_) ?_
  · rcases if_or g3 with ⟨b3_2, g3⟩ | ⟨b3_2, g3⟩
    · obtain ⟨t3_2, h3_1, g3⟩ := bind_some g3
      exact WC.reg hn [(2, .val (.p (bo (true)))), (4, .resP (.s (.complex .f64 t3_2.1 t3_2.2)))] [0] [] ⟨[(0, .p (bo (((ceq t3_2.1 t3_2.2 13837309855095848960 4621256167635550208)))))], [], L0, []⟩ (And.intro (Bl b3_2) (And.intro ((spin_Roll_ok h3_1)) (trivial))) (by kernel_rfl) (hk ((ceq t3_2.1 t3_2.2 13837309855095848960 4621256167635550208)) (Option.some.inj g3))
    · exact WC.reg hn [(2, .val (.p (bo (false))))] [0] [] ⟨[(0, .p (bo (false)))], [], L0, []⟩ (And.intro (Bl b3_2) (trivial)) (by kernel_rfl) (hk false (Option.some.inj g3))
  refine WX.ret ?_
  exact WC.outP (by rw [← Option.some.inj h]; kernel_rfl)
def riddlelaw16_point (a0 : riddleref16_Point) : Option ((Nat × Nat)) :=
  some (((i2f a0.Re), (i2f a0.Im)))
theorem riddlelaw16_point_ok {a0 : riddleref16_Point} {r : (Nat × Nat)} (h : riddlelaw16_point a0 = some r) : Ans Try.prog 11 [pP2 a0] (.s (.complex .f64 r.1 r.2)) := by
  refine W_fn Try.func11 rfl (by kernel_rfl) (by kernel_rfl) ?_
  intro X hro hn
  unfold riddlelaw16_point at h
  refine WC.rg hn [] [1] [1] ⟨[(1, .ptr 1 0)], [(1, .box 25 (vV2 a0))], L0, []⟩ trivial ?_
  refine WC.rg hn [] [2] [] ⟨[(2, .p (.s (.complex .f64 ((i2f a0.Re)) ((i2f a0.Im)))))], [], L0, []⟩ trivial ?_
  refine WX.ret ?_
  exact WC.outP (by rw [← Option.some.inj h]; kernel_rfl)
def riddleref16_Gauss (a0 : Int) : Option (riddleref16_Point) :=
  some ((riddleref16_Point.mk ((IntKind.i64.wrap ((IntKind.u8.wrap (a0.tdiv 16))))) ((IntKind.i64.wrap ((a0.tmod 16))))))
theorem riddleref16_Gauss_ok {a0 : Int} {r : riddleref16_Point} (h : riddleref16_Gauss a0 = some r) : Ans Try.prog 12 [.s (.int .u8 a0)] (pP2 r) := by
  refine W_fn Try.func12 rfl (by kernel_rfl) (by kernel_rfl) ?_
  intro X hro hn
  unfold riddleref16_Gauss at h
  refine WC.rg hn [] [0, 2] [2] ⟨[(0, .p (.s (.int .u8 a0))), (2, .ptr 2 0)], [(2, .box 25 [.p (i6 (0)), .p (i6 (0))])], L0, []⟩ trivial ?_
  refine WC.rg hn [] [2] [2] ⟨[(2, .ptr 2 0)], [(2, .box 25 [.p (i6 (((IntKind.i64.wrap ((IntKind.u8.wrap (a0.tdiv 16))))))), .p (i6 (((IntKind.i64.wrap ((a0.tmod 16))))))])], L0, []⟩ trivial ?_
  refine WX.ret ?_
  exact WC.outP (by rw [← Option.some.inj h]; kernel_rfl)
def riddleref16_Turn (a0 : riddleref16_Point) (a1 : Int) : Option (riddleref16_Point) :=
  (if ((bits .and .i64 a1 3) == 1) = true then some ((riddleref16_Point.mk ((IntKind.i64.wrap (0 - a0.Im))) a0.Re)) else (if ((bits .and .i64 a1 3) == 2) = true then some ((riddleref16_Point.mk ((IntKind.i64.wrap (0 - a0.Re))) ((IntKind.i64.wrap (0 - a0.Im))))) else (if ((bits .and .i64 a1 3) == 3) = true then some ((riddleref16_Point.mk a0.Im ((IntKind.i64.wrap (0 - a0.Re))))) else some a0)))
theorem riddleref16_Turn_ok {a0 : riddleref16_Point} {a1 : Int} {r : riddleref16_Point} (h : riddleref16_Turn a0 a1 = some r) : Ans Try.prog 14 [pP2 a0, i6 (a1)] (pP2 r) := by
  refine W_fn Try.func14 rfl (by kernel_rfl) (by kernel_rfl) ?_
  intro X hro hn
  unfold riddleref16_Turn at h
  refine WC.rg hn [] [1, 2, 4] [2, 4] ⟨[(1, .p (i6 (a1))), (2, .ptr 2 0), (4, .ptr 4 0)], [(2, .box 25 (vV2 a0)), (4, .box 25 [.p (i6 (0)), .p (i6 (0))])], L0, []⟩ trivial ?_
  refine WX.seq ?_
  refine WC.rg hn [] [2, 4, 6] [2, 4] ⟨[(2, .ptr 2 0), (4, .ptr 4 0), (6, .p (i6 (((bits .and .i64 a1 3)))))], [(2, .box 25 (vV2 a0)), (4, .box 25 [.p (i6 (0)), .p (i6 (0))])], L0, []⟩ trivial ?_
  refine WX.block ?_
  refine WC.rg hn [] [2, 4, 6, 7] [2, 4] ⟨[(2, .ptr 2 0), (4, .ptr 4 0), (6, .p (i6 (((bits .and .i64 a1 3))))), (7, .p (bo ((((bits .and .i64 a1 3) == 1)))))], [(2, .box 25 (vV2 a0)), (4, .box 25 [.p (i6 (0)), .p (i6 (0))])], L0, []⟩ trivial ?_
  rcases if_or h with ⟨c4, h⟩ | ⟨c4, h⟩
  · refine WC.condT c4 (by kernel_rfl) ?_
    refine WC.rg hn [] [4] [4] ⟨[(4, .ptr 4 0)], [(4, .box 25 [.p (i6 (((IntKind.i64.wrap (0 - a0.Im))))), .p (i6 (a0.Re))])], L0, []⟩ trivial ?_
    refine WX.ret ?_
    exact WC.outP (by rw [← Option.some.inj h]; kernel_rfl)
  · refine WC.condF c4 (by kernel_rfl) ?_
    refine WC.rg hn [] [2, 4, 6, 15] [2, 4] ⟨[(2, .ptr 2 0), (4, .ptr 4 0), (6, .p (i6 (((bits .and .i64 a1 3))))), (15, .p (bo ((((bits .and .i64 a1 3) == 2)))))], [(2, .box 25 (vV2 a0)), (4, .box 25 [.p (i6 (0)), .p (i6 (0))])], L0, []⟩ trivial ?_
    rcases if_or h with ⟨c7, h⟩ | ⟨c7, h⟩
    · refine WC.condT c7 (by kernel_rfl) ?_
      refine WC.rg hn [] [4] [4] ⟨[(4, .ptr 4 0)], [(4, .box 25 [.p (i6 (((IntKind.i64.wrap (0 - a0.Re))))), .p (i6 (((IntKind.i64.wrap (0 - a0.Im)))))])], L0, []⟩ trivial ?_
      refine WX.ret ?_
      exact WC.outP (by rw [← Option.some.inj h]; kernel_rfl)
    · refine WC.condF c7 (by kernel_rfl) ?_
      refine WC.rg hn [] [2, 4, 24] [2, 4] ⟨[(2, .ptr 2 0), (4, .ptr 4 0), (24, .p (bo ((((bits .and .i64 a1 3) == 3)))))], [(2, .box 25 (vV2 a0)), (4, .box 25 [.p (i6 (0)), .p (i6 (0))])], L0, []⟩ trivial ?_
      rcases if_or h with ⟨c10, h⟩ | ⟨c10, h⟩
      · refine WC.condT c10 (by kernel_rfl) ?_
        refine WC.rg hn [] [4] [4] ⟨[(4, .ptr 4 0)], [(4, .box 25 [.p (i6 (a0.Im)), .p (i6 (((IntKind.i64.wrap (0 - a0.Re)))))])], L0, []⟩ trivial ?_
        refine WX.ret ?_
        exact WC.outP (by rw [← Option.some.inj h]; kernel_rfl)
      · refine WC.condF c10 (by kernel_rfl) ?_
        refine WX.skip ?_
        refine WX.popBlk ?_
        refine WC.rg hn [] [4] [4] ⟨[(4, .ptr 4 0)], [(4, .box 25 (vV2 a0))], L0, []⟩ trivial ?_
        refine WX.ret ?_
        exact WC.outP (by rw [← Option.some.inj h]; kernel_rfl)
def riddleref16_Plus (a0 : riddleref16_Point) (a1 : riddleref16_Point) : Option (riddleref16_Point) :=
  some ((riddleref16_Point.mk ((IntKind.i64.wrap (a0.Re + a1.Re))) ((IntKind.i64.wrap (a0.Im + a1.Im)))))
theorem riddleref16_Plus_ok {a0 : riddleref16_Point} {a1 : riddleref16_Point} {r : riddleref16_Point} (h : riddleref16_Plus a0 a1 = some r) : Ans Try.prog 27 [pP2 a0, pP2 a1] (pP2 r) := by
  refine W_fn Try.func27 rfl (by kernel_rfl) (by kernel_rfl) ?_
  intro X hro hn
  unfold riddleref16_Plus at h
  refine WC.rg hn [] [2, 3, 4] [2, 3, 4] ⟨[(2, .ptr 2 0), (3, .ptr 3 0), (4, .ptr 4 0)], [(2, .box 25 (vV2 a0)), (3, .box 25 (vV2 a1)), (4, .box 25 [.p (i6 (0)), .p (i6 (0))])], L0, []⟩ trivial ?_
  refine WC.rg hn [] [4] [4] ⟨[(4, .ptr 4 0)], [(4, .box 25 [.p (i6 (((IntKind.i64.wrap (a0.Re + a1.Re))))), .p (i6 (((IntKind.i64.wrap (a0.Im + a1.Im)))))])], L0, []⟩ trivial ?_
  refine WX.ret ?_
  exact WC.outP (by rw [← Option.some.inj h]; kernel_rfl)
def riddleref16_Of_l0 (a0 : (List Int)) (J4 : (Int × Int) → Option (riddleref16_Point)) : Nat → (Int × Int × Int) → Option (riddleref16_Point)
  | 0, _ => none
  | k + 1, (x15_1_1, x15_1_2, x15_1_3) => (if (decide (x15_1_1 < (a0.length : Int))) = true then (at_ a0 x15_1_1).bind fun t26_2 => (riddleref16_Gauss t26_2).bind fun t26_4 => (riddleref16_Turn t26_4 x15_1_1).bind fun t26_6 => (riddleref16_Plus ((riddleref16_Point.mk x15_1_2 x15_1_3)) t26_6).bind fun t26_8 => riddleref16_Of_l0 a0 J4 k ((IntKind.i64.wrap (x15_1_1 + 1)), t26_8.Re, t26_8.Im) else J4 (x15_1_2, x15_1_3))
def riddleref16_Of (k : Nat) (a0 : (List Int)) : Option (riddleref16_Point) :=
  jn (fun (v4 : Int × Int) => some ((riddleref16_Point.mk v4.1 v4.2))) fun J4 => riddleref16_Of_l0 a0 J4 k (0, 0, 0)
theorem riddleref16_Of_ok {k : Nat} {a0 : (List Int)} {r : riddleref16_Point} (h : riddleref16_Of k a0 = some r) : Ans Try.prog 16 [slV (eI .u8) a0] (pP2 r) := by
  refine W_fn Try.func16 rfl (by kernel_rfl) (by kernel_rfl) ?_
  intro X hro hn
  unfold riddleref16_Of at h
  refine WC.rg hn [] [0, 2] [2] ⟨[(0, .p (slV (eI .u8) a0)), (2, .ptr 2 0)], [(2, .box 25 [.p (i6 (0)), .p (i6 (0))])], L0, []⟩ trivial ?_
  refine WC.rg hn [] [0, 2, 3] [2, 3] ⟨[(0, .p (slV (eI .u8) a0)), (2, .ptr 2 0), (3, .ptr 3 0)], [(2, .box 25 [.p (i6 (0)), .p (i6 (0))]), (3, .box 25 [.p (i6 (0)), .p (i6 (0))])], L0, []⟩ trivial ?_
  refine WX.seq ?_
  refine WC.rg hn [] [0, 2, 3, 4] [2, 3] ⟨[(0, .p (slV (eI .u8) a0)), (2, .ptr 2 0), (3, .ptr 3 0), (4, .p (i6 (0)))], [(2, .box 25 [.p (i6 (0)), .p (i6 (0))]), (3, .box 25 [.p (i6 (0)), .p (i6 (0))])], L0, []⟩ trivial ?_
  obtain ⟨J4, eJ4, h⟩ := jn_some h
  try dsimp only at h
  refine WC.join (α := Int × Int) (fun v4 => ⟨[(2, .ptr 2 0), (3, .ptr 3 0)], [(2, .box 25 [.p (i6 (0)), .p (i6 (0))]), (3, .box 25 [.p (i6 (v4.1)), .p (i6 (v4.2))])], L0, []⟩) (fun v4 => J4 v4 = some r) ?_ (fun hJ4 => ?_)
  · rintro ⟨y4_1, y4_2⟩ h
    rw [eJ4] at h
    try dsimp only at h
    refine WC.rg hn [] [2] [2] ⟨[(2, .ptr 2 0)], [(2, .box 25 [.p (i6 (y4_1)), .p (i6 (y4_2))])], L0, []⟩ trivial ?_
    refine WX.ret ?_
    exact WC.outP (by rw [← Option.some.inj h]; kernel_rfl)
  · replace hJ4 := fun y4_1 y4_2 => hJ4 (y4_1, y4_2)
    refine WX.block ?_
    refine WC.loop (V := Int × Int × Int) (riddleref16_Of_l0 a0 J4) r (fun v15 => ⟨[(0, .p (slV (eI .u8) a0)), (2, .ptr 2 0), (3, .ptr 3 0), (4, .p (i6 (v15.1)))], [(2, .box 25 [.p (i6 (0)), .p (i6 (0))]), (3, .box 25 [.p (i6 (v15.2.1)), .p (i6 (v15.2.2))])], L0, []⟩) _ (0, 0, 0) h (fun _ => rfl) [0, 2, 3, 4] [2, 3] (by kernel_rfl) ?_
    clear h; rintro k ⟨x15_1_1, x15_1_2, x15_1_3⟩ h K15 hnext15 hexit15
    rw [riddleref16_Of_l0] at h
    refine WX.seq ?_
    refine WC.rg hn [] [0, 2, 3, 4, 8] [2, 3] ⟨[(0, .p (slV (eI .u8) a0)), (2, .ptr 2 0), (3, .ptr 3 0), (4, .p (i6 (x15_1_1))), (8, .p (bo (((decide (x15_1_1 < (a0.length : Int)))))))], [(2, .box 25 [.p (i6 (0)), .p (i6 (0))]), (3, .box 25 [.p (i6 (x15_1_2)), .p (i6 (x15_1_3))])], L0, []⟩ trivial ?_
    rcases if_or h with ⟨c25, h⟩ | ⟨c25, h⟩
    · refine WC.condT c25 (by kernel_rfl) ?_
      refine WX.skip ?_
      refine WX.seq ?_
      refine WX.block ?_
      obtain ⟨t26_2, h26_1, h⟩ := bind_some h
      obtain ⟨t26_4, h26_3, h⟩ := bind_some h
      obtain ⟨t26_6, h26_5, h⟩ := bind_some h
      obtain ⟨t26_8, h26_7, h⟩ := bind_some h
      refine WC.drw hn [(9, [])] [] [(3, .val (.p (.rop ((eI .u8).cells t26_2 ++ encL (eI .u8) (a0.drop (x15_1_1.toNat + 1)))))), (5, .resP (pP2 t26_4)), (7, .resP (pP2 t26_6)), (8, .resP (pP2 t26_8))] [0, 2, 3, 4] [2, 3] ⟨[(0, .p (slV (eI .u8) a0)), (2, .ptr 2 0), (3, .ptr 3 0), (4, .p (i6 (x15_1_1)))], [(2, .box 25 [.p (i6 (0)), .p (i6 (0))]), (3, .box 25 (vV2 t26_8))], L0, []⟩ (And.intro (Ix (eI .u8) h26_1) (And.intro ((riddleref16_Gauss_ok h26_3)) (And.intro ((riddleref16_Turn_ok h26_5)) (And.intro ((riddleref16_Plus_ok h26_7)) (trivial))))) (by kernel_rfl) (by kernel_rfl) (by kernel_rfl) (by kernel_rfl) ?_
      refine WX.popBlk ?_
      refine WC.r1 hn [] [0, 2, 3, 4] [2, 3] ⟨[(0, .p (slV (eI .u8) a0)), (2, .ptr 2 0), (3, .ptr 3 0), (4, .p (i6 (((IntKind.i64.wrap (x15_1_1 + 1))))))], [(2, .box 25 [.p (i6 (0)), .p (i6 (0))]), (3, .box 25 (vV2 t26_8))], L0, []⟩ trivial ?_
      exact WC.next [0, 2, 3, 4] [2, 3] (by kernel_rfl) (hnext15 ((IntKind.i64.wrap (x15_1_1 + 1)), t26_8.Re, t26_8.Im) h)
    · refine WC.condF c25 (by kernel_rfl) ?_
      refine WX.exit ?_
      refine WX.popCodeExit ?_
      refine WC.exit_nil (hexit15 _ _ (by simp) ?_)
      refine WX.popBlkHit ?_
      exact WC.keep [2, 3] [2, 3] (by kernel_rfl) (hJ4 x15_1_2 x15_1_3 h)
def riddlelaw16_SpinMakes (k : Nat) (a0 : Int) (a1 : Int) (a2 : Int) (a3 : Int) (a4 : (List Int)) : Option (Bool) :=
  (riddlelaw16_small ((a4.length : Int))).bind fun t2_2 => (if (!t2_2) = true then some true else (riddlelaw16_begun k).bind fun t6_2 => ((if t6_2 = true then (spin_Gauss a0).bind fun t6_4 => (riddleref16_Gauss a0).bind fun t6_6 => (riddlelaw16_point t6_6).bind fun t6_8 => (if (ceq t6_4.1 t6_4.2 t6_8.1 t6_8.2) = true then (riddlelaw16_point ((riddleref16_Point.mk ((IntKind.i64.wrap a1)) ((IntKind.i64.wrap a2))))).bind fun t6_10 => (spin_Turn t6_10 a3).bind fun t6_12 => (riddleref16_Turn ((riddleref16_Point.mk ((IntKind.i64.wrap a1)) ((IntKind.i64.wrap a2)))) a3).bind fun t6_14 => (riddlelaw16_point t6_14).bind fun t6_16 => (if (ceq t6_12.1 t6_12.2 t6_16.1 t6_16.2) = true then (spin_Of k a4).bind fun t6_18 => (riddleref16_Of k a4).bind fun t6_20 => (riddlelaw16_point t6_20).bind fun t6_22 => some ((ceq t6_18.1 t6_18.2 t6_22.1 t6_22.2)) else some false) else some false) else some false) : Option (Bool)).bind fun v6 => some v6)
theorem riddlelaw16_SpinMakes_ok {k : Nat} {a0 : Int} {a1 : Int} {a2 : Int} {a3 : Int} {a4 : (List Int)} {r : Bool} (h : riddlelaw16_SpinMakes k a0 a1 a2 a3 a4 = some r) : Ans Try.prog 3 [.s (.int .u8 a0), .s (.int .i32 a1), .s (.int .i32 a2), i6 (a3), slV (eI .u8) a4] (bo (r)) := by
  refine W_fn Try.func3 rfl (by kernel_rfl) (by kernel_rfl) ?_
  intro X hro hn
  unfold riddlelaw16_SpinMakes at h
  refine WC.rg hn [] [0, 1, 2, 3, 4] [] ⟨[(0, .p (.s (.int .u8 a0))), (1, .p (.s (.int .i32 a1))), (2, .p (.s (.int .i32 a2))), (3, .p (i6 (a3))), (4, .p (slV (eI .u8) a4))], [], L0, []⟩ trivial ?_
  refine WX.seq ?_
  refine WX.seq ?_
  obtain ⟨t2_2, h2_1, h⟩ := bind_some h
  refine WC.r1 hn [(2, .resP (bo (t2_2)))] [0, 1, 2, 3, 4, 15] [] ⟨[(0, .p (.s (.int .u8 a0))), (1, .p (.s (.int .i32 a1))), (2, .p (.s (.int .i32 a2))), (3, .p (i6 (a3))), (4, .p (slV (eI .u8) a4)), (15, .p (bo (((!t2_2)))))], [], L0, []⟩ (And.intro ((riddlelaw16_small_ok h2_1)) (trivial)) ?_
  rcases if_or h with ⟨c3, h⟩ | ⟨c3, h⟩
  · refine WC.condT c3 (by kernel_rfl) ?_
    refine WC.rg hn [] [10] [] ⟨[(10, .p (bo (true)))], [], L0, []⟩ trivial ?_
    refine WX.ret ?_
    exact WC.outP (by rw [← Option.some.inj h]; kernel_rfl)
  · refine WC.condF c3 (by kernel_rfl) ?_
    refine WX.skip ?_
    refine WC.rg hn [] [0, 3, 4, 11] [11] ⟨[(0, .p (.s (.int .u8 a0))), (3, .p (i6 (a3))), (4, .p (slV (eI .u8) a4)), (11, .ptr 11 0)], [(11, .box 25 [.p (i6 (((IntKind.i64.wrap a1)))), .p (i6 (((IntKind.i64.wrap a2))))])], L0, []⟩ trivial ?_
    refine WX.seq ?_
    obtain ⟨t6_2, h6_1, h⟩ := bind_some h
    obtain ⟨m6_1, g6, h⟩ := bind_some h
    refine WC.via (α := Bool) (fun v6 => ⟨[(10, .p (bo (v6)))], [], L0, []⟩) m6_1 (fun hk => ?_) ?_
    · rcases if_or g6 with ⟨b6_1, g6⟩ | ⟨b6_1, g6⟩
      · obtain ⟨t6_4, h6_3, g6⟩ := bind_some g6
        obtain ⟨t6_6, h6_5, g6⟩ := bind_some g6
        obtain ⟨t6_8, h6_7, g6⟩ := bind_some g6
        rcases if_or g6 with ⟨b6_9, g6⟩ | ⟨b6_9, g6⟩
        · obtain ⟨t6_10, h6_9, g6⟩ := bind_some g6
          obtain ⟨t6_12, h6_11, g6⟩ := bind_some g6
          obtain ⟨t6_14, h6_13, g6⟩ := bind_some g6
          obtain ⟨t6_16, h6_15, g6⟩ := bind_some g6
          rcases if_or g6 with ⟨b6_20, g6⟩ | ⟨b6_20, g6⟩
          · obtain ⟨t6_18, h6_17, g6⟩ := bind_some g6
            obtain ⟨t6_20, h6_19, g6⟩ := bind_some g6
            obtain ⟨t6_22, h6_21, g6⟩ := bind_some g6
            exact WC.drw hn [] [] [(0, .resP (bo (t6_2))), (1, .val (.p (bo (true)))), (3, .resP (.s (.complex .f64 t6_4.1 t6_4.2))), (5, .resP (pP2 t6_6)), (6, .resP (.s (.complex .f64 t6_8.1 t6_8.2))), (9, .val (.p (bo (true)))), (11, .resP (.s (.complex .f64 t6_10.1 t6_10.2))), (13, .resP (.s (.complex .f64 t6_12.1 t6_12.2))), (16, .resP (pP2 t6_14)), (17, .resP (.s (.complex .f64 t6_16.1 t6_16.2))), (20, .val (.p (bo (true)))), (22, .resP (.s (.complex .f64 t6_18.1 t6_18.2))), (24, .resP (pP2 t6_20)), (25, .resP (.s (.complex .f64 t6_22.1 t6_22.2)))] [10] [] ⟨[(10, .p (bo (((ceq t6_18.1 t6_18.2 t6_22.1 t6_22.2)))))], [], L0, []⟩ (And.intro ((riddlelaw16_begun_ok h6_1)) (And.intro (Bl b6_1) (And.intro ((spin_Gauss_ok h6_3)) (And.intro ((riddleref16_Gauss_ok h6_5)) (And.intro ((riddlelaw16_point_ok h6_7)) (And.intro (Bl b6_9) (And.intro ((riddlelaw16_point_ok h6_9)) (And.intro ((spin_Turn_ok h6_11)) (And.intro ((riddleref16_Turn_ok h6_13)) (And.intro ((riddlelaw16_point_ok h6_15)) (And.intro (Bl b6_20) (And.intro ((spin_Of_ok h6_17)) (And.intro ((riddleref16_Of_ok h6_19)) (And.intro ((riddlelaw16_point_ok h6_21)) (trivial))))))))))))))) (by kernel_rfl) (by kernel_rfl) (by kernel_rfl) (by kernel_rfl) (hk ((ceq t6_18.1 t6_18.2 t6_22.1 t6_22.2)) (Option.some.inj g6))
          · exact WC.drw hn [] [] [(0, .resP (bo (t6_2))), (1, .val (.p (bo (true)))), (3, .resP (.s (.complex .f64 t6_4.1 t6_4.2))), (5, .resP (pP2 t6_6)), (6, .resP (.s (.complex .f64 t6_8.1 t6_8.2))), (9, .val (.p (bo (true)))), (11, .resP (.s (.complex .f64 t6_10.1 t6_10.2))), (13, .resP (.s (.complex .f64 t6_12.1 t6_12.2))), (16, .resP (pP2 t6_14)), (17, .resP (.s (.complex .f64 t6_16.1 t6_16.2))), (20, .val (.p (bo (false))))] [10] [] ⟨[(10, .p (bo (false)))], [], L0, []⟩ (And.intro ((riddlelaw16_begun_ok h6_1)) (And.intro (Bl b6_1) (And.intro ((spin_Gauss_ok h6_3)) (And.intro ((riddleref16_Gauss_ok h6_5)) (And.intro ((riddlelaw16_point_ok h6_7)) (And.intro (Bl b6_9) (And.intro ((riddlelaw16_point_ok h6_9)) (And.intro ((spin_Turn_ok h6_11)) (And.intro ((riddleref16_Turn_ok h6_13)) (And.intro ((riddlelaw16_point_ok h6_15)) (And.intro (Bl b6_20) (trivial)))))))))))) (by kernel_rfl) (by kernel_rfl) (by kernel_rfl) (by kernel_rfl) (hk false (Option.some.inj g6))
        · exact WC.drw hn [] [] [(0, .resP (bo (t6_2))), (1, .val (.p (bo (true)))), (3, .resP (.s (.complex .f64 t6_4.1 t6_4.2))), (5, .resP (pP2 t6_6)), (6, .resP (.s (.complex .f64 t6_8.1 t6_8.2))), (9, .val (.p (bo (false))))] [10] [] ⟨[(10, .p (bo (false)))], [], L0, []⟩ (And.intro ((riddlelaw16_begun_ok h6_1)) (And.intro (Bl b6_1) (And.intro ((spin_Gauss_ok h6_3)) (And.intro ((riddleref16_Gauss_ok h6_5)) (And.intro ((riddlelaw16_point_ok h6_7)) (And.intro (Bl b6_9) (trivial))))))) (by kernel_rfl) (by kernel_rfl) (by kernel_rfl) (by kernel_rfl) (hk false (Option.some.inj g6))
      · exact WC.drw hn [] [] [(0, .resP (bo (t6_2))), (1, .val (.p (bo (false))))] [10] [] ⟨[(10, .p (bo (false)))], [], L0, []⟩ (And.intro ((riddlelaw16_begun_ok h6_1)) (And.intro (Bl b6_1) (trivial))) (by kernel_rfl) (by kernel_rfl) (by kernel_rfl) (by kernel_rfl) (hk false (Option.some.inj g6))
    refine WX.ret ?_
    exact WC.outP (by rw [← Option.some.inj h]; kernel_rfl)
def bytes_Equal (a0 : (List Int)) (a1 : (List Int)) : Option (Bool) :=
  some ((((strOf a0)).toList == ((strOf a1)).toList))
theorem bytes_Equal_ok {a0 : (List Int)} {a1 : (List Int)} {r : Bool} (h : bytes_Equal a0 a1 = some r) : Ans Try.prog 17 [slV (eI .u8) a0, slV (eI .u8) a1] (bo (r)) := by
  refine W_fn Try.func17 rfl (by kernel_rfl) (by kernel_rfl) ?_
  intro X hro hn
  unfold bytes_Equal at h
  refine WC.rg hn [] [0, 1] [] ⟨[(0, .p (slV (eI .u8) a0)), (1, .p (slV (eI .u8) a1))], [], L0, []⟩ trivial ?_
  refine WC.rg hn [(1, .val (.p (.s (.string (strOf a0))))), (3, .val (.p (.s (.string (strOf a1)))))] [4] [] ⟨[(4, .p (bo (((((strOf a0)).toList == ((strOf a1)).toList)))))], [], L0, []⟩ (And.intro (CvB a0) (And.intro (CvB a1) (trivial))) ?_
  refine WX.ret ?_
  exact WC.outP (by rw [← Option.some.inj h]; kernel_rfl)
def spin_part (a0 : Nat) : Option (Int × Bool) :=
  ((if (fgeq a0 13970166044103278592) = true then (if (!((fleq a0 4746794007244308480))) = true then some true else (f2i .i64 a0).bind fun t2_2 => some ((fne a0 ((i2f t2_2))))) else some true) : Option (Bool)).bind fun v2 => (if v2 = true then some (0, false) else (f2i .i64 a0).bind fun t5_2 => some ((bits .and .u64 ((IntKind.u64.wrap t5_2)) 4294967295), true))
theorem spin_part_ok {a0 : Nat} {r : Int × Bool} (h : spin_part a0 = some r) : Ans Try.prog 28 [.s (.float .f64 a0)] (.tup [u6 (r.1), bo (r.2)]) := by
  refine W_fn Try.func28 rfl (by kernel_rfl) (by kernel_rfl) ?_
  intro X hro hn
  unfold spin_part at h
  refine WC.rg hn [] [0] [] ⟨[(0, .p (.s (.float .f64 a0)))], [], L0, []⟩ trivial ?_
  refine WX.seq ?_
  refine WX.seq ?_
  obtain ⟨m2_1, g2, h⟩ := bind_some h
  refine WC.via (α := Bool) (fun v2 => ⟨[(0, .p (.s (.float .f64 a0))), (17, .p (bo (v2)))], [], L0, []⟩) m2_1 (fun hk => ?_) ?_
  · rcases if_or g2 with ⟨b2_2, g2⟩ | ⟨b2_2, g2⟩
    · rcases if_or g2 with ⟨b2_7, g2⟩ | ⟨b2_7, g2⟩
      · exact WC.reg hn [(2, .val (.p (bo (true)))), (7, .val (.p (bo (true))))] [0, 17] [] ⟨[(0, .p (.s (.float .f64 a0))), (17, .p (bo (true)))], [], L0, []⟩ (And.intro (Bl b2_2) (And.intro (Bl b2_7) (trivial))) (by kernel_rfl) (hk true (Option.some.inj g2))
      · obtain ⟨t2_2, h2_1, g2⟩ := bind_some g2
        exact WC.reg hn [(2, .val (.p (bo (true)))), (7, .val (.p (bo (false)))), (10, .val (.p (i6 (t2_2))))] [0, 17] [] ⟨[(0, .p (.s (.float .f64 a0))), (17, .p (bo (((fne a0 ((i2f t2_2)))))))], [], L0, []⟩ (And.intro (Bl b2_2) (And.intro (Bl b2_7) (And.intro (F2i h2_1) (trivial)))) (by kernel_rfl) (hk ((fne a0 ((i2f t2_2)))) (Option.some.inj g2))
    · exact WC.reg hn [(2, .val (.p (bo (false))))] [0, 17] [] ⟨[(0, .p (.s (.float .f64 a0))), (17, .p (bo (true)))], [], L0, []⟩ (And.intro (Bl b2_2) (trivial)) (by kernel_rfl) (hk true (Option.some.inj g2))
  rcases if_or h with ⟨c3, h⟩ | ⟨c3, h⟩
  · refine WC.condT c3 (by kernel_rfl) ?_
    refine WC.rg hn [] [2, 3] [] ⟨[(2, .p (u6 (0))), (3, .p (bo (false)))], [], L0, []⟩ trivial ?_
    refine WX.ret ?_
    exact WC.outP (by rw [← Option.some.inj h]; kernel_rfl)
  · refine WC.condF c3 (by kernel_rfl) ?_
    refine WX.skip ?_
    refine WX.seq ?_
    obtain ⟨t5_2, h5_1, h⟩ := bind_some h
    refine WC.r1 hn [(1, .val (.p (i6 (t5_2))))] [2, 3] [] ⟨[(2, .p (u6 (((bits .and .u64 ((IntKind.u64.wrap t5_2)) 4294967295))))), (3, .p (bo (true)))], [], L0, []⟩ (And.intro (F2i h5_1) (trivial)) ?_
    refine WX.ret ?_
    exact WC.outP (by rw [← Option.some.inj h]; kernel_rfl)
def spin_Word (a0 : (Nat × Nat)) : Option (Int) :=
  (spin_part a0.1).bind fun t2_2 => (spin_part a0.2).bind fun t3_2 => (if (((!t2_2.2)) || ((!t3_2.2))) = true then some 0 else some ((bits .or .u64 ((IntKind.u64.wrap (t2_2.1 * 2 ^ 32))) t3_2.1)))
theorem spin_Word_ok {a0 : (Nat × Nat)} {r : Int} (h : spin_Word a0 = some r) : Ans Try.prog 18 [.s (.complex .f64 a0.1 a0.2)] (u6 (r)) := by
  refine W_fn Try.func18 rfl (by kernel_rfl) (by kernel_rfl) ?_
  intro X hro hn
  unfold spin_Word at h
  refine WC.rg hn [] [0] [] ⟨[(0, .p (.s (.complex .f64 a0.1 a0.2)))], [], L0, []⟩ trivial ?_
  refine WX.seq ?_
  obtain ⟨t2_2, h2_1, h⟩ := bind_some h
  refine WC.r1 hn [(2, .resP (.tup [u6 (t2_2.1), bo (t2_2.2)]))] [0, 3, 4] [] ⟨[(0, .p (.s (.complex .f64 a0.1 a0.2))), (3, .p (u6 (t2_2.1))), (4, .p (bo (t2_2.2)))], [], L0, []⟩ (And.intro ((spin_part_ok h2_1)) (trivial)) ?_
  refine WX.seq ?_
  obtain ⟨t3_2, h3_1, h⟩ := bind_some h
  refine WC.r1 hn [(2, .resP (.tup [u6 (t3_2.1), bo (t3_2.2)]))] [3, 4, 5, 6] [] ⟨[(3, .p (u6 (t2_2.1))), (4, .p (bo (t2_2.2))), (5, .p (u6 (t3_2.1))), (6, .p (bo (t3_2.2)))], [], L0, []⟩ (And.intro ((spin_part_ok h3_1)) (trivial)) ?_
  refine WX.seq ?_
  refine WX.seq ?_
  refine WC.via (α := Bool) (fun v4 => ⟨[(3, .p (u6 (t2_2.1))), (5, .p (u6 (t3_2.1))), (24, .p (bo (v4)))], [], L0, []⟩) ((((!t2_2.2)) || ((!t3_2.2)))) (fun hk => ?_) ?_
  · rcases Bool.eq_false_or_eq_true ((!t2_2.2)) with b4_2 | b4_2
    · exact WC.reg hn [(2, .val (.p (bo (true))))] [3, 5, 24] [] ⟨[(3, .p (u6 (t2_2.1))), (5, .p (u6 (t3_2.1))), (24, .p (bo (true)))], [], L0, []⟩ (And.intro (Bl b4_2) (trivial)) (by kernel_rfl) (hk true (by first | (rw [b4_2]; rfl) | simp [b4_2]))
    · exact WC.reg hn [(2, .val (.p (bo (false))))] [3, 5, 24] [] ⟨[(3, .p (u6 (t2_2.1))), (5, .p (u6 (t3_2.1))), (24, .p (bo (((!t3_2.2)))))], [], L0, []⟩ (And.intro (Bl b4_2) (trivial)) (by kernel_rfl) (hk ((!t3_2.2)) (by first | (rw [b4_2]; rfl) | simp [b4_2]))
  rcases if_or h with ⟨c5, h⟩ | ⟨c5, h⟩
  · refine WC.condT c5 (by kernel_rfl) ?_
    refine WC.rg hn [] [2] [] ⟨[(2, .p (u6 (0)))], [], L0, []⟩ trivial ?_
    refine WX.ret ?_
    exact WC.outP (by rw [← Option.some.inj h]; kernel_rfl)
  · refine WC.condF c5 (by kernel_rfl) ?_
    refine WX.skip ?_
    refine WC.rg hn [] [2] [] ⟨[(2, .p (u6 (((bits .or .u64 ((IntKind.u64.wrap (t2_2.1 * 2 ^ 32))) t3_2.1)))))], [], L0, []⟩ trivial ?_
    refine WX.ret ?_
    exact WC.outP (by rw [← Option.some.inj h]; kernel_rfl)
def riddleref16_Word (a0 : riddleref16_Point) : Option (Int) :=
  some ((bits .or .u64 ((IntKind.u64.wrap ((IntKind.u64.wrap ((IntKind.u32.wrap a0.Re))) * 2 ^ 32))) ((IntKind.u64.wrap ((IntKind.u32.wrap a0.Im))))))
theorem riddleref16_Word_ok {a0 : riddleref16_Point} {r : Int} (h : riddleref16_Word a0 = some r) : Ans Try.prog 19 [pP2 a0] (u6 (r)) := by
  refine W_fn Try.func19 rfl (by kernel_rfl) (by kernel_rfl) ?_
  intro X hro hn
  unfold riddleref16_Word at h
  refine WC.rg hn [] [1] [1] ⟨[(1, .ptr 1 0)], [(1, .box 25 (vV2 a0))], L0, []⟩ trivial ?_
  refine WC.rg hn [] [2] [] ⟨[(2, .p (u6 (((bits .or .u64 ((IntKind.u64.wrap ((IntKind.u64.wrap ((IntKind.u32.wrap a0.Re))) * 2 ^ 32))) ((IntKind.u64.wrap ((IntKind.u32.wrap a0.Im)))))))))], [], L0, []⟩ trivial ?_
  refine WX.ret ?_
  exact WC.outP (by rw [← Option.some.inj h]; kernel_rfl)
def riddlelaw16_SpinApart (k : Nat) (a0 : (List Int)) (a1 : (List Int)) (a2 : Int) (a3 : Int) : Option (Bool) :=
  (riddlelaw16_begun k).bind fun t2_2 => ((if (!t2_2) = true then some true else (riddlelaw16_small ((a0.length : Int))).bind fun t2_4 => (if (!t2_4) = true then some true else (riddlelaw16_small ((a1.length : Int))).bind fun t2_6 => some ((!t2_6)))) : Option (Bool)).bind fun v2 => (if v2 = true then (riddlelaw16_begun k).bind fun t4_2 => some t4_2 else (spin_Of k a0).bind fun t5_2 => (spin_Of k a1).bind fun t5_4 => ((if (!ceq t5_2.1 t5_2.2 t5_4.1 t5_4.2) = true then (bytes_Equal a0 a1).bind fun t6_2 => (if t6_2 = true then some true else (spin_Word t5_2).bind fun t6_4 => (spin_Word t5_4).bind fun t6_6 => (if ((t6_4 == t6_6) != (ceq t5_2.1 t5_2.2 t5_4.1 t5_4.2)) = true then some true else (spin_Word t5_2).bind fun t6_8 => (riddleref16_Of k a0).bind fun t6_10 => (riddleref16_Word t6_10).bind fun t6_12 => some ((t6_8 != t6_12)))) else (spin_Word t5_2).bind fun t6_2 => (spin_Word t5_4).bind fun t6_4 => (if ((t6_2 == t6_4) != (ceq t5_2.1 t5_2.2 t5_4.1 t5_4.2)) = true then some true else (spin_Word t5_2).bind fun t6_6 => (riddleref16_Of k a0).bind fun t6_8 => (riddleref16_Word t6_8).bind fun t6_10 => some ((t6_6 != t6_10)))) : Option (Bool)).bind fun v6 => (if v6 = true then some false else (spin_Of k ([a2])).bind fun t9_2 => (spin_Of k ([a3])).bind fun t9_4 => some (((ceq t9_2.1 t9_2.2 t9_4.1 t9_4.2) == (a2 == a3)))))
theorem riddlelaw16_SpinApart_ok {k : Nat} {a0 : (List Int)} {a1 : (List Int)} {a2 : Int} {a3 : Int} {r : Bool} (h : riddlelaw16_SpinApart k a0 a1 a2 a3 = some r) : Ans Try.prog 4 [slV (eI .u8) a0, slV (eI .u8) a1, .s (.int .u8 a2), .s (.int .u8 a3)] (bo (r)) := by
  refine W_fn Try.func4 rfl (by kernel_rfl) (by kernel_rfl) ?_
  intro X hro hn
  unfold riddlelaw16_SpinApart at h
  refine WC.rg hn [] [0, 1, 2, 3] [] ⟨[(0, .p (slV (eI .u8) a0)), (1, .p (slV (eI .u8) a1)), (2, .p (.s (.int .u8 a2))), (3, .p (.s (.int .u8 a3)))], [], L0, []⟩ trivial ?_
  refine WX.seq ?_
  refine WX.seq ?_
  obtain ⟨t2_2, h2_1, h⟩ := bind_some h
  obtain ⟨m2_1, g2, h⟩ := bind_some h
  refine WC.via (α := Bool) (fun v2 => ⟨[(0, .p (slV (eI .u8) a0)), (1, .p (slV (eI .u8) a1)), (2, .p (.s (.int .u8 a2))), (3, .p (.s (.int .u8 a3))), (24, .p (bo (v2)))], [], L0, []⟩) m2_1 (fun hk => ?_) ?_
  · rcases if_or g2 with ⟨b2_2, g2⟩ | ⟨b2_2, g2⟩
    · exact WC.reg hn [(0, .resP (bo (t2_2))), (2, .val (.p (bo (true))))] [0, 1, 2, 3, 24] [] ⟨[(0, .p (slV (eI .u8) a0)), (1, .p (slV (eI .u8) a1)), (2, .p (.s (.int .u8 a2))), (3, .p (.s (.int .u8 a3))), (24, .p (bo (true)))], [], L0, []⟩ (And.intro ((riddlelaw16_begun_ok h2_1)) (And.intro (Bl b2_2) (trivial))) (by kernel_rfl) (hk true (Option.some.inj g2))
    · obtain ⟨t2_4, h2_3, g2⟩ := bind_some g2
      rcases if_or g2 with ⟨b2_8, g2⟩ | ⟨b2_8, g2⟩
      · exact WC.reg hn [(0, .resP (bo (t2_2))), (2, .val (.p (bo (false)))), (5, .resP (bo (t2_4))), (8, .val (.p (bo (true))))] [0, 1, 2, 3, 24] [] ⟨[(0, .p (slV (eI .u8) a0)), (1, .p (slV (eI .u8) a1)), (2, .p (.s (.int .u8 a2))), (3, .p (.s (.int .u8 a3))), (24, .p (bo (true)))], [], L0, []⟩ (And.intro ((riddlelaw16_begun_ok h2_1)) (And.intro (Bl b2_2) (And.intro ((riddlelaw16_small_ok h2_3)) (And.intro (Bl b2_8) (trivial))))) (by kernel_rfl) (hk true (Option.some.inj g2))
      · obtain ⟨t2_6, h2_5, g2⟩ := bind_some g2
        exact WC.reg hn [(0, .resP (bo (t2_2))), (2, .val (.p (bo (false)))), (5, .resP (bo (t2_4))), (8, .val (.p (bo (false)))), (11, .resP (bo (t2_6)))] [0, 1, 2, 3, 24] [] ⟨[(0, .p (slV (eI .u8) a0)), (1, .p (slV (eI .u8) a1)), (2, .p (.s (.int .u8 a2))), (3, .p (.s (.int .u8 a3))), (24, .p (bo (((!t2_6)))))], [], L0, []⟩ (And.intro ((riddlelaw16_begun_ok h2_1)) (And.intro (Bl b2_2) (And.intro ((riddlelaw16_small_ok h2_3)) (And.intro (Bl b2_8) (And.intro ((riddlelaw16_small_ok h2_5)) (trivial)))))) (by kernel_rfl) (hk ((!t2_6)) (Option.some.inj g2))
  rcases if_or h with ⟨c3, h⟩ | ⟨c3, h⟩
  · refine WC.condT c3 (by kernel_rfl) ?_
    refine WX.seq ?_
    obtain ⟨t4_2, h4_1, h⟩ := bind_some h
    refine WC.r1 hn [(0, .resP (bo (t4_2)))] [8] [] ⟨[(8, .p (bo (t4_2)))], [], L0, []⟩ (And.intro ((riddlelaw16_begun_ok h4_1)) (trivial)) ?_
    refine WX.ret ?_
    exact WC.outP (by rw [← Option.some.inj h]; kernel_rfl)
  · refine WC.condF c3 (by kernel_rfl) ?_
    refine WX.skip ?_
    refine WX.seq ?_
    obtain ⟨t5_2, h5_1, h⟩ := bind_some h
    obtain ⟨t5_4, h5_3, h⟩ := bind_some h
    refine WC.r1 hn [(1, .resP (.s (.complex .f64 t5_2.1 t5_2.2))), (3, .resP (.s (.complex .f64 t5_4.1 t5_4.2)))] [0, 1, 2, 3, 9, 10] [] ⟨[(0, .p (slV (eI .u8) a0)), (1, .p (slV (eI .u8) a1)), (2, .p (.s (.int .u8 a2))), (3, .p (.s (.int .u8 a3))), (9, .p (.s (.complex .f64 t5_2.1 t5_2.2))), (10, .p (.s (.complex .f64 t5_4.1 t5_4.2)))], [], L0, []⟩ (And.intro ((spin_Of_ok h5_1)) (And.intro ((spin_Of_ok h5_3)) (trivial))) ?_
    refine WX.seq ?_
    refine WX.seq ?_
    obtain ⟨m6_1, g6, h⟩ := bind_some h
    refine WC.via (α := Bool) (fun v6 => ⟨[(2, .p (.s (.int .u8 a2))), (3, .p (.s (.int .u8 a3))), (56, .p (bo (v6)))], [], L0, []⟩) m6_1 (fun hk => ?_) ?_
    · rcases if_or g6 with ⟨b6_3, g6⟩ | ⟨b6_3, g6⟩
      · obtain ⟨t6_2, h6_1, g6⟩ := bind_some g6
        rcases if_or g6 with ⟨b6_8, g6⟩ | ⟨b6_8, g6⟩
        · exact WC.reg hn [(3, .val (.p (bo (true)))), (6, .resP (bo (t6_2))), (8, .val (.p (bo (true))))] [2, 3, 56] [] ⟨[(2, .p (.s (.int .u8 a2))), (3, .p (.s (.int .u8 a3))), (56, .p (bo (true)))], [], L0, []⟩ (And.intro (Bl b6_3) (And.intro ((bytes_Equal_ok h6_1)) (And.intro (Bl b6_8) (trivial)))) (by kernel_rfl) (hk true (Option.some.inj g6))
        · obtain ⟨t6_4, h6_3, g6⟩ := bind_some g6
          obtain ⟨t6_6, h6_5, g6⟩ := bind_some g6
          rcases if_or g6 with ⟨b6_19, g6⟩ | ⟨b6_19, g6⟩
          · exact WC.reg hn [(3, .val (.p (bo (true)))), (6, .resP (bo (t6_2))), (8, .val (.p (bo (false)))), (10, .resP (u6 (t6_4))), (12, .resP (u6 (t6_6))), (19, .val (.p (bo (true))))] [2, 3, 56] [] ⟨[(2, .p (.s (.int .u8 a2))), (3, .p (.s (.int .u8 a3))), (56, .p (bo (true)))], [], L0, []⟩ (And.intro (Bl b6_3) (And.intro ((bytes_Equal_ok h6_1)) (And.intro (Bl b6_8) (And.intro ((spin_Word_ok h6_3)) (And.intro ((spin_Word_ok h6_5)) (And.intro (Bl b6_19) (trivial))))))) (by kernel_rfl) (hk true (Option.some.inj g6))
          · obtain ⟨t6_8, h6_7, g6⟩ := bind_some g6
            obtain ⟨t6_10, h6_9, g6⟩ := bind_some g6
            obtain ⟨t6_12, h6_11, g6⟩ := bind_some g6
            exact WC.reg hn [(3, .val (.p (bo (true)))), (6, .resP (bo (t6_2))), (8, .val (.p (bo (false)))), (10, .resP (u6 (t6_4))), (12, .resP (u6 (t6_6))), (19, .val (.p (bo (false)))), (21, .resP (u6 (t6_8))), (23, .resP (pP2 t6_10)), (24, .resP (u6 (t6_12)))] [2, 3, 56] [] ⟨[(2, .p (.s (.int .u8 a2))), (3, .p (.s (.int .u8 a3))), (56, .p (bo (((t6_8 != t6_12)))))], [], L0, []⟩ (And.intro (Bl b6_3) (And.intro ((bytes_Equal_ok h6_1)) (And.intro (Bl b6_8) (And.intro ((spin_Word_ok h6_3)) (And.intro ((spin_Word_ok h6_5)) (And.intro (Bl b6_19) (And.intro ((spin_Word_ok h6_7)) (And.intro ((riddleref16_Of_ok h6_9)) (And.intro ((riddleref16_Word_ok h6_11)) (trivial)))))))))) (by kernel_rfl) (hk ((t6_8 != t6_12)) (Option.some.inj g6))
      · obtain ⟨t6_2, h6_1, g6⟩ := bind_some g6
        obtain ⟨t6_4, h6_3, g6⟩ := bind_some g6
        rcases if_or g6 with ⟨b6_19, g6⟩ | ⟨b6_19, g6⟩
        · exact WC.reg hn [(3, .val (.p (bo (false)))), (10, .resP (u6 (t6_2))), (12, .resP (u6 (t6_4))), (19, .val (.p (bo (true))))] [2, 3, 56] [] ⟨[(2, .p (.s (.int .u8 a2))), (3, .p (.s (.int .u8 a3))), (56, .p (bo (true)))], [], L0, []⟩ (And.intro (Bl b6_3) (And.intro ((spin_Word_ok h6_1)) (And.intro ((spin_Word_ok h6_3)) (And.intro (Bl b6_19) (trivial))))) (by kernel_rfl) (hk true (Option.some.inj g6))
        · obtain ⟨t6_6, h6_5, g6⟩ := bind_some g6
          obtain ⟨t6_8, h6_7, g6⟩ := bind_some g6
          obtain ⟨t6_10, h6_9, g6⟩ := bind_some g6
          exact WC.reg hn [(3, .val (.p (bo (false)))), (10, .resP (u6 (t6_2))), (12, .resP (u6 (t6_4))), (19, .val (.p (bo (false)))), (21, .resP (u6 (t6_6))), (23, .resP (pP2 t6_8)), (24, .resP (u6 (t6_10)))] [2, 3, 56] [] ⟨[(2, .p (.s (.int .u8 a2))), (3, .p (.s (.int .u8 a3))), (56, .p (bo (((t6_6 != t6_10)))))], [], L0, []⟩ (And.intro (Bl b6_3) (And.intro ((spin_Word_ok h6_1)) (And.intro ((spin_Word_ok h6_3)) (And.intro (Bl b6_19) (And.intro ((spin_Word_ok h6_5)) (And.intro ((riddleref16_Of_ok h6_7)) (And.intro ((riddleref16_Word_ok h6_9)) (trivial)))))))) (by kernel_rfl) (hk ((t6_6 != t6_10)) (Option.some.inj g6))
    rcases if_or h with ⟨c7, h⟩ | ⟨c7, h⟩
    · refine WC.condT c7 (by kernel_rfl) ?_
      refine WC.rg hn [] [8] [] ⟨[(8, .p (bo (false)))], [], L0, []⟩ trivial ?_
      refine WX.ret ?_
      exact WC.outP (by rw [← Option.some.inj h]; kernel_rfl)
    · refine WC.condF c7 (by kernel_rfl) ?_
      refine WX.skip ?_
      refine WX.seq ?_
      obtain ⟨t9_2, h9_1, h⟩ := bind_some h
      obtain ⟨t9_4, h9_3, h⟩ := bind_some h
      refine WC.r1 hn [(2, .res (.s (.complex .f64 t9_2.1 t9_2.2))), (5, .res (.s (.complex .f64 t9_4.1 t9_4.2)))] [8] [] ⟨[(8, .p (bo ((((ceq t9_2.1 t9_2.2 t9_4.1 t9_4.2) == (a2 == a3))))))], [], L0, []⟩ (And.intro (And.intro (spin_Of_ok h9_1) (rfl : (.s (.complex .f64 t9_2.1 t9_2.2) : PV).flat = true)) (And.intro (And.intro (spin_Of_ok h9_3) (rfl : (.s (.complex .f64 t9_4.1 t9_4.2) : PV).flat = true)) (trivial))) ?_
      refine WX.ret ?_
      exact WC.outP (by rw [← Option.some.inj h]; kernel_rfl)
def slices_Grow_byte_byte_v1 (a0 : Unit) (a1 : Int) : Option ((List Int)) :=
  jn (fun (v3 : Unit) => (if (decide ((IntKind.i64.wrap (a1 - 0)) > 0)) = true then (if okZ 1 ((IntKind.i64.wrap (a1 - 0))) then (if (0 : Int) ≤ 0 ∧ (0 : Int) ≤ 0 ∧ (0 : Int) ≤ ((List.replicate ((IntKind.i64.wrap (a1 - 0))).toNat (0 : Int)).length : Nat) then some (sub_ (List.replicate ((IntKind.i64.wrap (a1 - 0))).toNat (0 : Int)) 0 0) else none) else none) else some (([] : List Int)))) fun J3 => (if (decide (a1 < 0)) = true then none else J3 ())
theorem slices_Grow_byte_byte_v1_ok {a0 : Unit} {a1 : Int} {r : (List Int)} (h : slices_Grow_byte_byte_v1 a0 a1 = some r) : AnsO Try.prog 29 [] [.p (.sl .nil 0 []), .p (i6 (a1))] [(0, rowV 5 (eI .u8) r)] (.own 0) := by
  refine W_fnO [0] Try.func29 rfl (by kernel_rfl) (by kernel_rfl) (by kernel_rfl) (by kernel_rfl) ?_
  intro X hro hn
  unfold slices_Grow_byte_byte_v1 at h
  refine WC.rg hn [] [0, 1] [] ⟨[(0, .p (.sl .nil 0 [])), (1, .p (i6 (a1)))], [], L0, []⟩ trivial ?_
  refine WX.seq ?_
  refine WC.rg hn [] [0, 1, 6] [] ⟨[(0, .p (.sl .nil 0 [])), (1, .p (i6 (a1))), (6, .p (bo (((decide (a1 < 0))))))], [], L0, []⟩ trivial ?_
  obtain ⟨J3, eJ3, h⟩ := jn_some h
  try dsimp only at h
  refine WC.join (α := Unit) (fun v3 => ⟨[(0, .p (.sl .nil 0 [])), (1, .p (i6 (a1)))], [], L0, []⟩) (fun v3 => J3 v3 = some r) ?_ (fun hJ3 => ?_)
  · rintro _ h
    rw [eJ3] at h
    try dsimp only at h
    refine WX.seq ?_
    refine WC.rg hn [] [0, 1] [] ⟨[(0, .p (.sl .nil 0 [])), (1, .p (i6 (((IntKind.i64.wrap (a1 - 0))))))], [], L0, []⟩ trivial ?_
    refine WC.rg hn [] [0, 1, 16] [] ⟨[(0, .p (.sl .nil 0 [])), (1, .p (i6 (((IntKind.i64.wrap (a1 - 0)))))), (16, .p (bo (((decide ((IntKind.i64.wrap (a1 - 0)) > 0))))))], [], L0, []⟩ trivial ?_
    rcases if_or h with ⟨c7, h⟩ | ⟨c7, h⟩
    · refine WC.condT c7 (by kernel_rfl) ?_
      obtain ⟨c8_1, h⟩ := if_some h
      obtain ⟨c8_2, h⟩ := if_some h
      refine WC.r1 hn [(5, .app none (rowV 5 (eI .u8) (List.replicate ((IntKind.i64.wrap (a1 - 0))).toNat (0 : Int)))), (8, .val (.sub 22 ((0 : Int).toNat * 1) ((0 : Int) - (0 : Int)).toNat))] [0] [22] ⟨[(0, .sub 22 0 ((0 : Int) - 0).toNat)], [(22, rowV 5 (eI .u8) (List.replicate ((IntKind.i64.wrap (a1 - 0))).toNat (0 : Int)))], L0, []⟩ (And.intro (ApZ (eI .u8) [.int .u8 0] (0 : Int) 5 1 ((IntKind.i64.wrap (a1 - 0))) rfl rfl c8_1) (And.intro (SlO (eI .u8) 22 (List.replicate ((IntKind.i64.wrap (a1 - 0))).toNat (0 : Int)) 0 0 c8_2) (trivial))) ?_
      refine WC.short (eI .u8) 0 22 5 (List.replicate ((IntKind.i64.wrap (a1 - 0))).toNat (0 : Int)) 0 c8_2 hn (by kernel_rfl) (by kernel_rfl) (by kernel_rfl) (⟨[(0, .own 0)], [(0, rowV 5 (eI .u8) (sub_ (List.replicate ((IntKind.i64.wrap (a1 - 0))).toNat (0 : Int)) 0 0))], L0, []⟩) (by kernel_rfl) ?_
      refine WC.rg hn [] [4] [0] ⟨[(4, .own 0)], [(0, rowV 5 (eI .u8) (sub_ (List.replicate ((IntKind.i64.wrap (a1 - 0))).toNat (0 : Int)) 0 0))], L0, []⟩ trivial ?_
      refine WX.ret ?_
      exact WC.outO (by rw [← Option.some.inj h]; kernel_rfl)
    · refine WC.condF c7 (by kernel_rfl) ?_
      refine WX.skip ?_
      refine WC.rg hn [] [4] [] ⟨[(4, .p (.sl .nil 0 []))], [], L0, []⟩ trivial ?_
      refine WX.ret ?_
      refine WC.nil hn [4] none 0 5 1 (by kernel_rfl) [4] [0] (st' := ⟨[(4, .own 0)], [(0, rowV 5 (eI .u8) (([] : List Int)))], L0, []⟩) (by kernel_rfl) ?_
      exact WC.outO (by rw [← Option.some.inj h]; kernel_rfl)
  · skip
    rcases if_or h with ⟨c11, h⟩ | ⟨c11, h⟩
    · refine WC.condT c11 (by kernel_rfl) ?_
      cases h
    · refine WC.condF c11 (by kernel_rfl) ?_
      refine WX.skip ?_
      exact WC.keep [0, 1] [] (by kernel_rfl) (hJ3 () h)
theorem slices_Grow_byte_byte_v1_okP {a0 : Unit} {a1 : Int} {r : (List Int)} (h : slices_Grow_byte_byte_v1 a0 a1 = some r) : Ans Try.prog 29 [.sl .nil 0 [], i6 (a1)] (slV (eI .u8) r) := AnsO.ans (args := [.sl .nil 0 [], i6 (a1)]) (slices_Grow_byte_byte_v1_ok h) (by kernel_rfl)
def slices_Concat_byte_byte_l0 (a0 : (List (List Int))) (J22 : List Int → Option ((List Int))) : Nat → (List Int × Int) → Option ((List Int))
  | 0, _ => none
  | k + 1, (x35_1_1, x35_1_2) => (if (decide (x35_1_2 < (a0.length : Int))) = true then (at_ a0 x35_1_2).bind fun t48_2 => (if okApp 1 (x35_1_1.length + t48_2.length) then slices_Concat_byte_byte_l0 a0 J22 k (x35_1_1 ++ t48_2, (IntKind.i64.wrap (x35_1_2 + 1))) else none) else J22 x35_1_1)
def slices_Concat_byte_byte_l1 (a0 : (List (List Int))) (J4 : Int → Option ((List Int))) : Nat → (Int × Int) → Option ((List Int))
  | 0, _ => none
  | k + 1, (x51_1_1, x51_1_2) => (if (decide (x51_1_2 < (a0.length : Int))) = true then (at_ a0 x51_1_2).bind fun t68_2 => (if (decide ((IntKind.i64.wrap (x51_1_1 + (t68_2.length : Int))) < 0)) = true then none else slices_Concat_byte_byte_l1 a0 J4 k ((IntKind.i64.wrap (x51_1_1 + (t68_2.length : Int))), (IntKind.i64.wrap (x51_1_2 + 1)))) else J4 x51_1_1)
def slices_Concat_byte_byte (k : Nat) (a0 : (List (List Int))) : Option ((List Int)) :=
  jn (fun (v4 : Int) => (slices_Grow_byte_byte_v1 (()) v4).bind fun t20_2 => jn (fun (v22 : List Int) => some v22) fun J22 => slices_Concat_byte_byte_l0 a0 J22 k (t20_2, 0)) fun J4 => slices_Concat_byte_byte_l1 a0 J4 k (0, 0)
theorem slices_Concat_byte_byte_ok {k : Nat} {a0 : (List (List Int))} {r : (List Int)} (h : slices_Concat_byte_byte k a0 = some r) : AnsO Try.prog 20 [] [.p (slV (eSl (eI .u8)) a0)] [(24, rowV 5 (eI .u8) r)] (.own 24) := by
  refine W_fnO [24] Try.func20 rfl (by kernel_rfl) (by kernel_rfl) (by kernel_rfl) (by kernel_rfl) ?_
  intro X hro hn
  unfold slices_Concat_byte_byte at h
  refine WC.rg hn [] [0] [] ⟨[(0, .p (slV (eSl (eI .u8)) a0))], [], L0, []⟩ trivial ?_
  refine WC.rg hn [] [0, 3] [] ⟨[(0, .p (slV (eSl (eI .u8)) a0)), (3, .p (i6 (0)))], [], L0, []⟩ trivial ?_
  refine WX.seq ?_
  refine WC.rg hn [] [0, 3, 9, 10, 11] [] ⟨[(0, .p (slV (eSl (eI .u8)) a0)), (3, .p (i6 (0))), (9, .p (slV (eSl (eI .u8)) a0)), (10, .p (i6 (((a0.length : Int))))), (11, .p (i6 (0)))], [], L0, []⟩ trivial ?_
  obtain ⟨J4, eJ4, h⟩ := jn_some h
  try dsimp only at h
  refine WC.join (α := Int) (fun v4 => ⟨[(0, .p (slV (eSl (eI .u8)) a0)), (3, .p (i6 (v4)))], [], L0, []⟩) (fun v4 => J4 v4 = some r) ?_ (fun hJ4 => ?_)
  · rintro y4_1 h
    rw [eJ4] at h
    try dsimp only at h
    refine WX.seq ?_
    obtain ⟨t20_2, h20_1, h⟩ := bind_some h
    refine WC.r1 hn [(1, .co [0] [] [] [(24, rowV 5 (eI .u8) t20_2)] (.own 24))] [0, 6] [24] ⟨[(0, .p (slV (eSl (eI .u8)) a0)), (6, .own 24)], [(24, rowV 5 (eI .u8) t20_2)], L0, []⟩ (And.intro (And.intro ((slices_Grow_byte_byte_v1_ok h20_1).ren 0 24 (by kernel_rfl)) (trivial)) (trivial)) ?_
    refine WX.seq ?_
    refine WC.rg hn [] [6, 25, 26, 27] [24] ⟨[(6, .own 24), (25, .p (slV (eSl (eI .u8)) a0)), (26, .p (i6 (((a0.length : Int))))), (27, .p (i6 (0)))], [(24, rowV 5 (eI .u8) t20_2)], L0, []⟩ trivial ?_
    obtain ⟨J22, eJ22, h⟩ := jn_some h
    try dsimp only at h
    refine WC.join (α := List Int) (fun v22 => ⟨[(6, .own 24)], [(24, rowV 5 (eI .u8) v22)], L0, []⟩) (fun v22 => J22 v22 = some r) ?_ (fun hJ22 => ?_)
    · rintro y22_1 h
      rw [eJ22] at h
      try dsimp only at h
      refine WC.rg hn [] [2] [24] ⟨[(2, .own 24)], [(24, rowV 5 (eI .u8) y22_1)], L0, []⟩ trivial ?_
      refine WX.ret ?_
      exact WC.outO (by rw [← Option.some.inj h]; kernel_rfl)
    · replace hJ22 := fun y22_1 => hJ22 y22_1
      refine WX.block ?_
      refine WC.loop (V := List Int × Int) (slices_Concat_byte_byte_l0 a0 J22) r (fun v35 => ⟨[(6, .own 24), (25, .p (slV (eSl (eI .u8)) a0)), (26, .p (i6 (((a0.length : Int))))), (27, .p (i6 (v35.2)))], [(24, rowV 5 (eI .u8) v35.1)], L0, []⟩) _ (t20_2, 0) h (fun _ => rfl) [6, 25, 26, 27] [24] (by kernel_rfl) ?_
      clear h; rintro k ⟨x35_1_1, x35_1_2⟩ h K35 hnext35 hexit35
      rw [slices_Concat_byte_byte_l0] at h
      refine WC.rg hn [] [6, 25, 26, 27, 28] [24] ⟨[(6, .own 24), (25, .p (slV (eSl (eI .u8)) a0)), (26, .p (i6 (((a0.length : Int))))), (27, .p (i6 (x35_1_2))), (28, .p (bo (((decide (x35_1_2 < (a0.length : Int)))))))], [(24, rowV 5 (eI .u8) x35_1_1)], L0, []⟩ trivial ?_
      refine WX.seq ?_
      rcases if_or h with ⟨c47, h⟩ | ⟨c47, h⟩
      · refine WC.condT c47 (by kernel_rfl) ?_
        refine WX.skip ?_
        refine WX.seq ?_
        refine WX.block ?_
        refine WX.seq ?_
        obtain ⟨t48_2, h48_1, h⟩ := bind_some h
        refine WC.r1 hn [(0, .val (.p (.rop ((eSl (eI .u8)).cells t48_2 ++ encL (eSl (eI .u8)) (a0.drop (x35_1_2.toNat + 1))))))] [6, 8, 25, 26, 27] [24] ⟨[(6, .own 24), (8, .p (slV (eI .u8) t48_2)), (25, .p (slV (eSl (eI .u8)) a0)), (26, .p (i6 (((a0.length : Int))))), (27, .p (i6 (x35_1_2)))], [(24, rowV 5 (eI .u8) x35_1_1)], L0, []⟩ (And.intro (Ix (eSl (eI .u8)) h48_1) (trivial)) ?_
        obtain ⟨c49_1, h⟩ := if_some h
        refine WC.r1 hn [(2, .app (some 24) (rowV 5 (eI .u8) (x35_1_1 ++ t48_2)))] [6, 25, 26, 27] [33] ⟨[(6, .own 33), (25, .p (slV (eSl (eI .u8)) a0)), (26, .p (i6 (((a0.length : Int))))), (27, .p (i6 (x35_1_2)))], [(33, rowV 5 (eI .u8) (x35_1_1 ++ t48_2))], L0, []⟩ (And.intro (ApS (eI .u8) (some 24) 5 1 x35_1_1 t48_2 c49_1) (trivial)) ?_
        refine WX.popBlk ?_
        refine WC.r1 hn [] [6, 25, 26, 27] [33] ⟨[(6, .own 33), (25, .p (slV (eSl (eI .u8)) a0)), (26, .p (i6 (((a0.length : Int))))), (27, .p (i6 (((IntKind.i64.wrap (x35_1_2 + 1))))))], [(33, rowV 5 (eI .u8) (x35_1_1 ++ t48_2))], L0, []⟩ trivial ?_
        refine WC.ren hn 33 24 (by kernel_rfl) [6, 25, 26, 27] [24] (st' := ⟨[(6, .own 24), (25, .p (slV (eSl (eI .u8)) a0)), (26, .p (i6 (((a0.length : Int))))), (27, .p (i6 (((IntKind.i64.wrap (x35_1_2 + 1))))))], [(24, rowV 5 (eI .u8) (x35_1_1 ++ t48_2))], L0, []⟩) (by kernel_rfl) ?_
        exact WC.next [6, 25, 26, 27] [24] (by kernel_rfl) (hnext35 (x35_1_1 ++ t48_2, (IntKind.i64.wrap (x35_1_2 + 1))) h)
      · refine WC.condF c47 (by kernel_rfl) ?_
        refine WX.exit ?_
        refine WX.popCodeExit ?_
        refine WC.exit_nil (hexit35 _ _ (by simp) ?_)
        refine WX.popBlkHit ?_
        exact WC.keep [6] [24] (by kernel_rfl) (hJ22 x35_1_1 h)
  · replace hJ4 := fun y4_1 => hJ4 y4_1
    refine WX.block ?_
    refine WC.loop (V := Int × Int) (slices_Concat_byte_byte_l1 a0 J4) r (fun v51 => ⟨[(0, .p (slV (eSl (eI .u8)) a0)), (3, .p (i6 (v51.1))), (9, .p (slV (eSl (eI .u8)) a0)), (10, .p (i6 (((a0.length : Int))))), (11, .p (i6 (v51.2)))], [], L0, []⟩) _ (0, 0) h (fun _ => rfl) [0, 3, 9, 10, 11] [] (by kernel_rfl) ?_
    clear h; rintro k ⟨x51_1_1, x51_1_2⟩ h K51 hnext51 hexit51
    rw [slices_Concat_byte_byte_l1] at h
    refine WC.rg hn [] [0, 3, 9, 10, 11, 12] [] ⟨[(0, .p (slV (eSl (eI .u8)) a0)), (3, .p (i6 (x51_1_1))), (9, .p (slV (eSl (eI .u8)) a0)), (10, .p (i6 (((a0.length : Int))))), (11, .p (i6 (x51_1_2))), (12, .p (bo (((decide (x51_1_2 < (a0.length : Int)))))))], [], L0, []⟩ trivial ?_
    refine WX.seq ?_
    rcases if_or h with ⟨c67, h⟩ | ⟨c67, h⟩
    · refine WC.condT c67 (by kernel_rfl) ?_
      refine WX.skip ?_
      refine WX.seq ?_
      refine WX.block ?_
      refine WX.seq ?_
      obtain ⟨t68_2, h68_1, h⟩ := bind_some h
      refine WC.r1 hn [(0, .val (.p (.rop ((eSl (eI .u8)).cells t68_2 ++ encL (eSl (eI .u8)) (a0.drop (x51_1_2.toNat + 1))))))] [0, 3, 5, 9, 10, 11] [] ⟨[(0, .p (slV (eSl (eI .u8)) a0)), (3, .p (i6 (x51_1_1))), (5, .p (slV (eI .u8) t68_2)), (9, .p (slV (eSl (eI .u8)) a0)), (10, .p (i6 (((a0.length : Int))))), (11, .p (i6 (x51_1_2)))], [], L0, []⟩ (And.intro (Ix (eSl (eI .u8)) h68_1) (trivial)) ?_
      refine WC.rg hn [] [0, 3, 9, 10, 11] [] ⟨[(0, .p (slV (eSl (eI .u8)) a0)), (3, .p (i6 (((IntKind.i64.wrap (x51_1_1 + (t68_2.length : Int))))))), (9, .p (slV (eSl (eI .u8)) a0)), (10, .p (i6 (((a0.length : Int))))), (11, .p (i6 (x51_1_2)))], [], L0, []⟩ trivial ?_
      refine WC.rg hn [] [0, 3, 9, 10, 11, 20] [] ⟨[(0, .p (slV (eSl (eI .u8)) a0)), (3, .p (i6 (((IntKind.i64.wrap (x51_1_1 + (t68_2.length : Int))))))), (9, .p (slV (eSl (eI .u8)) a0)), (10, .p (i6 (((a0.length : Int))))), (11, .p (i6 (x51_1_2))), (20, .p (bo (((decide ((IntKind.i64.wrap (x51_1_1 + (t68_2.length : Int))) < 0))))))], [], L0, []⟩ trivial ?_
      rcases if_or h with ⟨c71, h⟩ | ⟨c71, h⟩
      · refine WC.condT c71 (by kernel_rfl) ?_
        cases h
      · refine WC.condF c71 (by kernel_rfl) ?_
        refine WX.skip ?_
        refine WX.popBlk ?_
        refine WC.r1 hn [] [0, 3, 9, 10, 11] [] ⟨[(0, .p (slV (eSl (eI .u8)) a0)), (3, .p (i6 (((IntKind.i64.wrap (x51_1_1 + (t68_2.length : Int))))))), (9, .p (slV (eSl (eI .u8)) a0)), (10, .p (i6 (((a0.length : Int))))), (11, .p (i6 (((IntKind.i64.wrap (x51_1_2 + 1))))))], [], L0, []⟩ trivial ?_
        exact WC.next [0, 3, 9, 10, 11] [] (by kernel_rfl) (hnext51 ((IntKind.i64.wrap (x51_1_1 + (t68_2.length : Int))), (IntKind.i64.wrap (x51_1_2 + 1))) h)
    · refine WC.condF c67 (by kernel_rfl) ?_
      refine WX.exit ?_
      refine WX.popCodeExit ?_
      refine WC.exit_nil (hexit51 _ _ (by simp) ?_)
      refine WX.popBlkHit ?_
      exact WC.keep [0, 3] [] (by kernel_rfl) (hJ4 x51_1_1 h)
theorem slices_Concat_byte_byte_okP {k : Nat} {a0 : (List (List Int))} {r : (List Int)} (h : slices_Concat_byte_byte k a0 = some r) : Ans Try.prog 20 [slV (eSl (eI .u8)) a0] (slV (eI .u8) r) := AnsO.ans (args := [slV (eSl (eI .u8)) a0]) (slices_Concat_byte_byte_ok h) (by kernel_rfl)
def riddlelaw16_SpinRolls_l0 (a0 : (List Int)) (a1 : (List Int)) (t7_2 : (List Int)) (J9 : Unit → Option (Bool)) : Nat → ((Nat × Nat) × Int) → Option (Bool)
  | 0, _ => none
  | k + 1, (x32_1_1, x32_1_2) => (if (decide (x32_1_2 < (a1.length : Int))) = true then (at_ a1 x32_1_2).bind fun t55_2 => (at_ t7_2 x32_1_2).bind fun t56_2 => (spin_Roll x32_1_1 ((a0.length : Int)) t56_2 t55_2).bind fun t56_4 => (if (0 : Int) ≤ (IntKind.i64.wrap (x32_1_2 + 1)) ∧ (IntKind.i64.wrap (x32_1_2 + 1)) ≤ (IntKind.i64.wrap ((IntKind.i64.wrap (x32_1_2 + 1)) + (a0.length : Int))) ∧ (IntKind.i64.wrap ((IntKind.i64.wrap (x32_1_2 + 1)) + (a0.length : Int))) ≤ (t7_2.length : Nat) then (riddleref16_Of k (sub_ t7_2 ((IntKind.i64.wrap (x32_1_2 + 1))) ((IntKind.i64.wrap ((IntKind.i64.wrap (x32_1_2 + 1)) + (a0.length : Int)))))).bind fun t57_3 => (riddlelaw16_point t57_3).bind fun t57_5 => (if (!ceq t56_4.1 t56_4.2 t57_5.1 t57_5.2) = true then some false else (if (((decide ((a0.length : Int) > 5000))) && ((decide (x32_1_2 > 3)))) = true then J9 () else riddlelaw16_SpinRolls_l0 a0 a1 t7_2 J9 k (t56_4, (IntKind.i64.wrap (x32_1_2 + 1))))) else none) else J9 ())
def riddlelaw16_SpinRolls (k : Nat) (a0 : (List Int)) (a1 : (List Int)) : Option (Bool) :=
  (riddlelaw16_begun k).bind fun t3_2 => ((if (!t3_2) = true then some true else (if ((a0.length : Int) == 0) = true then some true else (riddlelaw16_small ((a0.length : Int))).bind fun t3_4 => (if (!t3_4) = true then some true else some ((decide ((a1.length : Int) > 2000)))))) : Option (Bool)).bind fun v3 => (if v3 = true then (riddlelaw16_begun k).bind fun t5_2 => some t5_2 else (spin_Of k a0).bind fun t6_2 => (slices_Concat_byte_byte k ([a0, a1])).bind fun t7_2 => jn (fun (v9 : Unit) => some true) fun J9 => riddlelaw16_SpinRolls_l0 a0 a1 t7_2 J9 k (t6_2, 0))
theorem riddlelaw16_SpinRolls_ok {k : Nat} {a0 : (List Int)} {a1 : (List Int)} {r : Bool} (h : riddlelaw16_SpinRolls k a0 a1 = some r) : Ans Try.prog 5 [slV (eI .u8) a0, slV (eI .u8) a1] (bo (r)) := by
  refine W_fn Try.func5 rfl (by kernel_rfl) (by kernel_rfl) ?_
  intro X hro hn
  unfold riddlelaw16_SpinRolls at h
  refine WC.rg hn [] [0, 1] [] ⟨[(0, .p (slV (eI .u8) a0)), (1, .p (slV (eI .u8) a1))], [], L0, []⟩ trivial ?_
  refine WC.rg hn [] [0, 1, 5] [] ⟨[(0, .p (slV (eI .u8) a0)), (1, .p (slV (eI .u8) a1)), (5, .p (i6 (((a0.length : Int)))))], [], L0, []⟩ trivial ?_
  refine WX.seq ?_
  refine WX.seq ?_
  obtain ⟨t3_2, h3_1, h⟩ := bind_some h
  obtain ⟨m3_1, g3, h⟩ := bind_some h
  refine WC.via (α := Bool) (fun v3 => ⟨[(0, .p (slV (eI .u8) a0)), (1, .p (slV (eI .u8) a1)), (5, .p (i6 (((a0.length : Int))))), (27, .p (bo (v3)))], [], L0, []⟩) m3_1 (fun hk => ?_) ?_
  · rcases if_or g3 with ⟨b3_2, g3⟩ | ⟨b3_2, g3⟩
    · exact WC.reg hn [(0, .resP (bo (t3_2))), (2, .val (.p (bo (true))))] [0, 1, 5, 27] [] ⟨[(0, .p (slV (eI .u8) a0)), (1, .p (slV (eI .u8) a1)), (5, .p (i6 (((a0.length : Int))))), (27, .p (bo (true)))], [], L0, []⟩ (And.intro ((riddlelaw16_begun_ok h3_1)) (And.intro (Bl b3_2) (trivial))) (by kernel_rfl) (hk true (Option.some.inj g3))
    · rcases if_or g3 with ⟨b3_6, g3⟩ | ⟨b3_6, g3⟩
      · exact WC.reg hn [(0, .resP (bo (t3_2))), (2, .val (.p (bo (false)))), (6, .val (.p (bo (true))))] [0, 1, 5, 27] [] ⟨[(0, .p (slV (eI .u8) a0)), (1, .p (slV (eI .u8) a1)), (5, .p (i6 (((a0.length : Int))))), (27, .p (bo (true)))], [], L0, []⟩ (And.intro ((riddlelaw16_begun_ok h3_1)) (And.intro (Bl b3_2) (And.intro (Bl b3_6) (trivial)))) (by kernel_rfl) (hk true (Option.some.inj g3))
      · obtain ⟨t3_4, h3_3, g3⟩ := bind_some g3
        rcases if_or g3 with ⟨b3_11, g3⟩ | ⟨b3_11, g3⟩
        · exact WC.reg hn [(0, .resP (bo (t3_2))), (2, .val (.p (bo (false)))), (6, .val (.p (bo (false)))), (8, .resP (bo (t3_4))), (11, .val (.p (bo (true))))] [0, 1, 5, 27] [] ⟨[(0, .p (slV (eI .u8) a0)), (1, .p (slV (eI .u8) a1)), (5, .p (i6 (((a0.length : Int))))), (27, .p (bo (true)))], [], L0, []⟩ (And.intro ((riddlelaw16_begun_ok h3_1)) (And.intro (Bl b3_2) (And.intro (Bl b3_6) (And.intro ((riddlelaw16_small_ok h3_3)) (And.intro (Bl b3_11) (trivial)))))) (by kernel_rfl) (hk true (Option.some.inj g3))
        · exact WC.reg hn [(0, .resP (bo (t3_2))), (2, .val (.p (bo (false)))), (6, .val (.p (bo (false)))), (8, .resP (bo (t3_4))), (11, .val (.p (bo (false))))] [0, 1, 5, 27] [] ⟨[(0, .p (slV (eI .u8) a0)), (1, .p (slV (eI .u8) a1)), (5, .p (i6 (((a0.length : Int))))), (27, .p (bo (((decide ((a1.length : Int) > 2000))))))], [], L0, []⟩ (And.intro ((riddlelaw16_begun_ok h3_1)) (And.intro (Bl b3_2) (And.intro (Bl b3_6) (And.intro ((riddlelaw16_small_ok h3_3)) (And.intro (Bl b3_11) (trivial)))))) (by kernel_rfl) (hk ((decide ((a1.length : Int) > 2000))) (Option.some.inj g3))
  rcases if_or h with ⟨c4, h⟩ | ⟨c4, h⟩
  · refine WC.condT c4 (by kernel_rfl) ?_
    refine WX.seq ?_
    obtain ⟨t5_2, h5_1, h⟩ := bind_some h
    refine WC.r1 hn [(0, .resP (bo (t5_2)))] [4] [] ⟨[(4, .p (bo (t5_2)))], [], L0, []⟩ (And.intro ((riddlelaw16_begun_ok h5_1)) (trivial)) ?_
    refine WX.ret ?_
    exact WC.outP (by rw [← Option.some.inj h]; kernel_rfl)
  · refine WC.condF c4 (by kernel_rfl) ?_
    refine WX.skip ?_
    refine WX.seq ?_
    obtain ⟨t6_2, h6_1, h⟩ := bind_some h
    refine WC.r1 hn [(1, .resP (.s (.complex .f64 t6_2.1 t6_2.2)))] [0, 1, 5, 6] [] ⟨[(0, .p (slV (eI .u8) a0)), (1, .p (slV (eI .u8) a1)), (5, .p (i6 (((a0.length : Int))))), (6, .p (.s (.complex .f64 t6_2.1 t6_2.2)))], [], L0, []⟩ (And.intro ((spin_Of_ok h6_1)) (trivial)) ?_
    refine WX.seq ?_
    obtain ⟨t7_2, h7_1, h⟩ := bind_some h
    refine WC.r1 hn [(3, .co [] [] [33] [(34, rowV 5 (eI .u8) t7_2)] (.own 34))] [1, 5, 6, 7] [34] ⟨[(1, .p (slV (eI .u8) a1)), (5, .p (i6 (((a0.length : Int))))), (6, .p (.s (.complex .f64 t6_2.1 t6_2.2))), (7, .own 34)], [(34, rowV 5 (eI .u8) t7_2)], L0, []⟩ (And.intro (And.intro ((slices_Concat_byte_byte_ok h7_1).ren 24 34 (by kernel_rfl)) (And.intro (rfl : (.own 34 : AV).flat = true) (And.intro (flats_encL (eI .u8) (fun _ => rfl) t7_2) (trivial)))) (trivial)) ?_
    refine WX.seq ?_
    refine WC.rg hn [] [5, 6, 7, 35, 36, 37] [34] ⟨[(5, .p (i6 (((a0.length : Int))))), (6, .p (.s (.complex .f64 t6_2.1 t6_2.2))), (7, .own 34), (35, .p (slV (eI .u8) a1)), (36, .p (i6 (((a1.length : Int))))), (37, .p (i6 (0)))], [(34, rowV 5 (eI .u8) t7_2)], L0, []⟩ trivial ?_
    obtain ⟨J9, eJ9, h⟩ := jn_some h
    try dsimp only at h
    refine WC.join (α := Unit) (fun v9 => ⟨[], [], L0, []⟩) (fun v9 => J9 v9 = some r) ?_ (fun hJ9 => ?_)
    · rintro _ h
      rw [eJ9] at h
      try dsimp only at h
      refine WC.rg hn [] [4] [] ⟨[(4, .p (bo (true)))], [], L0, []⟩ trivial ?_
      refine WX.ret ?_
      exact WC.outP (by rw [← Option.some.inj h]; kernel_rfl)
    · skip
      refine WX.block ?_
      refine WC.frz 34 (st' := ⟨[(5, .p (i6 (((a0.length : Int))))), (6, .p (.s (.complex .f64 t6_2.1 t6_2.2))), (7, .p (slV (eI .u8) t7_2)), (35, .p (slV (eI .u8) a1)), (36, .p (i6 (((a1.length : Int))))), (37, .p (i6 (0)))], [], L0, []⟩) (by kernel_rfl) ?_
      refine WC.loop (V := (Nat × Nat) × Int) (riddlelaw16_SpinRolls_l0 a0 a1 t7_2 J9) r (fun v32 => ⟨[(5, .p (i6 (((a0.length : Int))))), (6, .p (.s (.complex .f64 v32.1.1 v32.1.2))), (7, .p (slV (eI .u8) t7_2)), (35, .p (slV (eI .u8) a1)), (36, .p (i6 (((a1.length : Int))))), (37, .p (i6 (v32.2)))], [], L0, []⟩) _ (t6_2, 0) h (fun _ => rfl) [5, 6, 7, 35, 36, 37] [] (by kernel_rfl) ?_
      clear h; rintro k ⟨x32_1_1, x32_1_2⟩ h K32 hnext32 hexit32
      rw [riddlelaw16_SpinRolls_l0] at h
      refine WC.rg hn [] [5, 6, 7, 35, 36, 37, 38] [] ⟨[(5, .p (i6 (((a0.length : Int))))), (6, .p (.s (.complex .f64 x32_1_1.1 x32_1_1.2))), (7, .p (slV (eI .u8) t7_2)), (35, .p (slV (eI .u8) a1)), (36, .p (i6 (((a1.length : Int))))), (37, .p (i6 (x32_1_2))), (38, .p (bo (((decide (x32_1_2 < (a1.length : Int)))))))], [], L0, []⟩ trivial ?_
      refine WX.seq ?_
      rcases if_or h with ⟨c54, h⟩ | ⟨c54, h⟩
      · refine WC.condT c54 (by kernel_rfl) ?_
        refine WX.skip ?_
        refine WX.seq ?_
        refine WX.block ?_
        refine WX.seq ?_
        obtain ⟨t55_2, h55_1, h⟩ := bind_some h
        refine WC.r1 hn [(1, .val (.p (.rop ((eI .u8).cells t55_2 ++ encL (eI .u8) (a1.drop (x32_1_2.toNat + 1))))))] [5, 6, 7, 8, 9, 35, 36, 37] [] ⟨[(5, .p (i6 (((a0.length : Int))))), (6, .p (.s (.complex .f64 x32_1_1.1 x32_1_1.2))), (7, .p (slV (eI .u8) t7_2)), (8, .p (i6 (x32_1_2))), (9, .p (.s (.int .u8 t55_2))), (35, .p (slV (eI .u8) a1)), (36, .p (i6 (((a1.length : Int))))), (37, .p (i6 (x32_1_2)))], [], L0, []⟩ (And.intro (Ix (eI .u8) h55_1) (trivial)) ?_
        refine WX.seq ?_
        obtain ⟨t56_2, h56_1, h⟩ := bind_some h
        obtain ⟨t56_4, h56_3, h⟩ := bind_some h
        refine WC.r1 hn [(4, .val (.p (.rop ((eI .u8).cells t56_2 ++ encL (eI .u8) (t7_2.drop (x32_1_2.toNat + 1)))))), (7, .resP (.s (.complex .f64 t56_4.1 t56_4.2)))] [5, 6, 7, 8, 35, 36, 37] [] ⟨[(5, .p (i6 (((a0.length : Int))))), (6, .p (.s (.complex .f64 t56_4.1 t56_4.2))), (7, .p (slV (eI .u8) t7_2)), (8, .p (i6 (x32_1_2))), (35, .p (slV (eI .u8) a1)), (36, .p (i6 (((a1.length : Int))))), (37, .p (i6 (x32_1_2)))], [], L0, []⟩ (And.intro (Ix (eI .u8) h56_1) (And.intro ((spin_Roll_ok h56_3)) (trivial))) ?_
        refine WX.seq ?_
        refine WX.seq ?_
        obtain ⟨c57_1, h⟩ := if_some h
        obtain ⟨t57_3, h57_2, h⟩ := bind_some h
        obtain ⟨t57_5, h57_4, h⟩ := bind_some h
        refine WC.r1 hn [(8, .val (.p (slV (eI .u8) (sub_ t7_2 ((IntKind.i64.wrap (x32_1_2 + 1))) ((IntKind.i64.wrap ((IntKind.i64.wrap (x32_1_2 + 1)) + (a0.length : Int)))))))), (9, .resP (pP2 t57_3)), (10, .resP (.s (.complex .f64 t57_5.1 t57_5.2)))] [5, 6, 7, 8, 35, 36, 37, 61] [] ⟨[(5, .p (i6 (((a0.length : Int))))), (6, .p (.s (.complex .f64 t56_4.1 t56_4.2))), (7, .p (slV (eI .u8) t7_2)), (8, .p (i6 (x32_1_2))), (35, .p (slV (eI .u8) a1)), (36, .p (i6 (((a1.length : Int))))), (37, .p (i6 (x32_1_2))), (61, .p (bo (((!ceq t56_4.1 t56_4.2 t57_5.1 t57_5.2)))))], [], L0, []⟩ (And.intro (Sl (eI .u8) t7_2 ((IntKind.i64.wrap (x32_1_2 + 1))) ((IntKind.i64.wrap ((IntKind.i64.wrap (x32_1_2 + 1)) + (a0.length : Int)))) c57_1) (And.intro ((riddleref16_Of_ok h57_2)) (And.intro ((riddlelaw16_point_ok h57_4)) (trivial)))) ?_
        rcases if_or h with ⟨c58, h⟩ | ⟨c58, h⟩
        · refine WC.condT c58 (by kernel_rfl) ?_
          refine WC.rg hn [] [4] [] ⟨[(4, .p (bo (false)))], [], L0, []⟩ trivial ?_
          refine WX.ret ?_
          refine WC.ret_all (hexit32 _ _ (by simp) ?_)
          exact WC.outP (by rw [← Option.some.inj h]; kernel_rfl)
        · refine WC.condF c58 (by kernel_rfl) ?_
          refine WX.skip ?_
          refine WX.seq ?_
          refine WC.via (α := Bool) (fun v60 => ⟨[(5, .p (i6 (((a0.length : Int))))), (6, .p (.s (.complex .f64 t56_4.1 t56_4.2))), (7, .p (slV (eI .u8) t7_2)), (35, .p (slV (eI .u8) a1)), (36, .p (i6 (((a1.length : Int))))), (37, .p (i6 (x32_1_2))), (67, .p (bo (v60)))], [], L0, []⟩) ((((decide ((a0.length : Int) > 5000))) && ((decide (x32_1_2 > 3))))) (fun hk => ?_) ?_
          · rcases Bool.eq_false_or_eq_true ((decide ((a0.length : Int) > 5000))) with b60_2 | b60_2
            · exact WC.reg hn [(2, .val (.p (bo (true))))] [5, 6, 7, 35, 36, 37, 67] [] ⟨[(5, .p (i6 (((a0.length : Int))))), (6, .p (.s (.complex .f64 t56_4.1 t56_4.2))), (7, .p (slV (eI .u8) t7_2)), (35, .p (slV (eI .u8) a1)), (36, .p (i6 (((a1.length : Int))))), (37, .p (i6 (x32_1_2))), (67, .p (bo (((decide (x32_1_2 > 3))))))], [], L0, []⟩ (And.intro (Bl b60_2) (trivial)) (by kernel_rfl) (hk ((decide (x32_1_2 > 3))) (by first | (rw [b60_2]; rfl) | simp [b60_2]))
            · exact WC.reg hn [(2, .val (.p (bo (false))))] [5, 6, 7, 35, 36, 37, 67] [] ⟨[(5, .p (i6 (((a0.length : Int))))), (6, .p (.s (.complex .f64 t56_4.1 t56_4.2))), (7, .p (slV (eI .u8) t7_2)), (35, .p (slV (eI .u8) a1)), (36, .p (i6 (((a1.length : Int))))), (37, .p (i6 (x32_1_2))), (67, .p (bo (false)))], [], L0, []⟩ (And.intro (Bl b60_2) (trivial)) (by kernel_rfl) (hk false (by first | (rw [b60_2]; rfl) | simp [b60_2]))
          rcases if_or h with ⟨c61, h⟩ | ⟨c61, h⟩
          · refine WC.condT c61 (by kernel_rfl) ?_
            refine WX.exit ?_
            refine WX.popBlkPass (by decide) ?_
            refine WX.popCodeExit ?_
            refine WC.exit_nil (hexit32 _ _ (by simp) ?_)
            refine WX.popBlkHit ?_
            exact WC.keep [] [] (by kernel_rfl) (hJ9 () h)
          · refine WC.condF c61 (by kernel_rfl) ?_
            refine WX.skip ?_
            refine WX.popBlk ?_
            refine WC.r1 hn [] [5, 6, 7, 35, 36, 37] [] ⟨[(5, .p (i6 (((a0.length : Int))))), (6, .p (.s (.complex .f64 t56_4.1 t56_4.2))), (7, .p (slV (eI .u8) t7_2)), (35, .p (slV (eI .u8) a1)), (36, .p (i6 (((a1.length : Int))))), (37, .p (i6 (((IntKind.i64.wrap (x32_1_2 + 1))))))], [], L0, []⟩ trivial ?_
            exact WC.next [5, 6, 7, 35, 36, 37] [] (by kernel_rfl) (hnext32 (t56_4, (IntKind.i64.wrap (x32_1_2 + 1))) h)
      · refine WC.condF c54 (by kernel_rfl) ?_
        refine WX.exit ?_
        refine WX.popCodeExit ?_
        refine WC.exit_nil (hexit32 _ _ (by simp) ?_)
        refine WX.popBlkHit ?_
        exact WC.keep [] [] (by kernel_rfl) (hJ9 () h)
def spin_Join (a0 : (Nat × Nat)) (a1 : Int) (a2 : (Nat × Nat)) : Option ((Nat × Nat)) :=
  (spin_Turn a2 a1).bind fun t2_2 => (cadd a0.1 a0.2 t2_2.1 t2_2.2).bind fun t2_4 => some t2_4
theorem spin_Join_ok {a0 : (Nat × Nat)} {a1 : Int} {a2 : (Nat × Nat)} {r : (Nat × Nat)} (h : spin_Join a0 a1 a2 = some r) : Ans Try.prog 22 [.s (.complex .f64 a0.1 a0.2), i6 (a1), .s (.complex .f64 a2.1 a2.2)] (.s (.complex .f64 r.1 r.2)) := by
  refine W_fn Try.func22 rfl (by kernel_rfl) (by kernel_rfl) ?_
  intro X hro hn
  unfold spin_Join at h
  refine WC.rg hn [] [0, 1, 2] [] ⟨[(0, .p (.s (.complex .f64 a0.1 a0.2))), (1, .p (i6 (a1))), (2, .p (.s (.complex .f64 a2.1 a2.2)))], [], L0, []⟩ trivial ?_
  refine WX.seq ?_
  obtain ⟨t2_2, h2_1, h⟩ := bind_some h
  obtain ⟨t2_4, h2_3, h⟩ := bind_some h
  refine WC.r1 hn [(3, .resP (.s (.complex .f64 t2_2.1 t2_2.2))), (4, .val (.p (.s (.complex .f64 t2_4.1 t2_4.2))))] [6] [] ⟨[(6, .p (.s (.complex .f64 t2_4.1 t2_4.2)))], [], L0, []⟩ (And.intro ((spin_Turn_ok h2_1)) (And.intro (Cadd h2_3) (trivial))) ?_
  refine WX.ret ?_
  exact WC.outP (by rw [← Option.some.inj h]; kernel_rfl)
def riddlelaw16_SpinJoins (k : Nat) (a0 : (List Int)) (a1 : (List Int)) (a2 : (List Int)) : Option (Bool) :=
  (riddlelaw16_begun k).bind fun t2_2 => ((if (!t2_2) = true then some true else (riddlelaw16_small ((a0.length : Int))).bind fun t2_4 => (if (!t2_4) = true then some true else (riddlelaw16_small ((a1.length : Int))).bind fun t2_6 => (if (!t2_6) = true then some true else (riddlelaw16_small ((a2.length : Int))).bind fun t2_8 => (if (!t2_8) = true then some true else (riddlelaw16_small ((IntKind.i64.wrap ((IntKind.i64.wrap ((a0.length : Int) + (a1.length : Int))) + (a2.length : Int))))).bind fun t2_10 => some ((!t2_10)))))) : Option (Bool)).bind fun v2 => (if v2 = true then (riddlelaw16_begun k).bind fun t4_2 => some t4_2 else (spin_Of k a0).bind fun t5_2 => (spin_Of k a1).bind fun t5_4 => (spin_Of k a2).bind fun t5_6 => (spin_Join t5_2 ((a0.length : Int)) t5_4).bind fun t6_2 => (slices_Concat_byte_byte k ([a0, a1])).bind fun t7_2 => (riddleref16_Of k t7_2).bind fun t7_4 => (riddlelaw16_point t7_4).bind fun t7_6 => ((if (!ceq t6_2.1 t6_2.2 t7_6.1 t7_6.2) = true then some true else (if ((((a0.length : Int)).tmod 4) == 0) = true then (cadd t5_2.1 t5_2.2 t5_4.1 t5_4.2).bind fun t7_8 => some ((!ceq t6_2.1 t6_2.2 t7_8.1 t7_8.2)) else some false)) : Option (Bool)).bind fun v7 => (if v7 = true then some false else (spin_Join t6_2 ((IntKind.i64.wrap ((a0.length : Int) + (a1.length : Int)))) t5_6).bind fun t10_2 => (spin_Join t5_4 ((a1.length : Int)) t5_6).bind fun t10_4 => (spin_Join t5_2 ((a0.length : Int)) t10_4).bind fun t10_6 => some ((ceq t10_2.1 t10_2.2 t10_6.1 t10_6.2))))
theorem riddlelaw16_SpinJoins_ok {k : Nat} {a0 : (List Int)} {a1 : (List Int)} {a2 : (List Int)} {r : Bool} (h : riddlelaw16_SpinJoins k a0 a1 a2 = some r) : Ans Try.prog 6 [slV (eI .u8) a0, slV (eI .u8) a1, slV (eI .u8) a2] (bo (r)) := by
  refine W_fn Try.func6 rfl (by kernel_rfl) (by kernel_rfl) ?_
  intro X hro hn
  unfold riddlelaw16_SpinJoins at h
  refine WC.rg hn [] [0, 1, 2] [] ⟨[(0, .p (slV (eI .u8) a0)), (1, .p (slV (eI .u8) a1)), (2, .p (slV (eI .u8) a2))], [], L0, []⟩ trivial ?_
  refine WX.seq ?_
  refine WX.seq ?_
  obtain ⟨t2_2, h2_1, h⟩ := bind_some h
  obtain ⟨m2_1, g2, h⟩ := bind_some h
  refine WC.via (α := Bool) (fun v2 => ⟨[(0, .p (slV (eI .u8) a0)), (1, .p (slV (eI .u8) a1)), (2, .p (slV (eI .u8) a2)), (42, .p (bo (v2)))], [], L0, []⟩) m2_1 (fun hk => ?_) ?_
  · rcases if_or g2 with ⟨b2_2, g2⟩ | ⟨b2_2, g2⟩
    · exact WC.reg hn [(0, .resP (bo (t2_2))), (2, .val (.p (bo (true))))] [0, 1, 2, 42] [] ⟨[(0, .p (slV (eI .u8) a0)), (1, .p (slV (eI .u8) a1)), (2, .p (slV (eI .u8) a2)), (42, .p (bo (true)))], [], L0, []⟩ (And.intro ((riddlelaw16_begun_ok h2_1)) (And.intro (Bl b2_2) (trivial))) (by kernel_rfl) (hk true (Option.some.inj g2))
    · obtain ⟨t2_4, h2_3, g2⟩ := bind_some g2
      rcases if_or g2 with ⟨b2_8, g2⟩ | ⟨b2_8, g2⟩
      · exact WC.reg hn [(0, .resP (bo (t2_2))), (2, .val (.p (bo (false)))), (5, .resP (bo (t2_4))), (8, .val (.p (bo (true))))] [0, 1, 2, 42] [] ⟨[(0, .p (slV (eI .u8) a0)), (1, .p (slV (eI .u8) a1)), (2, .p (slV (eI .u8) a2)), (42, .p (bo (true)))], [], L0, []⟩ (And.intro ((riddlelaw16_begun_ok h2_1)) (And.intro (Bl b2_2) (And.intro ((riddlelaw16_small_ok h2_3)) (And.intro (Bl b2_8) (trivial))))) (by kernel_rfl) (hk true (Option.some.inj g2))
      · obtain ⟨t2_6, h2_5, g2⟩ := bind_some g2
        rcases if_or g2 with ⟨b2_14, g2⟩ | ⟨b2_14, g2⟩
        · exact WC.reg hn [(0, .resP (bo (t2_2))), (2, .val (.p (bo (false)))), (5, .resP (bo (t2_4))), (8, .val (.p (bo (false)))), (11, .resP (bo (t2_6))), (14, .val (.p (bo (true))))] [0, 1, 2, 42] [] ⟨[(0, .p (slV (eI .u8) a0)), (1, .p (slV (eI .u8) a1)), (2, .p (slV (eI .u8) a2)), (42, .p (bo (true)))], [], L0, []⟩ (And.intro ((riddlelaw16_begun_ok h2_1)) (And.intro (Bl b2_2) (And.intro ((riddlelaw16_small_ok h2_3)) (And.intro (Bl b2_8) (And.intro ((riddlelaw16_small_ok h2_5)) (And.intro (Bl b2_14) (trivial))))))) (by kernel_rfl) (hk true (Option.some.inj g2))
        · obtain ⟨t2_8, h2_7, g2⟩ := bind_some g2
          rcases if_or g2 with ⟨b2_20, g2⟩ | ⟨b2_20, g2⟩
          · exact WC.reg hn [(0, .resP (bo (t2_2))), (2, .val (.p (bo (false)))), (5, .resP (bo (t2_4))), (8, .val (.p (bo (false)))), (11, .resP (bo (t2_6))), (14, .val (.p (bo (false)))), (17, .resP (bo (t2_8))), (20, .val (.p (bo (true))))] [0, 1, 2, 42] [] ⟨[(0, .p (slV (eI .u8) a0)), (1, .p (slV (eI .u8) a1)), (2, .p (slV (eI .u8) a2)), (42, .p (bo (true)))], [], L0, []⟩ (And.intro ((riddlelaw16_begun_ok h2_1)) (And.intro (Bl b2_2) (And.intro ((riddlelaw16_small_ok h2_3)) (And.intro (Bl b2_8) (And.intro ((riddlelaw16_small_ok h2_5)) (And.intro (Bl b2_14) (And.intro ((riddlelaw16_small_ok h2_7)) (And.intro (Bl b2_20) (trivial))))))))) (by kernel_rfl) (hk true (Option.some.inj g2))
          · obtain ⟨t2_10, h2_9, g2⟩ := bind_some g2
            exact WC.reg hn [(0, .resP (bo (t2_2))), (2, .val (.p (bo (false)))), (5, .resP (bo (t2_4))), (8, .val (.p (bo (false)))), (11, .resP (bo (t2_6))), (14, .val (.p (bo (false)))), (17, .resP (bo (t2_8))), (20, .val (.p (bo (false)))), (29, .resP (bo (t2_10)))] [0, 1, 2, 42] [] ⟨[(0, .p (slV (eI .u8) a0)), (1, .p (slV (eI .u8) a1)), (2, .p (slV (eI .u8) a2)), (42, .p (bo (((!t2_10)))))], [], L0, []⟩ (And.intro ((riddlelaw16_begun_ok h2_1)) (And.intro (Bl b2_2) (And.intro ((riddlelaw16_small_ok h2_3)) (And.intro (Bl b2_8) (And.intro ((riddlelaw16_small_ok h2_5)) (And.intro (Bl b2_14) (And.intro ((riddlelaw16_small_ok h2_7)) (And.intro (Bl b2_20) (And.intro ((riddlelaw16_small_ok h2_9)) (trivial)))))))))) (by kernel_rfl) (hk ((!t2_10)) (Option.some.inj g2))
  rcases if_or h with ⟨c3, h⟩ | ⟨c3, h⟩
  · refine WC.condT c3 (by kernel_rfl) ?_
    refine WX.seq ?_
    obtain ⟨t4_2, h4_1, h⟩ := bind_some h
    refine WC.r1 hn [(0, .resP (bo (t4_2)))] [6] [] ⟨[(6, .p (bo (t4_2)))], [], L0, []⟩ (And.intro ((riddlelaw16_begun_ok h4_1)) (trivial)) ?_
    refine WX.ret ?_
    exact WC.outP (by rw [← Option.some.inj h]; kernel_rfl)
  · refine WC.condF c3 (by kernel_rfl) ?_
    refine WX.skip ?_
    refine WX.seq ?_
    obtain ⟨t5_2, h5_1, h⟩ := bind_some h
    obtain ⟨t5_4, h5_3, h⟩ := bind_some h
    obtain ⟨t5_6, h5_5, h⟩ := bind_some h
    refine WC.r1 hn [(1, .resP (.s (.complex .f64 t5_2.1 t5_2.2))), (3, .resP (.s (.complex .f64 t5_4.1 t5_4.2))), (5, .resP (.s (.complex .f64 t5_6.1 t5_6.2)))] [0, 1, 7, 8, 9] [] ⟨[(0, .p (slV (eI .u8) a0)), (1, .p (slV (eI .u8) a1)), (7, .p (.s (.complex .f64 t5_2.1 t5_2.2))), (8, .p (.s (.complex .f64 t5_4.1 t5_4.2))), (9, .p (.s (.complex .f64 t5_6.1 t5_6.2)))], [], L0, []⟩ (And.intro ((spin_Of_ok h5_1)) (And.intro ((spin_Of_ok h5_3)) (And.intro ((spin_Of_ok h5_5)) (trivial)))) ?_
    refine WX.seq ?_
    obtain ⟨t6_2, h6_1, h⟩ := bind_some h
    refine WC.r1 hn [(4, .resP (.s (.complex .f64 t6_2.1 t6_2.2)))] [0, 1, 7, 8, 9, 10] [] ⟨[(0, .p (slV (eI .u8) a0)), (1, .p (slV (eI .u8) a1)), (7, .p (.s (.complex .f64 t5_2.1 t5_2.2))), (8, .p (.s (.complex .f64 t5_4.1 t5_4.2))), (9, .p (.s (.complex .f64 t5_6.1 t5_6.2))), (10, .p (.s (.complex .f64 t6_2.1 t6_2.2)))], [], L0, []⟩ (And.intro ((spin_Join_ok h6_1)) (trivial)) ?_
    refine WX.seq ?_
    refine WX.seq ?_
    obtain ⟨t7_2, h7_1, h⟩ := bind_some h
    obtain ⟨t7_4, h7_3, h⟩ := bind_some h
    obtain ⟨t7_6, h7_5, h⟩ := bind_some h
    obtain ⟨m7_1, g7, h⟩ := bind_some h
    refine WC.via (α := Bool) (fun v7 => ⟨[(0, .p (slV (eI .u8) a0)), (1, .p (slV (eI .u8) a1)), (7, .p (.s (.complex .f64 t5_2.1 t5_2.2))), (8, .p (.s (.complex .f64 t5_4.1 t5_4.2))), (9, .p (.s (.complex .f64 t5_6.1 t5_6.2))), (10, .p (.s (.complex .f64 t6_2.1 t6_2.2))), (75, .p (bo (v7)))], [], L0, []⟩) m7_1 (fun hk => ?_) ?_
    · rcases if_or g7 with ⟨b7_8, g7⟩ | ⟨b7_8, g7⟩
      · exact WC.reg hn [(4, .co [] [] [58] [(59, rowV 5 (eI .u8) t7_2)] (.own 59)), (5, .res (pP2 t7_4)), (6, .resP (.s (.complex .f64 t7_6.1 t7_6.2))), (8, .val (.p (bo (true))))] [0, 1, 7, 8, 9, 10, 75] [] ⟨[(0, .p (slV (eI .u8) a0)), (1, .p (slV (eI .u8) a1)), (7, .p (.s (.complex .f64 t5_2.1 t5_2.2))), (8, .p (.s (.complex .f64 t5_4.1 t5_4.2))), (9, .p (.s (.complex .f64 t5_6.1 t5_6.2))), (10, .p (.s (.complex .f64 t6_2.1 t6_2.2))), (75, .p (bo (true)))], [], L0, []⟩ (And.intro (And.intro ((slices_Concat_byte_byte_ok h7_1).ren 24 59 (by kernel_rfl)) (And.intro (rfl : (.own 59 : AV).flat = true) (And.intro (flats_encL (eI .u8) (fun _ => rfl) t7_2) (trivial)))) (And.intro (And.intro (riddleref16_Of_ok h7_3) (rfl : (pP2 t7_4 : PV).flat = true)) (And.intro ((riddlelaw16_point_ok h7_5)) (And.intro (Bl b7_8) (trivial))))) (by kernel_rfl) (hk true (Option.some.inj g7))
      · rcases if_or g7 with ⟨b7_13, g7⟩ | ⟨b7_13, g7⟩
        · obtain ⟨t7_8, h7_7, g7⟩ := bind_some g7
          exact WC.reg hn [(4, .co [] [] [58] [(59, rowV 5 (eI .u8) t7_2)] (.own 59)), (5, .res (pP2 t7_4)), (6, .resP (.s (.complex .f64 t7_6.1 t7_6.2))), (8, .val (.p (bo (false)))), (13, .val (.p (bo (true)))), (17, .val (.p (.s (.complex .f64 t7_8.1 t7_8.2))))] [0, 1, 7, 8, 9, 10, 75] [] ⟨[(0, .p (slV (eI .u8) a0)), (1, .p (slV (eI .u8) a1)), (7, .p (.s (.complex .f64 t5_2.1 t5_2.2))), (8, .p (.s (.complex .f64 t5_4.1 t5_4.2))), (9, .p (.s (.complex .f64 t5_6.1 t5_6.2))), (10, .p (.s (.complex .f64 t6_2.1 t6_2.2))), (75, .p (bo (((!ceq t6_2.1 t6_2.2 t7_8.1 t7_8.2)))))], [], L0, []⟩ (And.intro (And.intro ((slices_Concat_byte_byte_ok h7_1).ren 24 59 (by kernel_rfl)) (And.intro (rfl : (.own 59 : AV).flat = true) (And.intro (flats_encL (eI .u8) (fun _ => rfl) t7_2) (trivial)))) (And.intro (And.intro (riddleref16_Of_ok h7_3) (rfl : (pP2 t7_4 : PV).flat = true)) (And.intro ((riddlelaw16_point_ok h7_5)) (And.intro (Bl b7_8) (And.intro (Bl b7_13) (And.intro (Cadd h7_7) (trivial))))))) (by kernel_rfl) (hk ((!ceq t6_2.1 t6_2.2 t7_8.1 t7_8.2)) (Option.some.inj g7))
        · exact WC.reg hn [(4, .co [] [] [58] [(59, rowV 5 (eI .u8) t7_2)] (.own 59)), (5, .res (pP2 t7_4)), (6, .resP (.s (.complex .f64 t7_6.1 t7_6.2))), (8, .val (.p (bo (false)))), (13, .val (.p (bo (false))))] [0, 1, 7, 8, 9, 10, 75] [] ⟨[(0, .p (slV (eI .u8) a0)), (1, .p (slV (eI .u8) a1)), (7, .p (.s (.complex .f64 t5_2.1 t5_2.2))), (8, .p (.s (.complex .f64 t5_4.1 t5_4.2))), (9, .p (.s (.complex .f64 t5_6.1 t5_6.2))), (10, .p (.s (.complex .f64 t6_2.1 t6_2.2))), (75, .p (bo (false)))], [], L0, []⟩ (And.intro (And.intro ((slices_Concat_byte_byte_ok h7_1).ren 24 59 (by kernel_rfl)) (And.intro (rfl : (.own 59 : AV).flat = true) (And.intro (flats_encL (eI .u8) (fun _ => rfl) t7_2) (trivial)))) (And.intro (And.intro (riddleref16_Of_ok h7_3) (rfl : (pP2 t7_4 : PV).flat = true)) (And.intro ((riddlelaw16_point_ok h7_5)) (And.intro (Bl b7_8) (And.intro (Bl b7_13) (trivial)))))) (by kernel_rfl) (hk false (Option.some.inj g7))
    rcases if_or h with ⟨c8, h⟩ | ⟨c8, h⟩
    · refine WC.condT c8 (by kernel_rfl) ?_
      refine WC.rg hn [] [6] [] ⟨[(6, .p (bo (false)))], [], L0, []⟩ trivial ?_
      refine WX.ret ?_
      exact WC.outP (by rw [← Option.some.inj h]; kernel_rfl)
    · refine WC.condF c8 (by kernel_rfl) ?_
      refine WX.skip ?_
      refine WX.seq ?_
      obtain ⟨t10_2, h10_1, h⟩ := bind_some h
      obtain ⟨t10_4, h10_3, h⟩ := bind_some h
      obtain ⟨t10_6, h10_5, h⟩ := bind_some h
      refine WC.r1 hn [(7, .resP (.s (.complex .f64 t10_2.1 t10_2.2))), (15, .resP (.s (.complex .f64 t10_4.1 t10_4.2))), (16, .resP (.s (.complex .f64 t10_6.1 t10_6.2)))] [6] [] ⟨[(6, .p (bo (((ceq t10_2.1 t10_2.2 t10_6.1 t10_6.2)))))], [], L0, []⟩ (And.intro ((spin_Join_ok h10_1)) (And.intro ((spin_Join_ok h10_3)) (And.intro ((spin_Join_ok h10_5)) (trivial)))) ?_
      refine WX.ret ?_
      exact WC.outP (by rw [← Option.some.inj h]; kernel_rfl)
def slices_Equal_riddle_riddlelaw16_window_riddle_riddlelaw16_window_l0 (a0 : (List riddlelaw16_window)) (a1 : (List riddlelaw16_window)) (J6 : Unit → Option (Bool)) : Nat → Int → Option (Bool)
  | 0, _ => none
  | k + 1, x23_1_1 => (if (decide (x23_1_1 < (a0.length : Int))) = true then (at_ a0 x23_1_1).bind fun t41_2 => (at_ a1 x23_1_1).bind fun t41_4 => (if (!((t41_2.at_ == t41_4.at_) && ((ceq t41_2.z.1 t41_2.z.2 t41_4.z.1 t41_4.z.2) && true))) = true then some false else slices_Equal_riddle_riddlelaw16_window_riddle_riddlelaw16_window_l0 a0 a1 J6 k ((IntKind.i64.wrap (x23_1_1 + 1)))) else J6 ())
def slices_Equal_riddle_riddlelaw16_window_riddle_riddlelaw16_window (k : Nat) (a0 : (List riddlelaw16_window)) (a1 : (List riddlelaw16_window)) : Option (Bool) :=
  (if ((a0.length : Int) != (a1.length : Int)) = true then some false else jn (fun (v6 : Unit) => some true) fun J6 => slices_Equal_riddle_riddlelaw16_window_riddle_riddlelaw16_window_l0 a0 a1 J6 k 0)
theorem slices_Equal_riddle_riddlelaw16_window_riddle_riddlelaw16_window_ok {k : Nat} {a0 : (List riddlelaw16_window)} {a1 : (List riddlelaw16_window)} {r : Bool} (h : slices_Equal_riddle_riddlelaw16_window_riddle_riddlelaw16_window k a0 a1 = some r) : Ans Try.prog 23 [slV e_riddlelaw16_window a0, slV e_riddlelaw16_window a1] (bo (r)) := by
  refine W_fn Try.func23 rfl (by kernel_rfl) (by kernel_rfl) ?_
  intro X hro hn
  unfold slices_Equal_riddle_riddlelaw16_window_riddle_riddlelaw16_window at h
  refine WC.rg hn [] [0, 1] [] ⟨[(0, .p (slV e_riddlelaw16_window a0)), (1, .p (slV e_riddlelaw16_window a1))], [], L0, []⟩ trivial ?_
  refine WX.seq ?_
  refine WC.rg hn [] [0, 1, 10] [] ⟨[(0, .p (slV e_riddlelaw16_window a0)), (1, .p (slV e_riddlelaw16_window a1)), (10, .p (bo ((((a0.length : Int) != (a1.length : Int))))))], [], L0, []⟩ trivial ?_
  rcases if_or h with ⟨c3, h⟩ | ⟨c3, h⟩
  · refine WC.condT c3 (by kernel_rfl) ?_
    refine WC.rg hn [] [4] [] ⟨[(4, .p (bo (false)))], [], L0, []⟩ trivial ?_
    refine WX.ret ?_
    exact WC.outP (by rw [← Option.some.inj h]; kernel_rfl)
  · refine WC.condF c3 (by kernel_rfl) ?_
    refine WX.skip ?_
    refine WX.seq ?_
    refine WC.rg hn [] [0, 1, 12, 13] [] ⟨[(0, .p (slV e_riddlelaw16_window a0)), (1, .p (slV e_riddlelaw16_window a1)), (12, .p (i6 (((a0.length : Int))))), (13, .p (i6 (0)))], [], L0, []⟩ trivial ?_
    obtain ⟨J6, eJ6, h⟩ := jn_some h
    try dsimp only at h
    refine WC.join (α := Unit) (fun v6 => ⟨[], [], L0, []⟩) (fun v6 => J6 v6 = some r) ?_ (fun hJ6 => ?_)
    · rintro _ h
      rw [eJ6] at h
      try dsimp only at h
      refine WC.rg hn [] [4] [] ⟨[(4, .p (bo (true)))], [], L0, []⟩ trivial ?_
      refine WX.ret ?_
      exact WC.outP (by rw [← Option.some.inj h]; kernel_rfl)
    · skip
      refine WX.block ?_
      refine WC.loop (V := Int) (slices_Equal_riddle_riddlelaw16_window_riddle_riddlelaw16_window_l0 a0 a1 J6) r (fun v23 => ⟨[(0, .p (slV e_riddlelaw16_window a0)), (1, .p (slV e_riddlelaw16_window a1)), (12, .p (i6 (((a0.length : Int))))), (13, .p (i6 (v23)))], [], L0, []⟩) _ 0 h (fun _ => rfl) [0, 1, 12, 13] [] (by kernel_rfl) ?_
      clear h; rintro k x23_1_1 h K23 hnext23 hexit23
      rw [slices_Equal_riddle_riddlelaw16_window_riddle_riddlelaw16_window_l0] at h
      refine WC.rg hn [] [0, 1, 12, 13, 14] [] ⟨[(0, .p (slV e_riddlelaw16_window a0)), (1, .p (slV e_riddlelaw16_window a1)), (12, .p (i6 (((a0.length : Int))))), (13, .p (i6 (x23_1_1))), (14, .p (bo (((decide (x23_1_1 < (a0.length : Int)))))))], [], L0, []⟩ trivial ?_
      refine WX.seq ?_
      rcases if_or h with ⟨c39, h⟩ | ⟨c39, h⟩
      · refine WC.condT c39 (by kernel_rfl) ?_
        refine WX.skip ?_
        refine WX.seq ?_
        refine WX.block ?_
        refine WC.rg hn [] [0, 1, 5, 12, 13] [] ⟨[(0, .p (slV e_riddlelaw16_window a0)), (1, .p (slV e_riddlelaw16_window a1)), (5, .p (i6 (x23_1_1))), (12, .p (i6 (((a0.length : Int))))), (13, .p (i6 (x23_1_1)))], [], L0, []⟩ trivial ?_
        refine WX.seq ?_
        obtain ⟨t41_2, h41_1, h⟩ := bind_some h
        obtain ⟨t41_4, h41_3, h⟩ := bind_some h
        refine WC.drw hn [] [] [(2, .val (.p (.rop (e_riddlelaw16_window.cells t41_2 ++ encL e_riddlelaw16_window (a0.drop (x23_1_1.toNat + 1)))))), (6, .val (.p (.rop (e_riddlelaw16_window.cells t41_4 ++ encL e_riddlelaw16_window (a1.drop (x23_1_1.toNat + 1))))))] [0, 1, 12, 13, 24] [] ⟨[(0, .p (slV e_riddlelaw16_window a0)), (1, .p (slV e_riddlelaw16_window a1)), (12, .p (i6 (((a0.length : Int))))), (13, .p (i6 (x23_1_1))), (24, .p (bo (((!((t41_2.at_ == t41_4.at_) && ((ceq t41_2.z.1 t41_2.z.2 t41_4.z.1 t41_4.z.2) && true)))))))], [], L0, []⟩ (And.intro (Ix e_riddlelaw16_window h41_1) (And.intro (Ix e_riddlelaw16_window h41_3) (trivial))) (by kernel_rfl) (by kernel_rfl) (by kernel_rfl) (by kernel_rfl) ?_
        rcases if_or h with ⟨c42, h⟩ | ⟨c42, h⟩
        · refine WC.condT c42 (by kernel_rfl) ?_
          refine WC.rg hn [] [4] [] ⟨[(4, .p (bo (false)))], [], L0, []⟩ trivial ?_
          refine WX.ret ?_
          refine WC.ret_all (hexit23 _ _ (by simp) ?_)
          exact WC.outP (by rw [← Option.some.inj h]; kernel_rfl)
        · refine WC.condF c42 (by kernel_rfl) ?_
          refine WX.skip ?_
          refine WX.popBlk ?_
          refine WC.r1 hn [] [0, 1, 12, 13] [] ⟨[(0, .p (slV e_riddlelaw16_window a0)), (1, .p (slV e_riddlelaw16_window a1)), (12, .p (i6 (((a0.length : Int))))), (13, .p (i6 (((IntKind.i64.wrap (x23_1_1 + 1))))))], [], L0, []⟩ trivial ?_
          exact WC.next [0, 1, 12, 13] [] (by kernel_rfl) (hnext23 ((IntKind.i64.wrap (x23_1_1 + 1))) h)
      · refine WC.condF c39 (by kernel_rfl) ?_
        refine WX.exit ?_
        refine WX.popCodeExit ?_
        refine WC.exit_nil (hexit23 _ _ (by simp) ?_)
        refine WX.popBlkHit ?_
        exact WC.keep [] [] (by kernel_rfl) (hJ6 () h)
def slices_Clone_byte_byte (a0 : (List Int)) : Option ((List Int)) :=
  (if okApp 1 (([] : List Int).length + a0.length) then some (([] : List Int) ++ a0) else none)
theorem slices_Clone_byte_byte_ok {a0 : (List Int)} {r : (List Int)} (h : slices_Clone_byte_byte a0 = some r) : AnsO Try.prog 30 [] [.p (slV (eI .u8) a0)] [(7, rowV 5 (eI .u8) r)] (.own 7) := by
  refine W_fnO [7] Try.func30 rfl (by kernel_rfl) (by kernel_rfl) (by kernel_rfl) (by kernel_rfl) ?_
  intro X hro hn
  unfold slices_Clone_byte_byte at h
  refine WC.rg hn [] [0] [] ⟨[(0, .p (slV (eI .u8) a0))], [], L0, []⟩ trivial ?_
  refine WX.seq ?_
  refine WX.seq ?_
  refine WC.nilCase (E := (eI .u8)) (l := a0) 0 (by kernel_rfl) (fun hnil => ?_) ?_
  · have h1 : (some (([] : List Int))) = some r := by rw [hnil] at h; clear hnil; simp at h ⊢; first | exact h.2 | exact h | simp_all
    replace h := h1
    refine WC.keep [0] [] (st' := ⟨[(0, .p (.sl .isnil a0.length (encL (eI .u8) a0)))], [], L0, []⟩) (by kernel_rfl) ?_
    refine WC.r1 hn [] [0, 4] [] ⟨[(0, .p (.sl .isnil a0.length (encL (eI .u8) a0))), (4, .p (bo (true)))], [], L0, []⟩ trivial ?_
    refine WC.tag [0] [] [0, 4] [] (st' := ⟨[(0, .p (slV (eI .u8) a0)), (4, .p (bo (true)))], [], L0, []⟩) (by kernel_rfl) ?_
    refine WC.condT rfl (by kernel_rfl) ?_
    refine WC.rg hn [] [2] [] ⟨[(2, .p (.sl .nil 0 []))], [], L0, []⟩ trivial ?_
    refine WX.ret ?_
    refine WC.nil hn [2] none 7 5 1 (by kernel_rfl) [2] [7] (st' := ⟨[(2, .own 7)], [(7, rowV 5 (eI .u8) (([] : List Int)))], L0, []⟩) (by kernel_rfl) ?_
    exact WC.outO (by rw [← Option.some.inj h]; kernel_rfl)
  · refine WC.keep [0] [] (st' := ⟨[(0, .p (.sl .nn a0.length (encL (eI .u8) a0)))], [], L0, []⟩) (by kernel_rfl) ?_
    refine WC.r1 hn [] [0, 4] [] ⟨[(0, .p (.sl .nn a0.length (encL (eI .u8) a0))), (4, .p (bo (false)))], [], L0, []⟩ trivial ?_
    refine WC.tag [0] [] [0, 4] [] (st' := ⟨[(0, .p (slV (eI .u8) a0)), (4, .p (bo (false)))], [], L0, []⟩) (by kernel_rfl) ?_
    refine WC.condF rfl (by kernel_rfl) ?_
    refine WX.skip ?_
    refine WX.seq ?_
    obtain ⟨c6_1, h⟩ := if_some h
    refine WC.r1 hn [(2, .app (some 5) (rowV 5 (eI .u8) (([] : List Int) ++ a0)))] [2] [7] ⟨[(2, .own 7)], [(7, rowV 5 (eI .u8) (([] : List Int) ++ a0))], L0, []⟩ (And.intro (ApS (eI .u8) (some 5) 5 1 ([] : List Int) a0 c6_1) (trivial)) ?_
    refine WX.ret ?_
    exact WC.outO (by rw [← Option.some.inj h]; kernel_rfl)
theorem slices_Clone_byte_byte_okP {a0 : (List Int)} {r : (List Int)} (h : slices_Clone_byte_byte a0 = some r) : Ans Try.prog 30 [slV (eI .u8) a0] (slV (eI .u8) r) := AnsO.ans (args := [slV (eI .u8) a0]) (slices_Clone_byte_byte_ok h) (by kernel_rfl)
def spin_All (a0 : (List Int)) (a1 : Int) : Option ((Int × (List Int))) :=
  (slices_Clone_byte_byte a0).bind fun t2_2 => some ((a1, t2_2))
theorem spin_All_ok {a0 : (List Int)} {a1 : Int} {r : (Int × (List Int))} (h : spin_All a0 a1 = some r) : Ans Try.prog 25 [slV (eI .u8) a0, i6 (a1)] (.fn 31 [.rop ([i6 (r.1)]), .rop ([slV (eI .u8) r.2])]) := by
  refine W_fn Try.func25 rfl (by kernel_rfl) (by kernel_rfl) ?_
  intro X hro hn
  unfold spin_All at h
  refine WC.rg hn [] [2, 3] [2, 3] ⟨[(2, .ptr 2 0), (3, .ptr 3 0)], [(2, .box 22 [.p (slV (eI .u8) a0)]), (3, .box 3 [.p (i6 (a1))])], L0, []⟩ trivial ?_
  refine WX.seq ?_
  obtain ⟨t2_2, h2_1, h⟩ := bind_some h
  refine WC.r1 hn [(1, .co [] [] [] [(6, rowV 5 (eI .u8) t2_2)] (.own 6))] [2, 3] [2, 3, 6] ⟨[(2, .ptr 2 0), (3, .ptr 3 0)], [(2, .box 22 [.own 6]), (3, .box 3 [.p (i6 (a1))]), (6, rowV 5 (eI .u8) t2_2)], L0, []⟩ (And.intro (And.intro ((slices_Clone_byte_byte_ok h2_1).ren 7 6 (by kernel_rfl)) (trivial)) (trivial)) ?_
  refine WC.rg hn [] [4] [2, 3, 6] ⟨[(4, .fn 31 [.ptr 3 0, .ptr 2 0])], [(2, .box 22 [.own 6]), (3, .box 3 [.p (i6 (a1))]), (6, rowV 5 (eI .u8) t2_2)], L0, []⟩ trivial ?_
  refine WX.ret ?_
  exact WC.outP (by rw [← Option.some.inj h]; kernel_rfl)
def spin_All_1_v1_l0 (a1 : Int) (a2 : (List Int)) : Nat → ((Nat × Nat) × Int) → Option (List (Int × (Nat × Nat)))
  | 0, _ => none
  | k + 1, (x5_1_1, x5_1_2) => ((if (decide ((IntKind.i64.wrap (x5_1_2 + a1)) < (a2.length : Int))) = true then (at_ a2 x5_1_2).bind fun t16_2 => (at_ a2 ((IntKind.i64.wrap (x5_1_2 + a1)))).bind fun t16_4 => (spin_Roll x5_1_1 a1 t16_2 t16_4).bind fun t16_6 => spin_All_1_v1_l0 a1 a2 k (t16_6, (IntKind.i64.wrap (x5_1_2 + 1))) else some [])).map ((x5_1_2, x5_1_1) :: ·)
def spin_All_1_v1 (k : Nat) (a1 : Int) (a2 : (List Int)) : Option (List (Int × (Nat × Nat))) :=
  (if (((decide (a1 < 1))) || ((decide (a1 > (a2.length : Int))))) = true then some [] else (if (0 : Int) ≤ 0 ∧ 0 ≤ a1 ∧ a1 ≤ (a2.length : Nat) then (spin_Of k (sub_ a2 0 a1)).bind fun t3_3 => spin_All_1_v1_l0 a1 a2 k (t3_3, 0) else none))
theorem spin_All_1_v1_it {k : Nat} {a1 : Int} {a2 : (List Int)} {r : List (Int × (Nat × Nat))} (h : spin_All_1_v1 k a1 a2 = some r) : Iter Try.prog 31 [.rop ([i6 (a1)]), .rop ([slV (eI .u8) a2])] (r.map (fun x : Int × (Nat × Nat) => ([.int .i64 x.1, .complex .f64 x.2.1 x.2.2] : List Value))) := by
  refine W_it Try.func31 rfl (by kernel_rfl) (Nat.le_of_ble_eq_true (by kernel_rfl)) ?_
  intro X hro hn hY
  obtain ⟨L, hLe⟩ : ∃ L, L = r.map (fun x : Int × (Nat × Nat) => ([.int .i64 x.1, .complex .f64 x.2.1 x.2.2] : List Value)) := ⟨_, rfl⟩
  rw [← hLe] at hY ⊢
  have hL : ([] : List (List Value)) ++ r.map (fun x : Int × (Nat × Nat) => ([.int .i64 x.1, .complex .f64 x.2.1 x.2.2] : List Value)) = L := by rw [hLe]; rfl
  clear hLe
  unfold spin_All_1_v1 at h
  refine WX.seq ?_
  refine WX.seq ?_
  refine WC.via (α := Bool) (fun v1 => ⟨[(0, .yield), (1, .p (.rop ([i6 (a1)]))), (2, .p (.rop ([slV (eI .u8) a2]))), (13, .p (bo (v1)))], [], ⟨([] : List (List Value)), false⟩, []⟩) ((((decide (a1 < 1))) || ((decide (a1 > (a2.length : Int)))))) (fun hk => ?_) ?_
  · rcases Bool.eq_false_or_eq_true ((decide (a1 < 1))) with b1_2 | b1_2
    · exact WC.reg hn [(2, .val (.p (bo (true))))] [0, 1, 2, 13] [] ⟨[(0, .yield), (1, .p (.rop ([i6 (a1)]))), (2, .p (.rop ([slV (eI .u8) a2]))), (13, .p (bo (true)))], [], ⟨([] : List (List Value)), false⟩, []⟩ (And.intro (Bl b1_2) (trivial)) (by kernel_rfl) (hk true (by first | (rw [b1_2]; rfl) | simp [b1_2]))
    · exact WC.reg hn [(2, .val (.p (bo (false))))] [0, 1, 2, 13] [] ⟨[(0, .yield), (1, .p (.rop ([i6 (a1)]))), (2, .p (.rop ([slV (eI .u8) a2]))), (13, .p (bo (((decide (a1 > (a2.length : Int)))))))], [], ⟨([] : List (List Value)), false⟩, []⟩ (And.intro (Bl b1_2) (trivial)) (by kernel_rfl) (hk ((decide (a1 > (a2.length : Int)))) (by first | (rw [b1_2]; rfl) | simp [b1_2]))
  rcases if_or h with ⟨c2, h⟩ | ⟨c2, h⟩
  · refine WC.condT c2 (by kernel_rfl) ?_
    refine WX.ret ?_
    obtain rfl := Option.some.inj h
    exact WC.ret_all ⟨by kernel_rfl, fun _ => by simpa using hL⟩
  · refine WC.condF c2 (by kernel_rfl) ?_
    refine WX.skip ?_
    refine WX.seq ?_
    obtain ⟨c3_1, h⟩ := if_some h
    obtain ⟨t3_3, h3_2, h⟩ := bind_some h
    refine WC.r1 hn [(2, .val (.p (slV (eI .u8) (sub_ a2 0 a1)))), (3, .resP (.s (.complex .f64 t3_3.1 t3_3.2)))] [0, 1, 2, 4] [] ⟨[(0, .yield), (1, .p (.rop ([i6 (a1)]))), (2, .p (.rop ([slV (eI .u8) a2]))), (4, .p (.s (.complex .f64 t3_3.1 t3_3.2)))], [], ⟨([] : List (List Value)), false⟩, []⟩ (And.intro (Sl (eI .u8) a2 0 a1 c3_1) (And.intro ((spin_Of_ok h3_2)) (trivial))) ?_
    refine WC.rg hn [] [0, 1, 2, 4, 5] [] ⟨[(0, .yield), (1, .p (.rop ([i6 (a1)]))), (2, .p (.rop ([slV (eI .u8) a2]))), (4, .p (.s (.complex .f64 t3_3.1 t3_3.2))), (5, .p (i6 (0)))], [], ⟨([] : List (List Value)), false⟩, []⟩ trivial ?_
    refine WX.block ?_
    refine WC.loop (V := (Nat × Nat) × Int × List (List Value)) (fun k v5 => (spin_All_1_v1_l0 a1 a2 k (v5.1, v5.2.1)).map fun r => v5.2.2 ++ r.map (fun x : Int × (Nat × Nat) => ([.int .i64 x.1, .complex .f64 x.2.1 x.2.2] : List Value))) L (fun v5 => ⟨[(0, .yield), (1, .p (.rop ([i6 (a1)]))), (2, .p (.rop ([slV (eI .u8) a2]))), (4, .p (.s (.complex .f64 v5.1.1 v5.1.2))), (5, .p (i6 (v5.2.1)))], [], ⟨v5.2.2, false⟩, []⟩) _ (t3_3, 0, ([] : List (List Value))) (by rw [h]; exact congrArg some hL) (fun _ => rfl) [0, 1, 2, 4, 5] [] (by kernel_rfl) ?_
    clear h hL; rintro k ⟨x5_1_1, x5_1_2, x5_1_3⟩ h K5 hnext5 hexit5
    obtain ⟨r, h, hL⟩ := mapO_some h
    dsimp only at h hL
    rw [spin_All_1_v1_l0] at h
    refine WX.seq ?_
    refine WX.seq ?_
    obtain ⟨r14, hh14, hr14⟩ := mapO_some h
    subst hr14
    replace h := hh14
    refine WC.yld hn hY 3 [] [0, 1, 2, 4, 5, 29] [] (⟨[(0, .yield), (1, .p (.rop ([i6 (a1)]))), (2, .p (.rop ([slV (eI .u8) a2]))), (4, .p (.s (.complex .f64 x5_1_1.1 x5_1_1.2))), (5, .p (i6 (x5_1_2))), (29, .p (bo (((decide ((IntKind.i64.wrap (x5_1_2 + a1)) < (a2.length : Int)))))))], [], ⟨(x5_1_3 ++ [[.int .i64 x5_1_2, .complex .f64 x5_1_1.1 x5_1_1.2]]), false⟩, []⟩) (⟨[(0, .yield), (1, .p (.rop ([i6 (a1)]))), (2, .p (.rop ([slV (eI .u8) a2]))), (4, .p (.s (.complex .f64 x5_1_1.1 x5_1_1.2))), (5, .p (i6 (x5_1_2))), (29, .p (bo (false)))], [], ⟨(x5_1_3 ++ [[.int .i64 x5_1_2, .complex .f64 x5_1_1.1 x5_1_1.2]]), true⟩, []⟩) x5_1_3 [.int .i64 x5_1_2, .complex .f64 x5_1_1.1 x5_1_1.2] (And.intro True.intro (And.intro True.intro True.intro)) (by kernel_rfl) (pre_ok (val := (fun x : Int × (Nat × Nat) => ([.int .i64 x.1, .complex .f64 x.2.1 x.2.2] : List Value))) (x := (x5_1_2, x5_1_1)) (l := r14) hL) ?_ ?_
    · replace hL : (x5_1_3 ++ [[.int .i64 x5_1_2, .complex .f64 x5_1_1.1 x5_1_1.2]]) ++ r14.map (fun x : Int × (Nat × Nat) => ([.int .i64 x.1, .complex .f64 x.2.1 x.2.2] : List Value)) = L := by rw [← hL]; simp
      rcases if_or h with ⟨c15, h⟩ | ⟨c15, h⟩
      · refine WC.condT c15 (by kernel_rfl) ?_
        refine WX.skip ?_
        refine WX.seq ?_
        refine WX.block ?_
        obtain ⟨t16_2, h16_1, h⟩ := bind_some h
        obtain ⟨t16_4, h16_3, h⟩ := bind_some h
        obtain ⟨t16_6, h16_5, h⟩ := bind_some h
        refine WC.drw hn [] [] [(4, .val (.p (.rop ((eI .u8).cells t16_2 ++ encL (eI .u8) (a2.drop (x5_1_2.toNat + 1)))))), (10, .val (.p (.rop ((eI .u8).cells t16_4 ++ encL (eI .u8) (a2.drop (((IntKind.i64.wrap (x5_1_2 + a1))).toNat + 1)))))), (12, .resP (.s (.complex .f64 t16_6.1 t16_6.2)))] [0, 1, 2, 4, 5] [] ⟨[(0, .yield), (1, .p (.rop ([i6 (a1)]))), (2, .p (.rop ([slV (eI .u8) a2]))), (4, .p (.s (.complex .f64 t16_6.1 t16_6.2))), (5, .p (i6 (x5_1_2)))], [], ⟨(x5_1_3 ++ [[.int .i64 x5_1_2, .complex .f64 x5_1_1.1 x5_1_1.2]]), false⟩, []⟩ (And.intro (Ix (eI .u8) h16_1) (And.intro (Ix (eI .u8) h16_3) (And.intro ((spin_Roll_ok h16_5)) (trivial)))) (by kernel_rfl) (by kernel_rfl) (by kernel_rfl) (by kernel_rfl) ?_
        refine WX.popBlk ?_
        refine WC.r1 hn [] [0, 1, 2, 4, 5] [] ⟨[(0, .yield), (1, .p (.rop ([i6 (a1)]))), (2, .p (.rop ([slV (eI .u8) a2]))), (4, .p (.s (.complex .f64 t16_6.1 t16_6.2))), (5, .p (i6 (((IntKind.i64.wrap (x5_1_2 + 1))))))], [], ⟨(x5_1_3 ++ [[.int .i64 x5_1_2, .complex .f64 x5_1_1.1 x5_1_1.2]]), false⟩, []⟩ trivial ?_
        exact WC.next [0, 1, 2, 4, 5] [] (by kernel_rfl) (hnext5 (t16_6, (IntKind.i64.wrap (x5_1_2 + 1)), (x5_1_3 ++ [[.int .i64 x5_1_2, .complex .f64 x5_1_1.1 x5_1_1.2]])) (by rw [h]; exact congrArg some hL))
      · refine WC.condF c15 (by kernel_rfl) ?_
        refine WX.exit ?_
        refine WX.popCodeExit ?_
        refine WC.exit_nil (hexit5 _ _ (by simp) ?_)
        refine WX.popBlkHit ?_
        obtain rfl := Option.some.inj h
        exact WC.exit_nil ⟨by kernel_rfl, fun _ => by simpa using hL⟩
    · refine WC.condF rfl (by kernel_rfl) ?_
      refine WX.exit ?_
      refine WX.popCodeExit ?_
      refine WC.exit_nil (hexit5 _ _ (by simp) ?_)
      refine WX.popBlkHit ?_
      exact WC.exit_nil ⟨by kernel_rfl, fun h => by cases h⟩
def riddlelaw16_told_v1_l0 (k : Nat) (a1 : Int) (J5 : List riddlelaw16_window → Option ((List riddlelaw16_window))) : List (Int × (Nat × Nat)) → List riddlelaw16_window → Option ((List riddlelaw16_window))
  | [], x18_1_1 => J5 x18_1_1
  | x18 :: xs18, x18_1_1 => (if (decide ((x18_1_1.length : Int) ≥ a1)) = true then J5 x18_1_1 else (if okApp 24 (x18_1_1.length + ([(riddlelaw16_window.mk x18.1 x18.2)]).length) then riddlelaw16_told_v1_l0 k a1 J5 xs18 (x18_1_1 ++ ([(riddlelaw16_window.mk x18.1 x18.2)])) else none))
def riddlelaw16_told_v1 (k : Nat) (a0 : (Int × (List Int))) (a1 : Int) : Option ((List riddlelaw16_window)) :=
  jn (fun (v5 : List riddlelaw16_window) => some v5) fun J5 => (spin_All_1_v1 k a0.1 a0.2).bind fun l18 => riddlelaw16_told_v1_l0 k a1 J5 l18 (([] : List riddlelaw16_window))
theorem riddlelaw16_told_v1_ok {k : Nat} {a0 : (Int × (List Int))} {a1 : Int} {r : (List riddlelaw16_window)} (h : riddlelaw16_told_v1 k a0 a1 = some r) : AnsO Try.prog 24 [] [.p (.fn 31 [.rop ([i6 (a0.1)]), .rop ([slV (eI .u8) a0.2])]), .p (i6 (a1))] [(22, rowV 47 e_riddlelaw16_window r)] (.own 22) := by
  refine W_fnO [22] Try.func24 rfl (by kernel_rfl) (by kernel_rfl) (by kernel_rfl) (by kernel_rfl) ?_
  intro X hro hn
  unfold riddlelaw16_told_v1 at h
  refine WC.rg hn [] [0, 3] [3] ⟨[(0, .p (.fn 31 [.rop ([i6 (a0.1)]), .rop ([slV (eI .u8) a0.2])])), (3, .ptr 3 0)], [(3, .box 3 [.p (i6 (a1))])], L0, []⟩ trivial ?_
  refine WX.seq ?_
  refine WC.rg hn [] [0, 3, 9] [3] ⟨[(0, .p (.fn 31 [.rop ([i6 (a0.1)]), .rop ([slV (eI .u8) a0.2])])), (3, .ptr 3 0), (9, .p (bo (false)))], [(3, .box 3 [.p (i6 (a1))])], L0, []⟩ trivial ?_
  refine WC.condF rfl (by kernel_rfl) ?_
  refine WX.skip ?_
  refine WC.rg hn [] [0, 3, 5] [3, 5] ⟨[(0, .p (.fn 31 [.rop ([i6 (a0.1)]), .rop ([slV (eI .u8) a0.2])])), (3, .ptr 3 0), (5, .ptr 5 0)], [(3, .box 3 [.p (i6 (a1))]), (5, .box 45 [.p (.sl .nil 0 [])])], L0, []⟩ trivial ?_
  refine WX.seq ?_
  refine WC.rg hn [] [3, 5, 10] [3, 5] ⟨[(3, .ptr 3 0), (5, .ptr 5 0), (10, .p (.fn 31 [.rop ([i6 (a0.1)]), .rop ([slV (eI .u8) a0.2])]))], [(3, .box 3 [.p (i6 (a1))]), (5, .box 45 [.p (.sl .nil 0 [])])], L0, []⟩ trivial ?_
  obtain ⟨J5, eJ5, h⟩ := jn_some h
  try dsimp only at h
  refine WC.join (α := List riddlelaw16_window) (fun v5 => ⟨[(5, .ptr 5 0)], [(5, .box 45 [.own 22]), (22, rowV 47 e_riddlelaw16_window v5)], L0, []⟩) (fun v5 => J5 v5 = some r) ?_ (fun hJ5 => ?_)
  · rintro y5_1 h
    rw [eJ5] at h
    try dsimp only at h
    refine WC.rg hn [] [4] [22] ⟨[(4, .own 22)], [(22, rowV 47 e_riddlelaw16_window y5_1)], L0, []⟩ trivial ?_
    refine WX.ret ?_
    exact WC.outO (by rw [← Option.some.inj h]; kernel_rfl)
  · replace hJ5 := fun y5_1 => hJ5 y5_1
    refine WX.block ?_
    obtain ⟨l18, hI18, h⟩ := bind_some h
    refine WC.nil hn [] (some (5, 0)) 22 47 2 (by kernel_rfl) [3, 5, 10] [3, 5, 22] (st' := ⟨[(3, .ptr 3 0), (5, .ptr 5 0), (10, .p (.fn 31 [.rop ([i6 (a0.1)]), .rop ([slV (eI .u8) a0.2])]))], [(3, .box 3 [.p (i6 (a1))]), (5, .box 45 [.own 22]), (22, rowV 47 e_riddlelaw16_window (([] : List riddlelaw16_window)))], L0, []⟩) (by kernel_rfl) ?_
    refine WC.range (V := List riddlelaw16_window) hn (riddlelaw16_told_v1_l0 k a1 J5) r (fun v18 => ⟨[(3, .ptr 3 0), (5, .ptr 5 0), (10, .p (.fn 31 [.rop ([i6 (a0.1)]), .rop ([slV (eI .u8) a0.2])]))], [(3, .box 3 [.p (i6 (a1))]), (5, .box 45 [.own 22]), (22, rowV 47 e_riddlelaw16_window v18)], L0, []⟩) (fun x18 v18 => ⟨[(3, .ptr 3 0), (5, .ptr 5 0), (6, .p (i6 (x18.1))), (7, .p (.s (.complex .f64 x18.2.1 x18.2.2))), (10, .p (.fn 31 [.rop ([i6 (a0.1)]), .rop ([slV (eI .u8) a0.2])])), (11, .p (i6 (x18.1))), (12, .p (.s (.complex .f64 x18.2.1 x18.2.2)))], [(3, .box 3 [.p (i6 (a1))]), (5, .box 45 [.own 22]), (22, rowV 47 e_riddlelaw16_window v18)], ⟨[], false⟩, [[(3, .ptr 3 0), (5, .ptr 5 0), (10, .p (.fn 31 [.rop ([i6 (a0.1)]), .rop ([slV (eI .u8) a0.2])]))]]⟩) (fun x : Int × (Nat × Nat) => ([.int .i64 x.1, .complex .f64 x.2.1 x.2.2] : List Value)) l18 (([] : List riddlelaw16_window)) h [3, 5, 10] [3, 5, 22] (by kernel_rfl) (fun v18 => .p (.fn 31 [.rop ([i6 (a0.1)]), .rop ([slV (eI .u8) a0.2])])) (fun v18 => by kernel_rfl) (by kernel_rfl) (spin_All_1_v1_it hI18) (by kernel_rfl) (fun v18 => by kernel_rfl) (fun x => ⟨rfl, rfl⟩) ?_ ?_ ?_
    · clear h; rintro x18_1_1 h
      rw [riddlelaw16_told_v1_l0] at h
      refine WX.popBlk ?_
      exact WC.keep [5] [5, 22] (by kernel_rfl) (hJ5 x18_1_1 h)
    · clear h; intro X hn x18; rintro x18_1_1
      refine WC.rg hn [] [3, 5, 6, 10, 11, 12] [3, 5, 22] ⟨[(3, .ptr 3 0), (5, .ptr 5 0), (6, .p (i6 (x18.1))), (10, .p (.fn 31 [.rop ([i6 (a0.1)]), .rop ([slV (eI .u8) a0.2])])), (11, .p (i6 (x18.1))), (12, .p (.s (.complex .f64 x18.2.1 x18.2.2)))], [(3, .box 3 [.p (i6 (a1))]), (5, .box 45 [.own 22]), (22, rowV 47 e_riddlelaw16_window x18_1_1)], ⟨[], false⟩, [[(3, .ptr 3 0), (5, .ptr 5 0), (10, .p (.fn 31 [.rop ([i6 (a0.1)]), .rop ([slV (eI .u8) a0.2])]))]]⟩ trivial ?_
      refine WC.r1 hn [] [3, 5, 6, 7, 10, 11, 12] [3, 5, 22] ⟨[(3, .ptr 3 0), (5, .ptr 5 0), (6, .p (i6 (x18.1))), (7, .p (.s (.complex .f64 x18.2.1 x18.2.2))), (10, .p (.fn 31 [.rop ([i6 (a0.1)]), .rop ([slV (eI .u8) a0.2])])), (11, .p (i6 (x18.1))), (12, .p (.s (.complex .f64 x18.2.1 x18.2.2)))], [(3, .box 3 [.p (i6 (a1))]), (5, .box 45 [.own 22]), (22, rowV 47 e_riddlelaw16_window x18_1_1)], ⟨[], false⟩, [[(3, .ptr 3 0), (5, .ptr 5 0), (10, .p (.fn 31 [.rop ([i6 (a0.1)]), .rop ([slV (eI .u8) a0.2])]))]]⟩ trivial ?_
      exact WC.exit_nil ⟨rfl, rfl⟩
    · clear h; intro X hn x18 xs18; rintro x18_1_1 h K18 hnext18 hexit18
      rw [riddlelaw16_told_v1_l0] at h
      refine WX.block ?_
      refine WX.seq ?_
      refine WC.rg hn [] [5, 6, 7, 16] [3, 5, 22] ⟨[(5, .ptr 5 0), (6, .p (i6 (x18.1))), (7, .p (.s (.complex .f64 x18.2.1 x18.2.2))), (16, .p (bo (((decide ((x18_1_1.length : Int) ≥ a1))))))], [(3, .box 3 [.p (i6 (a1))]), (5, .box 45 [.own 22]), (22, rowV 47 e_riddlelaw16_window x18_1_1)], ⟨[], false⟩, [[(3, .ptr 3 0), (5, .ptr 5 0), (10, .p (.fn 31 [.rop ([i6 (a0.1)]), .rop ([slV (eI .u8) a0.2])]))]]⟩ trivial ?_
      rcases if_or h with ⟨c32, h⟩ | ⟨c32, h⟩
      · refine WC.condT c32 (by kernel_rfl) ?_
        refine WX.exit ?_
        refine WX.popCodeExit ?_
        refine WX.popBlkPass (by decide) ?_
        refine WC.exit_nil (hexit18 _ _ (by simp) ?_)
        refine WC.keep [3, 5, 10] [3, 5, 22] (st' := ⟨[(3, .ptr 3 0), (5, .ptr 5 0), (10, .p (.fn 31 [.rop ([i6 (a0.1)]), .rop ([slV (eI .u8) a0.2])]))], [(3, .box 3 [.p (i6 (a1))]), (5, .box 45 [.own 22]), (22, rowV 47 e_riddlelaw16_window x18_1_1)], L0, []⟩) (by kernel_rfl) ?_
        refine WX.popBlkHit ?_
        exact WC.keep [5] [5, 22] (by kernel_rfl) (hJ5 x18_1_1 h)
      · refine WC.condF c32 (by kernel_rfl) ?_
        refine WX.skip ?_
        obtain ⟨c33_1, h⟩ := if_some h
        refine WC.r1 hn [(5, .app (some 22) (rowV 47 e_riddlelaw16_window (x18_1_1 ++ ([(riddlelaw16_window.mk x18.1 x18.2)]))))] [] [3, 5, 22] ⟨[], [(3, .box 3 [.p (i6 (a1))]), (5, .box 45 [.own 22]), (22, rowV 47 e_riddlelaw16_window (x18_1_1 ++ ([(riddlelaw16_window.mk x18.1 x18.2)])))], ⟨[], false⟩, [[(3, .ptr 3 0), (5, .ptr 5 0), (10, .p (.fn 31 [.rop ([i6 (a0.1)]), .rop ([slV (eI .u8) a0.2])]))]]⟩ (And.intro (Ap e_riddlelaw16_window (some 22) 47 24 2 x18_1_1 ([(riddlelaw16_window.mk x18.1 x18.2)]) c33_1) (trivial)) ?_
        refine WX.popBlk ?_
        refine WC.keep [] [3, 5, 22] (st' := ⟨[], [(3, .box 3 [.p (i6 (a1))]), (5, .box 45 [.own 22]), (22, rowV 47 e_riddlelaw16_window (x18_1_1 ++ ([(riddlelaw16_window.mk x18.1 x18.2)])))], ⟨[], false⟩, [[(3, .ptr 3 0), (5, .ptr 5 0), (10, .p (.fn 31 [.rop ([i6 (a0.1)]), .rop ([slV (eI .u8) a0.2])]))]]⟩) (by kernel_rfl) ?_
        exact WC.nextR [] [3, 5, 22] (s := ⟨[], [(3, .box 3 [.p (i6 (a1))]), (5, .box 45 [.own 22]), (22, rowV 47 e_riddlelaw16_window (x18_1_1 ++ ([(riddlelaw16_window.mk x18.1 x18.2)])))], ⟨[], false⟩, [[(3, .ptr 3 0), (5, .ptr 5 0), (10, .p (.fn 31 [.rop ([i6 (a0.1)]), .rop ([slV (eI .u8) a0.2])]))]]⟩) (by kernel_rfl) rfl (fun s hb => hnext18 (x18_1_1 ++ ([(riddlelaw16_window.mk x18.1 x18.2)])) s h hb)
theorem riddlelaw16_told_v1_okP {k : Nat} {a0 : (Int × (List Int))} {a1 : Int} {r : (List riddlelaw16_window)} (h : riddlelaw16_told_v1 k a0 a1 = some r) : Ans Try.prog 24 [.fn 31 [.rop ([i6 (a0.1)]), .rop ([slV (eI .u8) a0.2])], i6 (a1)] (slV e_riddlelaw16_window r) := AnsO.ans (args := [.fn 31 [.rop ([i6 (a0.1)]), .rop ([slV (eI .u8) a0.2])], i6 (a1)]) (riddlelaw16_told_v1_ok h) (by kernel_rfl)
def riddlelaw16_SpinTells_l0 (a0 : (List Int)) (a1 : Int) (J7 : List riddlelaw16_window → Option (Bool)) : Nat → (List riddlelaw16_window × Int) → Option (Bool)
  | 0, _ => none
  | k + 1, (x27_1_1, x27_1_2) => (if (decide (x27_1_2 < (a0.length : Int))) = true then (if (((decide (a1 ≥ 1))) && ((decide (a1 ≤ (IntKind.i64.wrap ((a0.length : Int) - x27_1_2)))))) = true then (if (0 : Int) ≤ x27_1_2 ∧ x27_1_2 ≤ (IntKind.i64.wrap (x27_1_2 + a1)) ∧ (IntKind.i64.wrap (x27_1_2 + a1)) ≤ (a0.length : Nat) then (riddleref16_Of k (sub_ a0 x27_1_2 ((IntKind.i64.wrap (x27_1_2 + a1))))).bind fun t49_3 => (riddlelaw16_point t49_3).bind fun t49_5 => (if okApp 24 (x27_1_1.length + ([(riddlelaw16_window.mk x27_1_2 t49_5)]).length) then riddlelaw16_SpinTells_l0 a0 a1 J7 k (x27_1_1 ++ ([(riddlelaw16_window.mk x27_1_2 t49_5)]), (IntKind.i64.wrap (x27_1_2 + 1))) else none) else none) else riddlelaw16_SpinTells_l0 a0 a1 J7 k (x27_1_1, (IntKind.i64.wrap (x27_1_2 + 1)))) else J7 x27_1_1)
def riddlelaw16_SpinTells (k : Nat) (a0 : (List Int)) (a1 : Int) (a2 : Int) : Option (Bool) :=
  (if (decide ((a0.length : Int) > 2000)) = true then some true else jn (fun (v7 : List riddlelaw16_window) => (riddlelaw16_begun k).bind fun t26_2 => ((if t26_2 = true then (spin_All a0 a1).bind fun t26_4 => (riddlelaw16_told_v1 k ((t26_4.1, t26_4.2)) 1048576).bind fun t26_6 => (slices_Equal_riddle_riddlelaw16_window_riddle_riddlelaw16_window k t26_6 v7).bind fun t26_8 => (if t26_8 = true then (spin_All a0 a1).bind fun t26_10 => (riddlelaw16_told_v1 k ((t26_10.1, t26_10.2)) ((IntKind.i64.wrap a2))).bind fun t26_12 => (if (0 : Int) ≤ 0 ∧ 0 ≤ (minI ((v7.length : Int)) ((IntKind.i64.wrap a2))) ∧ (minI ((v7.length : Int)) ((IntKind.i64.wrap a2))) ≤ (v7.length : Nat) then (slices_Equal_riddle_riddlelaw16_window_riddle_riddlelaw16_window k t26_12 (sub_ v7 0 ((minI ((v7.length : Int)) ((IntKind.i64.wrap a2)))))).bind fun t26_15 => some t26_15 else none) else some false) else some false) : Option (Bool)).bind fun v26 => some v26) fun J7 => riddlelaw16_SpinTells_l0 a0 a1 J7 k (([] : List riddlelaw16_window), 0))
theorem riddlelaw16_SpinTells_ok {k : Nat} {a0 : (List Int)} {a1 : Int} {a2 : Int} {r : Bool} (h : riddlelaw16_SpinTells k a0 a1 a2 = some r) : Ans Try.prog 7 [slV (eI .u8) a0, i6 (a1), .s (.int .u8 a2)] (bo (r)) := by
  refine W_fn Try.func7 rfl (by kernel_rfl) (by kernel_rfl) ?_
  intro X hro hn
  unfold riddlelaw16_SpinTells at h
  refine WC.rg hn [] [0, 1, 2] [] ⟨[(0, .p (slV (eI .u8) a0)), (1, .p (i6 (a1))), (2, .p (.s (.int .u8 a2)))], [], L0, []⟩ trivial ?_
  refine WX.seq ?_
  refine WC.rg hn [] [0, 1, 2, 11] [] ⟨[(0, .p (slV (eI .u8) a0)), (1, .p (i6 (a1))), (2, .p (.s (.int .u8 a2))), (11, .p (bo (((decide ((a0.length : Int) > 2000))))))], [], L0, []⟩ trivial ?_
  rcases if_or h with ⟨c3, h⟩ | ⟨c3, h⟩
  · refine WC.condT c3 (by kernel_rfl) ?_
    refine WC.rg hn [] [6] [] ⟨[(6, .p (bo (true)))], [], L0, []⟩ trivial ?_
    refine WX.ret ?_
    exact WC.outP (by rw [← Option.some.inj h]; kernel_rfl)
  · refine WC.condF c3 (by kernel_rfl) ?_
    refine WX.skip ?_
    refine WC.rg hn [] [0, 1, 2, 7] [] ⟨[(0, .p (slV (eI .u8) a0)), (1, .p (i6 (a1))), (2, .p (.s (.int .u8 a2))), (7, .p (.sl .nil 0 []))], [], L0, []⟩ trivial ?_
    refine WX.seq ?_
    refine WC.rg hn [] [0, 1, 2, 7, 13, 14] [] ⟨[(0, .p (slV (eI .u8) a0)), (1, .p (i6 (a1))), (2, .p (.s (.int .u8 a2))), (7, .p (.sl .nil 0 [])), (13, .p (i6 (((a0.length : Int))))), (14, .p (i6 (0)))], [], L0, []⟩ trivial ?_
    obtain ⟨J7, eJ7, h⟩ := jn_some h
    try dsimp only at h
    refine WC.join (α := List riddlelaw16_window) (fun v7 => ⟨[(0, .p (slV (eI .u8) a0)), (1, .p (i6 (a1))), (2, .p (.s (.int .u8 a2))), (7, .own 39)], [(39, rowV 47 e_riddlelaw16_window v7)], L0, []⟩) (fun v7 => J7 v7 = some r) ?_ (fun hJ7 => ?_)
    · rintro y7_1 h
      rw [eJ7] at h
      try dsimp only at h
      refine WX.seq ?_
      refine WC.frz 39 (st' := ⟨[(0, .p (slV (eI .u8) a0)), (1, .p (i6 (a1))), (2, .p (.s (.int .u8 a2))), (7, .p (slV e_riddlelaw16_window y7_1))], [], L0, []⟩) (by kernel_rfl) ?_
      obtain ⟨t26_2, h26_1, h⟩ := bind_some h
      obtain ⟨m26_1, g26, h⟩ := bind_some h
      refine WC.via (α := Bool) (fun v26 => ⟨[(6, .p (bo (v26)))], [], L0, []⟩) m26_1 (fun hk => ?_) ?_
      · rcases if_or g26 with ⟨b26_1, g26⟩ | ⟨b26_1, g26⟩
        · obtain ⟨t26_4, h26_3, g26⟩ := bind_some g26
          obtain ⟨t26_6, h26_5, g26⟩ := bind_some g26
          obtain ⟨t26_8, h26_7, g26⟩ := bind_some g26
          rcases if_or g26 with ⟨b26_9, g26⟩ | ⟨b26_9, g26⟩
          · obtain ⟨t26_10, h26_9, g26⟩ := bind_some g26
            obtain ⟨t26_12, h26_11, g26⟩ := bind_some g26
            obtain ⟨c26_13, g26⟩ := if_some g26
            obtain ⟨t26_15, h26_14, g26⟩ := bind_some g26
            exact WC.drw hn [] [] [(0, .resP (bo (t26_2))), (1, .val (.p (bo (true)))), (4, .resP (.fn 31 [.rop ([i6 (t26_4.1)]), .rop ([slV (eI .u8) t26_4.2])])), (5, .resP (slV e_riddlelaw16_window t26_6)), (7, .resP (bo (t26_8))), (9, .val (.p (bo (true)))), (12, .resP (.fn 31 [.rop ([i6 (t26_10.1)]), .rop ([slV (eI .u8) t26_10.2])])), (15, .resP (slV e_riddlelaw16_window t26_12)), (22, .val (.p (slV e_riddlelaw16_window (sub_ y7_1 0 ((minI ((y7_1.length : Int)) ((IntKind.i64.wrap a2)))))))), (23, .resP (bo (t26_15)))] [6] [] ⟨[(6, .p (bo (t26_15)))], [], L0, []⟩ (And.intro ((riddlelaw16_begun_ok h26_1)) (And.intro (Bl b26_1) (And.intro ((spin_All_ok h26_3)) (And.intro ((riddlelaw16_told_v1_okP h26_5)) (And.intro ((slices_Equal_riddle_riddlelaw16_window_riddle_riddlelaw16_window_ok h26_7)) (And.intro (Bl b26_9) (And.intro ((spin_All_ok h26_9)) (And.intro ((riddlelaw16_told_v1_okP h26_11)) (And.intro (Sl e_riddlelaw16_window y7_1 0 ((minI ((y7_1.length : Int)) ((IntKind.i64.wrap a2)))) c26_13) (And.intro ((slices_Equal_riddle_riddlelaw16_window_riddle_riddlelaw16_window_ok h26_14)) (trivial))))))))))) (by kernel_rfl) (by kernel_rfl) (by kernel_rfl) (by kernel_rfl) (hk t26_15 (Option.some.inj g26))
          · exact WC.drw hn [] [] [(0, .resP (bo (t26_2))), (1, .val (.p (bo (true)))), (4, .resP (.fn 31 [.rop ([i6 (t26_4.1)]), .rop ([slV (eI .u8) t26_4.2])])), (5, .resP (slV e_riddlelaw16_window t26_6)), (7, .resP (bo (t26_8))), (9, .val (.p (bo (false))))] [6] [] ⟨[(6, .p (bo (false)))], [], L0, []⟩ (And.intro ((riddlelaw16_begun_ok h26_1)) (And.intro (Bl b26_1) (And.intro ((spin_All_ok h26_3)) (And.intro ((riddlelaw16_told_v1_okP h26_5)) (And.intro ((slices_Equal_riddle_riddlelaw16_window_riddle_riddlelaw16_window_ok h26_7)) (And.intro (Bl b26_9) (trivial))))))) (by kernel_rfl) (by kernel_rfl) (by kernel_rfl) (by kernel_rfl) (hk false (Option.some.inj g26))
        · exact WC.drw hn [] [] [(0, .resP (bo (t26_2))), (1, .val (.p (bo (false))))] [6] [] ⟨[(6, .p (bo (false)))], [], L0, []⟩ (And.intro ((riddlelaw16_begun_ok h26_1)) (And.intro (Bl b26_1) (trivial))) (by kernel_rfl) (by kernel_rfl) (by kernel_rfl) (by kernel_rfl) (hk false (Option.some.inj g26))
      refine WX.ret ?_
      exact WC.outP (by rw [← Option.some.inj h]; kernel_rfl)
    · replace hJ7 := fun y7_1 => hJ7 y7_1
      refine WX.block ?_
      refine WC.nil hn [7] none 39 47 2 (by kernel_rfl) [0, 1, 2, 7, 13, 14] [39] (st' := ⟨[(0, .p (slV (eI .u8) a0)), (1, .p (i6 (a1))), (2, .p (.s (.int .u8 a2))), (7, .own 39), (13, .p (i6 (((a0.length : Int))))), (14, .p (i6 (0)))], [(39, rowV 47 e_riddlelaw16_window (([] : List riddlelaw16_window)))], L0, []⟩) (by kernel_rfl) ?_
      refine WC.loop (V := List riddlelaw16_window × Int) (riddlelaw16_SpinTells_l0 a0 a1 J7) r (fun v27 => ⟨[(0, .p (slV (eI .u8) a0)), (1, .p (i6 (a1))), (2, .p (.s (.int .u8 a2))), (7, .own 39), (13, .p (i6 (((a0.length : Int))))), (14, .p (i6 (v27.2)))], [(39, rowV 47 e_riddlelaw16_window v27.1)], L0, []⟩) _ (([] : List riddlelaw16_window), 0) h (fun _ => rfl) [0, 1, 2, 7, 13, 14] [39] (by kernel_rfl) ?_
      clear h; rintro k ⟨x27_1_1, x27_1_2⟩ h K27 hnext27 hexit27
      rw [riddlelaw16_SpinTells_l0] at h
      refine WC.rg hn [] [0, 1, 2, 7, 13, 14, 15] [39] ⟨[(0, .p (slV (eI .u8) a0)), (1, .p (i6 (a1))), (2, .p (.s (.int .u8 a2))), (7, .own 39), (13, .p (i6 (((a0.length : Int))))), (14, .p (i6 (x27_1_2))), (15, .p (bo (((decide (x27_1_2 < (a0.length : Int)))))))], [(39, rowV 47 e_riddlelaw16_window x27_1_1)], L0, []⟩ trivial ?_
      refine WX.seq ?_
      rcases if_or h with ⟨c45, h⟩ | ⟨c45, h⟩
      · refine WC.condT c45 (by kernel_rfl) ?_
        refine WX.skip ?_
        refine WX.seq ?_
        refine WX.block ?_
        refine WC.rg hn [] [0, 1, 2, 7, 8, 13, 14] [39] ⟨[(0, .p (slV (eI .u8) a0)), (1, .p (i6 (a1))), (2, .p (.s (.int .u8 a2))), (7, .own 39), (8, .p (i6 (x27_1_2))), (13, .p (i6 (((a0.length : Int))))), (14, .p (i6 (x27_1_2)))], [(39, rowV 47 e_riddlelaw16_window x27_1_1)], L0, []⟩ trivial ?_
        refine WX.seq ?_
        refine WC.via (α := Bool) (fun v47 => ⟨[(0, .p (slV (eI .u8) a0)), (1, .p (i6 (a1))), (2, .p (.s (.int .u8 a2))), (7, .own 39), (8, .p (i6 (x27_1_2))), (13, .p (i6 (((a0.length : Int))))), (14, .p (i6 (x27_1_2))), (26, .p (bo (v47)))], [(39, rowV 47 e_riddlelaw16_window x27_1_1)], L0, []⟩) ((((decide (a1 ≥ 1))) && ((decide (a1 ≤ (IntKind.i64.wrap ((a0.length : Int) - x27_1_2))))))) (fun hk => ?_) ?_
        · rcases Bool.eq_false_or_eq_true ((decide (a1 ≥ 1))) with b47_2 | b47_2
          · exact WC.reg hn [(2, .val (.p (bo (true))))] [0, 1, 2, 7, 8, 13, 14, 26] [39] ⟨[(0, .p (slV (eI .u8) a0)), (1, .p (i6 (a1))), (2, .p (.s (.int .u8 a2))), (7, .own 39), (8, .p (i6 (x27_1_2))), (13, .p (i6 (((a0.length : Int))))), (14, .p (i6 (x27_1_2))), (26, .p (bo (((decide (a1 ≤ (IntKind.i64.wrap ((a0.length : Int) - x27_1_2))))))))], [(39, rowV 47 e_riddlelaw16_window x27_1_1)], L0, []⟩ (And.intro (Bl b47_2) (trivial)) (by kernel_rfl) (hk ((decide (a1 ≤ (IntKind.i64.wrap ((a0.length : Int) - x27_1_2))))) (by first | (rw [b47_2]; rfl) | simp [b47_2]))
          · exact WC.reg hn [(2, .val (.p (bo (false))))] [0, 1, 2, 7, 8, 13, 14, 26] [39] ⟨[(0, .p (slV (eI .u8) a0)), (1, .p (i6 (a1))), (2, .p (.s (.int .u8 a2))), (7, .own 39), (8, .p (i6 (x27_1_2))), (13, .p (i6 (((a0.length : Int))))), (14, .p (i6 (x27_1_2))), (26, .p (bo (false)))], [(39, rowV 47 e_riddlelaw16_window x27_1_1)], L0, []⟩ (And.intro (Bl b47_2) (trivial)) (by kernel_rfl) (hk false (by first | (rw [b47_2]; rfl) | simp [b47_2]))
        rcases if_or h with ⟨c48, h⟩ | ⟨c48, h⟩
        · refine WC.condT c48 (by kernel_rfl) ?_
          obtain ⟨c49_1, h⟩ := if_some h
          obtain ⟨t49_3, h49_2, h⟩ := bind_some h
          obtain ⟨t49_5, h49_4, h⟩ := bind_some h
          obtain ⟨c49_6, h⟩ := if_some h
          refine WC.r1 hn [(7, .val (.p (slV (eI .u8) (sub_ a0 x27_1_2 ((IntKind.i64.wrap (x27_1_2 + a1))))))), (8, .resP (pP2 t49_3)), (9, .resP (.s (.complex .f64 t49_5.1 t49_5.2))), (12, .app (some 39) (rowV 47 e_riddlelaw16_window (x27_1_1 ++ ([(riddlelaw16_window.mk x27_1_2 t49_5)]))))] [0, 1, 2, 7, 13, 14] [39] ⟨[(0, .p (slV (eI .u8) a0)), (1, .p (i6 (a1))), (2, .p (.s (.int .u8 a2))), (7, .own 39), (13, .p (i6 (((a0.length : Int))))), (14, .p (i6 (x27_1_2)))], [(39, rowV 47 e_riddlelaw16_window (x27_1_1 ++ ([(riddlelaw16_window.mk x27_1_2 t49_5)])))], L0, []⟩ (And.intro (Sl (eI .u8) a0 x27_1_2 ((IntKind.i64.wrap (x27_1_2 + a1))) c49_1) (And.intro ((riddleref16_Of_ok h49_2)) (And.intro ((riddlelaw16_point_ok h49_4)) (And.intro (Ap e_riddlelaw16_window (some 39) 47 24 2 x27_1_1 ([(riddlelaw16_window.mk x27_1_2 t49_5)]) c49_6) (trivial))))) ?_
          refine WX.popBlk ?_
          refine WC.r1 hn [] [0, 1, 2, 7, 13, 14] [39] ⟨[(0, .p (slV (eI .u8) a0)), (1, .p (i6 (a1))), (2, .p (.s (.int .u8 a2))), (7, .own 39), (13, .p (i6 (((a0.length : Int))))), (14, .p (i6 (((IntKind.i64.wrap (x27_1_2 + 1))))))], [(39, rowV 47 e_riddlelaw16_window (x27_1_1 ++ ([(riddlelaw16_window.mk x27_1_2 t49_5)])))], L0, []⟩ trivial ?_
          exact WC.next [0, 1, 2, 7, 13, 14] [39] (by kernel_rfl) (hnext27 (x27_1_1 ++ ([(riddlelaw16_window.mk x27_1_2 t49_5)]), (IntKind.i64.wrap (x27_1_2 + 1))) h)
        · refine WC.condF c48 (by kernel_rfl) ?_
          refine WX.skip ?_
          refine WX.popBlk ?_
          refine WC.r1 hn [] [0, 1, 2, 7, 13, 14] [39] ⟨[(0, .p (slV (eI .u8) a0)), (1, .p (i6 (a1))), (2, .p (.s (.int .u8 a2))), (7, .own 39), (13, .p (i6 (((a0.length : Int))))), (14, .p (i6 (((IntKind.i64.wrap (x27_1_2 + 1))))))], [(39, rowV 47 e_riddlelaw16_window x27_1_1)], L0, []⟩ trivial ?_
          exact WC.next [0, 1, 2, 7, 13, 14] [39] (by kernel_rfl) (hnext27 (x27_1_1, (IntKind.i64.wrap (x27_1_2 + 1))) h)
      · refine WC.condF c45 (by kernel_rfl) ?_
        refine WX.exit ?_
        refine WX.popCodeExit ?_
        refine WC.exit_nil (hexit27 _ _ (by simp) ?_)
        refine WX.popBlkHit ?_
        exact WC.keep [0, 1, 2, 7] [39] (by kernel_rfl) (hJ7 x27_1_1 h)
end Go.Proofs.Ytikgijnpgeaecaa
