/- YtegjbjnmedgdoaaDoorGa: a part of the proof; see the last text for what is proved. -/
import Derived.Test.YtegjbjnmedgdoaaDoorAaExp
import Derived.Test.YtegjbjnmedgdoaaDoorAaJump
import Derived.Test.YtegjbjnmedgdoaaDoorAaFlt
import Derived.Test.YtegjbjnmedgdoaaDoorProg
import Derived.KernelRfl
set_option maxRecDepth 100000
set_option linter.unusedVariables false
set_option linter.unusedSimpArgs false
namespace Go.Proofs.YtegjbjnmedgdoaaDoor
open Go.AE
def tab0 : List Int := [0, 1, 56, 2, 57, 49, 28, 3, 61, 58, 42, 50, 38, 29, 17, 4, 62, 47, 59, 36, 45, 43, 51, 22, 53, 39, 33, 30, 24, 18, 12, 5, 63, 55, 48, 27, 60, 41, 37, 16, 46, 35, 44, 21, 52, 32, 23, 11, 54, 26, 40, 15, 34, 20, 31, 10, 25, 14, 19, 9, 13, 8, 7, 6]
structure S7 where
  x : Int
  y : Int
  signed : Bool
  code : Int
def e_S7 : Enc S7 := ⟨fun x => [.s (.int .i64 x.x), .s (.int .i64 x.y), .s (.bool x.signed), .s (.int .u8 x.code)], 4, fun _ => rfl, by decide⟩
structure runtime_boundsError where
  x : Int
  y : Int
  signed : Bool
  code : Int
def e_runtime_boundsError : Enc runtime_boundsError := ⟨fun x => [.s (.int .i64 x.x), .s (.int .i64 x.y), .s (.bool x.signed), .s (.int .u8 x.code)], 4, fun _ => rfl, by decide⟩
structure S13 where
  msg : ByteArray
  addr : Int
def e_S13 : Enc S13 := ⟨fun x => [.s (.string x.msg), .s (.int .u64 x.addr)], 2, fun _ => rfl, by decide⟩
structure runtime_errorAddressString where
  msg : ByteArray
  addr : Int
def e_runtime_errorAddressString : Enc runtime_errorAddressString := ⟨fun x => [.s (.string x.msg), .s (.int .u64 x.addr)], 2, fun _ => rfl, by decide⟩
structure S24 where
  N : Int
  Words : (List Int)
def e_S24 : Enc S24 := ⟨fun x => [.s (.int .i64 x.N), slV (eI .u64) x.Words], 2, fun _ => rfl, by decide⟩
structure api_Bits where
  N : Int
  Words : (List Int)
def e_api_Bits : Enc api_Bits := ⟨fun x => [.s (.int .i64 x.N), slV (eI .u64) x.Words], 2, fun _ => rfl, by decide⟩
structure S27 where
  Classes : (List (Arr4 Int))
  First : api_Bits
  Last : api_Bits
  Follow : (List api_Bits)
  Null : Bool
def e_S27 : Enc S27 := ⟨fun x => [slV (e4 (eI .u64)) x.Classes, .s (.int .i64 x.First.N), slV (eI .u64) x.First.Words, .s (.int .i64 x.Last.N), slV (eI .u64) x.Last.Words, slV e_api_Bits x.Follow, .s (.bool x.Null)], 7, fun _ => rfl, by decide⟩
structure api_Nfa where
  Classes : (List (Arr4 Int))
  First : api_Bits
  Last : api_Bits
  Follow : (List api_Bits)
  Null : Bool
def e_api_Nfa : Enc api_Nfa := ⟨fun x => [slV (e4 (eI .u64)) x.Classes, .s (.int .i64 x.First.N), slV (eI .u64) x.First.Words, .s (.int .i64 x.Last.N), slV (eI .u64) x.Last.Words, slV e_api_Bits x.Follow, .s (.bool x.Null)], 7, fun _ => rfl, by decide⟩
structure api_Node where
  Kind : Int
  Class : (Arr4 Int)
  A : Int
  B : Int
  Least : Int
  Most : Int
  Lazy : Bool
def e_api_Node : Enc api_Node := ⟨fun x => [.s (.int .i64 x.Kind), .s (.int .u64 x.Class.a0), .s (.int .u64 x.Class.a1), .s (.int .u64 x.Class.a2), .s (.int .u64 x.Class.a3), .s (.int .i64 x.A), .s (.int .i64 x.B), .s (.int .i64 x.Least), .s (.int .i64 x.Most), .s (.bool x.Lazy)], 10, fun _ => rfl, by decide⟩
structure S43 where
  Nodes : (List api_Node)
def e_S43 : Enc S43 := ⟨fun x => [slV e_api_Node x.Nodes], 1, fun _ => rfl, by decide⟩
structure api_Tree where
  Nodes : (List api_Node)
def e_api_Tree : Enc api_Tree := ⟨fun x => [slV e_api_Node x.Nodes], 1, fun _ => rfl, by decide⟩
structure S61 where
  Kind : Int
  Class : (Arr4 Int)
  A : Int
  B : Int
  Least : Int
  Most : Int
  Lazy : Bool
def e_S61 : Enc S61 := ⟨fun x => [.s (.int .i64 x.Kind), .s (.int .u64 x.Class.a0), .s (.int .u64 x.Class.a1), .s (.int .u64 x.Class.a2), .s (.int .u64 x.Class.a3), .s (.int .i64 x.A), .s (.int .i64 x.B), .s (.int .i64 x.Least), .s (.int .i64 x.Most), .s (.bool x.Lazy)], 10, fun _ => rfl, by decide⟩
abbrev i6 (x : Int) : PV := .s (.int .i64 x)
abbrev u6 (x : Int) : PV := .s (.int .u64 x)
abbrev sI (l : List Int) : PV := slV (eI .i64) l
abbrev rI (E : Nat) (l : List Int) : AE.Obj := rowV E (eI .i64) l
abbrev rW (E : Nat) (l : List Int) : AE.Obj := rowV E (eI .u64) l
abbrev bo (x : Bool) : PV := .s (.bool x)
abbrev sW (l : List Int) : PV := slV (eI .u64) l
abbrev sC (l : List (Arr4 Int)) : PV := slV (e4 (eI .u64)) l
abbrev sB (l : List api_Bits) : PV := slV e_api_Bits l
abbrev L0 : Log := ⟨[], false⟩
abbrev vV1 (x : api_Nfa) : List AV := [.p (sC x.Classes), .p (i6 (x.First.N)), .p (sW x.First.Words), .p (i6 (x.Last.N)), .p (sW x.Last.Words), .p (sB x.Follow), .p (bo (x.Null))]
abbrev pP1 (x : api_Nfa) : PV := .agg [sC x.Classes, i6 (x.First.N), sW x.First.Words, i6 (x.Last.N), sW x.Last.Words, sB x.Follow, bo (x.Null)]
abbrev vV4 (x : api_Bits) : List AV := [.p (i6 (x.N)), .p (sW x.Words)]
abbrev pP4 (x : api_Bits) : PV := .agg [i6 (x.N), sW x.Words]
def riddlelaw12_few (a0 : api_Nfa) (a1 : (List Int)) : Option (Bool) :=
  some ((((decide ((a0.Classes.length : Int) ≤ 40))) && ((((decide ((a0.Follow.length : Int) ≤ 60))) && ((decide ((a1.length : Int) ≤ 24)))))))
theorem riddlelaw12_few_ok {a0 : api_Nfa} {a1 : (List Int)} {r : Bool} (h : riddlelaw12_few a0 a1 = some r) : Ans Tryd.prog 9 [pP1 a0, slV (eI .u8) a1] (bo (r)) := by
  refine W_fn Tryd.func9 rfl (by kernel_rfl) (by kernel_rfl) ?_
  intro X hro hn
  unfold riddlelaw12_few at h
  refine WC.rg hn [] [1, 2] [2] ⟨[(1, .p (slV (eI .u8) a1)), (2, .ptr 2 0)], [(2, .box 28 (vV1 a0))], L0, []⟩ trivial ?_
  refine WX.seq ?_
  refine WC.via (α := Bool) (fun v2 => ⟨[(4, .p (bo (v2)))], [], L0, []⟩) ((((decide ((a0.Classes.length : Int) ≤ 40))) && ((((decide ((a0.Follow.length : Int) ≤ 60))) && ((decide ((a1.length : Int) ≤ 24))))))) (fun hk => ?_) ?_
  · rcases Bool.eq_false_or_eq_true ((decide ((a0.Classes.length : Int) ≤ 40))) with b2_4 | b2_4
    · rcases Bool.eq_false_or_eq_true ((decide ((a0.Follow.length : Int) ≤ 60))) with b2_10 | b2_10
      · exact WC.reg hn [(4, .val (.p (bo (true)))), (10, .val (.p (bo (true))))] [4] [] ⟨[(4, .p (bo (((decide ((a1.length : Int) ≤ 24))))))], [], L0, []⟩ (And.intro (Bl b2_4) (And.intro (Bl b2_10) (trivial))) (by kernel_rfl) (hk ((decide ((a1.length : Int) ≤ 24))) (by first | (rw [b2_4, b2_10]; rfl) | simp [b2_4, b2_10]))
      · exact WC.reg hn [(4, .val (.p (bo (true)))), (10, .val (.p (bo (false))))] [4] [] ⟨[(4, .p (bo (false)))], [], L0, []⟩ (And.intro (Bl b2_4) (And.intro (Bl b2_10) (trivial))) (by kernel_rfl) (hk false (by first | (rw [b2_4, b2_10]; rfl) | simp [b2_4, b2_10]))
    · exact WC.reg hn [(4, .val (.p (bo (false))))] [4] [] ⟨[(4, .p (bo (false)))], [], L0, []⟩ (And.intro (Bl b2_4) (trivial)) (by kernel_rfl) (hk false (by first | (rw [b2_4]; rfl) | simp [b2_4]))
  refine WX.ret ?_
  exact WC.outP (by rw [← Option.some.inj h]; kernel_rfl)
def riddleref01_put (a0 : api_Bits) (a1 : Int) : Option ((List Int)) :=
  (if (((decide (a1 ≥ 0))) && ((decide (a1 < a0.N)))) = true then (at_ a0.Words ((IntKind.i64.wrap (a1.tdiv 64)))).bind fun t4_2 => (if ¬ (IntKind.u64.wrap ((a1.tmod 64))) < 0 then some (a0.Words.set ((IntKind.i64.wrap (a1.tdiv 64))).toNat ((bits .or .u64 t4_2 ((IntKind.u64.wrap (1 * 2 ^ (min ((IntKind.u64.wrap ((a1.tmod 64)))).toNat IntKind.u64.bits))))))) else none) else some a0.Words)
theorem riddleref01_put_ok {a0 : api_Bits} {a1 : Int} {r : (List Int)} (h : riddleref01_put a0 a1 = some r) : AnsO Tryd.prog 97 [(1000, rW 58 a0.Words)] [.agg [.p (i6 (a0.N)), .own 1000], .p (i6 (a1))] [(1000, rW 58 r)] (.tup []) := by
  refine W_fnO [1000] Tryd.func97 rfl (by kernel_rfl) (by kernel_rfl) (by kernel_rfl) (by kernel_rfl) ?_
  intro X hro hn
  unfold riddleref01_put at h
  refine WC.rg hn [] [1, 2] [2, 1000] ⟨[(1, .p (i6 (a1))), (2, .ptr 2 0)], [(2, .box 25 [.p (i6 (a0.N)), .own 1000]), (1000, rW 58 a0.Words)], L0, []⟩ trivial ?_
  refine WX.seq ?_
  refine WC.via (α := Bool) (fun v2 => ⟨[(1, .p (i6 (a1))), (2, .ptr 2 0), (11, .p (bo (v2)))], [(2, .box 25 [.p (i6 (a0.N)), .own 1000]), (1000, rW 58 a0.Words)], L0, []⟩) ((((decide (a1 ≥ 0))) && ((decide (a1 < a0.N))))) (fun hk => ?_) ?_
  · rcases Bool.eq_false_or_eq_true ((decide (a1 ≥ 0))) with b2_2 | b2_2
    · exact WC.reg hn [(2, .val (.p (bo (true))))] [1, 2, 11] [2, 1000] ⟨[(1, .p (i6 (a1))), (2, .ptr 2 0), (11, .p (bo (((decide (a1 < a0.N))))))], [(2, .box 25 [.p (i6 (a0.N)), .own 1000]), (1000, rW 58 a0.Words)], L0, []⟩ (And.intro (Bl b2_2) (trivial)) (by kernel_rfl) (hk ((decide (a1 < a0.N))) (by first | (rw [b2_2]; rfl) | simp [b2_2]))
    · exact WC.reg hn [(2, .val (.p (bo (false))))] [1, 2, 11] [2, 1000] ⟨[(1, .p (i6 (a1))), (2, .ptr 2 0), (11, .p (bo (false)))], [(2, .box 25 [.p (i6 (a0.N)), .own 1000]), (1000, rW 58 a0.Words)], L0, []⟩ (And.intro (Bl b2_2) (trivial)) (by kernel_rfl) (hk false (by first | (rw [b2_2]; rfl) | simp [b2_2]))
  rcases if_or h with ⟨c3, h⟩ | ⟨c3, h⟩
  · refine WC.condT c3 (by kernel_rfl) ?_
    obtain ⟨t4_2, h4_1, h⟩ := bind_some h
    obtain ⟨c4_3, h⟩ := if_some h
    refine WC.r1 hn [(4, .val (.ptr 1000 (((IntKind.i64.wrap (a1.tdiv 64))).toNat * 1))), (5, .val (.p (u6 (t4_2)))), (9, .val (.p (u6 ((IntKind.u64.wrap (1 * 2 ^ (min ((IntKind.u64.wrap ((a1.tmod 64)))).toNat IntKind.u64.bits))))))), (11, .val (.ptr 1000 (((IntKind.i64.wrap (a1.tdiv 64))).toNat * 1))), (12, .sto 1000 (rW 58 (a0.Words.set ((IntKind.i64.wrap (a1.tdiv 64))).toNat ((bits .or .u64 t4_2 ((IntKind.u64.wrap (1 * 2 ^ (min ((IntKind.u64.wrap ((a1.tmod 64)))).toNat IntKind.u64.bits)))))))))] [] [1000] ⟨[], [(1000, rW 58 (a0.Words.set ((IntKind.i64.wrap (a1.tdiv 64))).toNat ((bits .or .u64 t4_2 ((IntKind.u64.wrap (1 * 2 ^ (min ((IntKind.u64.wrap ((a1.tmod 64)))).toNat IntKind.u64.bits))))))))], L0, []⟩ (And.intro (IxO 1000 1 h4_1) (And.intro (LdO0 Tryd.prog (eI .u64) 58 h4_1) (And.intro (Shl .u64 1 ((IntKind.u64.wrap ((a1.tmod 64)))) c4_3) (And.intro (IxO 1000 1 h4_1) (And.intro (StO0 (eI .u64) 1000 58 1 1 [u6 (((bits .or .u64 t4_2 ((IntKind.u64.wrap (1 * 2 ^ (min ((IntKind.u64.wrap ((a1.tmod 64)))).toNat IntKind.u64.bits)))))))] ((bits .or .u64 t4_2 ((IntKind.u64.wrap (1 * 2 ^ (min ((IntKind.u64.wrap ((a1.tmod 64)))).toNat IntKind.u64.bits)))))) h4_1 rfl rfl (by decide)) (trivial)))))) ?_
    exact WC.outOn (by rw [← Option.some.inj h]; kernel_rfl)
  · refine WC.condF c3 (by kernel_rfl) ?_
    refine WX.skip ?_
    exact WC.outOn (by rw [← Option.some.inj h]; kernel_rfl)
def riddleref01_Zero (a0 : Int) : Option (api_Bits) :=
  (if okMake 8 ((IntKind.i64.wrap (((IntKind.i64.wrap (a0 + 63))).tdiv 64))) then some ((api_Bits.mk a0 (List.replicate ((IntKind.i64.wrap (((IntKind.i64.wrap (a0 + 63))).tdiv 64))).toNat (0 : Int)))) else none)
theorem riddleref01_Zero_ok {a0 : Int} {r : api_Bits} (h : riddleref01_Zero a0 = some r) : AnsO Tryd.prog 100 [] [.p (i6 (a0))] [(7, rW 58 r.Words)] (.agg [.p (i6 (r.N)), .own 7]) := by
  refine W_fnO [7] Tryd.func100 rfl (by kernel_rfl) (by kernel_rfl) (by kernel_rfl) (by kernel_rfl) ?_
  intro X hro hn
  unfold riddleref01_Zero at h
  refine WC.rg hn [] [0, 2] [2] ⟨[(0, .p (i6 (a0))), (2, .ptr 2 0)], [(2, .box 25 [.p (i6 (0)), .p (.sl .nil 0 [])])], L0, []⟩ trivial ?_
  refine WX.seq ?_
  obtain ⟨c2_1, h⟩ := if_some h
  refine WC.r1 hn [(4, .ob (rW 58 (List.replicate ((IntKind.i64.wrap (((IntKind.i64.wrap (a0 + 63))).tdiv 64))).toNat (0 : Int))))] [2] [2, 7] ⟨[(2, .ptr 2 0)], [(2, .box 25 [.p (i6 (a0)), .own 7]), (7, rW 58 (List.replicate ((IntKind.i64.wrap (((IntKind.i64.wrap (a0 + 63))).tdiv 64))).toNat (0 : Int)))], L0, []⟩ (And.intro (Mk (eI .u64) [.int .u64 0] 0 58 8 ((IntKind.i64.wrap (((IntKind.i64.wrap (a0 + 63))).tdiv 64))) rfl rfl c2_1) (trivial)) ?_
  refine WX.ret ?_
  exact WC.outO (by rw [← Option.some.inj h]; kernel_rfl)
theorem riddleref01_Zero_okP {a0 : Int} {r : api_Bits} (h : riddleref01_Zero a0 = some r) : Ans Tryd.prog 100 [i6 (a0)] (pP4 r) := AnsO.ans (args := [i6 (a0)]) (riddleref01_Zero_ok h) (by kernel_rfl)
def riddleref01_New_l0 (a1 : (List Int)) (t5_2 : api_Bits) (J7 : List Int → Option (api_Bits × Int)) : Nat → (Int × List Int) → Option (api_Bits × Int)
  | 0, _ => none
  | k + 1, (x18_1_1, x18_1_2) => (if (decide (x18_1_1 < (a1.length : Int))) = true then (at_ a1 x18_1_1).bind fun t29_2 => (riddleref01_put ((api_Bits.mk t5_2.N x18_1_2)) t29_2).bind fun t29_4 => riddleref01_New_l0 a1 t5_2 J7 k ((IntKind.i64.wrap (x18_1_1 + 1)), t29_4) else J7 x18_1_2)
def riddleref01_New (k : Nat) (a0 : Int) (a1 : (List Int)) : Option (api_Bits × Int) :=
  (if (((decide (a0 < 0))) || ((decide (a0 > 8192)))) = true then some ((api_Bits.mk 0 (([] : List Int))), 1) else (riddleref01_Zero a0).bind fun t5_2 => jn (fun (v7 : List Int) => some ((api_Bits.mk t5_2.N v7), 0)) fun J7 => riddleref01_New_l0 a1 t5_2 J7 k (0, t5_2.Words))
theorem riddleref01_New_ok {k : Nat} {a0 : Int} {a1 : (List Int)} {r : api_Bits × Int} (h : riddleref01_New k a0 a1 = some r) : AnsO Tryd.prog 71 [] [.p (i6 (a0)), .p (sI a1)] [(16, rW 58 r.1.Words)] (.tup [.agg [.p (i6 (r.1.N)), .own 16], .p (i6 (r.2))]) := by
  refine W_fnO [16] Tryd.func71 rfl (by kernel_rfl) (by kernel_rfl) (by kernel_rfl) (by kernel_rfl) ?_
  intro X hro hn
  unfold riddleref01_New at h
  refine WC.rg hn [] [0, 1, 4] [4] ⟨[(0, .p (i6 (a0))), (1, .p (sI a1)), (4, .ptr 4 0)], [(4, .box 25 [.p (i6 (0)), .p (.sl .nil 0 [])])], L0, []⟩ trivial ?_
  refine WX.seq ?_
  refine WX.seq ?_
  refine WC.via (α := Bool) (fun v2 => ⟨[(0, .p (i6 (a0))), (1, .p (sI a1)), (4, .ptr 4 0), (13, .p (bo (v2)))], [(4, .box 25 [.p (i6 (0)), .p (.sl .nil 0 [])])], L0, []⟩) ((((decide (a0 < 0))) || ((decide (a0 > 8192))))) (fun hk => ?_) ?_
  · rcases Bool.eq_false_or_eq_true ((decide (a0 < 0))) with b2_2 | b2_2
    · exact WC.reg hn [(2, .val (.p (bo (true))))] [0, 1, 4, 13] [4] ⟨[(0, .p (i6 (a0))), (1, .p (sI a1)), (4, .ptr 4 0), (13, .p (bo (true)))], [(4, .box 25 [.p (i6 (0)), .p (.sl .nil 0 [])])], L0, []⟩ (And.intro (Bl b2_2) (trivial)) (by kernel_rfl) (hk true (by first | (rw [b2_2]; rfl) | simp [b2_2]))
    · exact WC.reg hn [(2, .val (.p (bo (false))))] [0, 1, 4, 13] [4] ⟨[(0, .p (i6 (a0))), (1, .p (sI a1)), (4, .ptr 4 0), (13, .p (bo (((decide (a0 > 8192))))))], [(4, .box 25 [.p (i6 (0)), .p (.sl .nil 0 [])])], L0, []⟩ (And.intro (Bl b2_2) (trivial)) (by kernel_rfl) (hk ((decide (a0 > 8192))) (by first | (rw [b2_2]; rfl) | simp [b2_2]))
  rcases if_or h with ⟨c3, h⟩ | ⟨c3, h⟩
  · refine WC.condT c3 (by kernel_rfl) ?_
    refine WC.rg hn [] [4, 5] [4] ⟨[(4, .ptr 4 0), (5, .p (i6 (1)))], [(4, .box 25 [.p (i6 (0)), .p (.sl .nil 0 [])])], L0, []⟩ trivial ?_
    refine WX.ret ?_
    refine WC.nil hn [] (some (4, 1)) 16 58 1 (by kernel_rfl) [4, 5] [4, 16] (st' := ⟨[(4, .ptr 4 0), (5, .p (i6 (1)))], [(4, .box 25 [.p (i6 (0)), .own 16]), (16, rW 58 (([] : List Int)))], L0, []⟩) (by kernel_rfl) ?_
    exact WC.outO (by rw [← Option.some.inj h]; kernel_rfl)
  · refine WC.condF c3 (by kernel_rfl) ?_
    refine WX.skip ?_
    refine WX.seq ?_
    obtain ⟨t5_2, h5_1, h⟩ := bind_some h
    refine WC.r1 hn [(1, .co [] [] [] [(16, rW 58 t5_2.Words)] (.agg [.p (i6 (t5_2.N)), .own 16]))] [1, 4, 6] [4, 6, 16] ⟨[(1, .p (sI a1)), (4, .ptr 4 0), (6, .ptr 6 0)], [(4, .box 25 [.p (i6 (0)), .p (.sl .nil 0 [])]), (6, .box 25 [.p (i6 (t5_2.N)), .own 16]), (16, rW 58 t5_2.Words)], L0, []⟩ (And.intro (And.intro ((riddleref01_Zero_ok h5_1).ren 7 16 (by kernel_rfl)) (trivial)) (trivial)) ?_
    refine WX.seq ?_
    refine WC.rg hn [] [1, 4, 6, 7] [4, 6, 16] ⟨[(1, .p (sI a1)), (4, .ptr 4 0), (6, .ptr 6 0), (7, .p (i6 (0)))], [(4, .box 25 [.p (i6 (0)), .p (.sl .nil 0 [])]), (6, .box 25 [.p (i6 (t5_2.N)), .own 16]), (16, rW 58 t5_2.Words)], L0, []⟩ trivial ?_
    obtain ⟨J7, eJ7, h⟩ := jn_some h
    try dsimp only at h
    refine WC.join (α := List Int) (fun v7 => ⟨[(4, .ptr 4 0), (6, .ptr 6 0)], [(4, .box 25 [.p (i6 (0)), .p (.sl .nil 0 [])]), (6, .box 25 [.p (i6 (t5_2.N)), .own 16]), (16, rW 58 v7)], L0, []⟩) (fun v7 => J7 v7 = some r) ?_ (fun hJ7 => ?_)
    · rintro y7_1 h
      rw [eJ7] at h
      try dsimp only at h
      refine WC.rg hn [] [4, 5] [4, 16] ⟨[(4, .ptr 4 0), (5, .p (i6 (0)))], [(4, .box 25 [.p (i6 (t5_2.N)), .own 16]), (16, rW 58 y7_1)], L0, []⟩ trivial ?_
      refine WX.ret ?_
      exact WC.outO (by rw [← Option.some.inj h]; kernel_rfl)
    · replace hJ7 := fun y7_1 => hJ7 y7_1
      refine WX.block ?_
      refine WC.loop (V := Int × List Int) (riddleref01_New_l0 a1 t5_2 J7) r (fun v18 => ⟨[(1, .p (sI a1)), (4, .ptr 4 0), (6, .ptr 6 0), (7, .p (i6 (v18.1)))], [(4, .box 25 [.p (i6 (0)), .p (.sl .nil 0 [])]), (6, .box 25 [.p (i6 (t5_2.N)), .own 16]), (16, rW 58 v18.2)], L0, []⟩) _ (0, t5_2.Words) h (fun _ => rfl) [1, 4, 6, 7] [4, 6, 16] (by kernel_rfl) ?_
      clear h; rintro k ⟨x18_1_1, x18_1_2⟩ h K18 hnext18 hexit18
      rw [riddleref01_New_l0] at h
      refine WX.seq ?_
      refine WC.rg hn [] [1, 4, 6, 7, 20] [4, 6, 16] ⟨[(1, .p (sI a1)), (4, .ptr 4 0), (6, .ptr 6 0), (7, .p (i6 (x18_1_1))), (20, .p (bo (((decide (x18_1_1 < (a1.length : Int)))))))], [(4, .box 25 [.p (i6 (0)), .p (.sl .nil 0 [])]), (6, .box 25 [.p (i6 (t5_2.N)), .own 16]), (16, rW 58 x18_1_2)], L0, []⟩ trivial ?_
      rcases if_or h with ⟨c28, h⟩ | ⟨c28, h⟩
      · refine WC.condT c28 (by kernel_rfl) ?_
        refine WX.skip ?_
        refine WX.seq ?_
        refine WX.block ?_
        obtain ⟨t29_2, h29_1, h⟩ := bind_some h
        obtain ⟨t29_4, h29_3, h⟩ := bind_some h
        refine WC.drw hn [(5, [])] [] [(3, .val (.p (.rop ((eI .i64).cells t29_2 ++ encL (eI .i64) (a1.drop (x18_1_1.toNat + 1)))))), (5, .co [] [16] [] [(16, rW 58 t29_4)] (.tup []))] [1, 4, 6, 7] [4, 6, 16] ⟨[(1, .p (sI a1)), (4, .ptr 4 0), (6, .ptr 6 0), (7, .p (i6 (x18_1_1)))], [(4, .box 25 [.p (i6 (0)), .p (.sl .nil 0 [])]), (6, .box 25 [.p (i6 (t5_2.N)), .own 16]), (16, rW 58 t29_4)], L0, []⟩ (And.intro (Ix (eI .i64) h29_1) (And.intro (And.intro ((riddleref01_put_ok h29_3).ren 1000 16 (by kernel_rfl)) (trivial)) (trivial))) (by kernel_rfl) (by kernel_rfl) (by kernel_rfl) (by kernel_rfl) ?_
        refine WX.popBlk ?_
        refine WC.r1 hn [] [1, 4, 6, 7] [4, 6, 16] ⟨[(1, .p (sI a1)), (4, .ptr 4 0), (6, .ptr 6 0), (7, .p (i6 (((IntKind.i64.wrap (x18_1_1 + 1))))))], [(4, .box 25 [.p (i6 (0)), .p (.sl .nil 0 [])]), (6, .box 25 [.p (i6 (t5_2.N)), .own 16]), (16, rW 58 t29_4)], L0, []⟩ trivial ?_
        exact WC.next [1, 4, 6, 7] [4, 6, 16] (by kernel_rfl) (hnext18 ((IntKind.i64.wrap (x18_1_1 + 1)), t29_4) h)
      · refine WC.condF c28 (by kernel_rfl) ?_
        refine WX.exit ?_
        refine WX.popCodeExit ?_
        refine WC.exit_nil (hexit18 _ _ (by simp) ?_)
        refine WX.popBlkHit ?_
        exact WC.keep [4, 6] [4, 6, 16] (by kernel_rfl) (hJ7 x18_1_2 h)
theorem riddleref01_New_okP {k : Nat} {a0 : Int} {a1 : (List Int)} {r : api_Bits × Int} (h : riddleref01_New k a0 a1 = some r) : Ans Tryd.prog 71 [i6 (a0), sI a1] (.tup [pP4 r.1, i6 (r.2)]) := AnsO.ans (args := [i6 (a0), sI a1]) (riddleref01_New_ok h) (by kernel_rfl)
def riddleref10_none (k : Nat) (a0 : Int) : Option (api_Bits) :=
  (riddleref01_New k a0 ([])).bind fun t2_2 => some t2_2.1
theorem riddleref10_none_ok {k : Nat} {a0 : Int} {r : api_Bits} (h : riddleref10_none k a0 = some r) : AnsO Tryd.prog 55 [] [.p (i6 (a0))] [(7, rW 58 r.Words)] (.agg [.p (i6 (r.N)), .own 7]) := by
  refine W_fnO [7] Tryd.func55 rfl (by kernel_rfl) (by kernel_rfl) (by kernel_rfl) (by kernel_rfl) ?_
  intro X hro hn
  unfold riddleref10_none at h
  refine WC.rg hn [] [0, 2] [2] ⟨[(0, .p (i6 (a0))), (2, .ptr 2 0)], [(2, .box 25 [.p (i6 (0)), .p (.sl .nil 0 [])])], L0, []⟩ trivial ?_
  refine WX.seq ?_
  obtain ⟨t2_2, h2_1, h⟩ := bind_some h
  refine WC.r1 hn [(1, .co [] [] [] [(7, rW 58 t2_2.1.Words)] (.tup [.agg [.p (i6 (t2_2.1.N)), .own 7], .p (i6 (t2_2.2))]))] [2, 3] [2, 3, 7] ⟨[(2, .ptr 2 0), (3, .ptr 3 0)], [(2, .box 25 [.p (i6 (0)), .p (.sl .nil 0 [])]), (3, .box 25 [.p (i6 (t2_2.1.N)), .own 7]), (7, rW 58 t2_2.1.Words)], L0, []⟩ (And.intro (And.intro ((riddleref01_New_ok h2_1).ren 16 7 (by kernel_rfl)) (trivial)) (trivial)) ?_
  refine WC.rg hn [] [2] [2, 7] ⟨[(2, .ptr 2 0)], [(2, .box 25 [.p (i6 (t2_2.1.N)), .own 7]), (7, rW 58 t2_2.1.Words)], L0, []⟩ trivial ?_
  refine WX.ret ?_
  exact WC.outO (by rw [← Option.some.inj h]; kernel_rfl)
theorem riddleref10_none_okP {k : Nat} {a0 : Int} {r : api_Bits} (h : riddleref10_none k a0 = some r) : Ans Tryd.prog 55 [i6 (a0)] (pP4 r) := AnsO.ans (args := [i6 (a0)]) (riddleref10_none_ok h) (by kernel_rfl)
def riddleref01_in (a0 : (List Int)) (a1 : Int) : Option (Bool) :=
  (at_ a0 ((IntKind.i64.wrap (a1.tdiv 64)))).bind fun t2_2 => (if ¬ (IntKind.u64.wrap ((a1.tmod 64))) < 0 then some (((bits .and .u64 ((t2_2.fdiv (2 ^ (min ((IntKind.u64.wrap ((a1.tmod 64)))).toNat IntKind.u64.bits)))) 1) == 1)) else none)
theorem riddleref01_in_ok {a0 : (List Int)} {a1 : Int} {r : Bool} (h : riddleref01_in a0 a1 = some r) : Ans Tryd.prog 95 [sW a0, i6 (a1)] (bo (r)) := by
  refine W_fn Tryd.func95 rfl (by kernel_rfl) (by kernel_rfl) ?_
  intro X hro hn
  unfold riddleref01_in at h
  refine WC.rg hn [] [0, 1] [] ⟨[(0, .p (sW a0)), (1, .p (i6 (a1)))], [], L0, []⟩ trivial ?_
  refine WX.seq ?_
  obtain ⟨t2_2, h2_1, h⟩ := bind_some h
  obtain ⟨c2_3, h⟩ := if_some h
  refine WC.r1 hn [(3, .val (.p (.rop ((eI .u64).cells t2_2 ++ encL (eI .u64) (a0.drop (((IntKind.i64.wrap (a1.tdiv 64))).toNat + 1)))))), (8, .val (.p (u6 ((t2_2.fdiv (2 ^ (min ((IntKind.u64.wrap ((a1.tmod 64)))).toNat IntKind.u64.bits)))))))] [4] [] ⟨[(4, .p (bo ((((bits .and .u64 ((t2_2.fdiv (2 ^ (min ((IntKind.u64.wrap ((a1.tmod 64)))).toNat IntKind.u64.bits)))) 1) == 1)))))], [], L0, []⟩ (And.intro (Ix (eI .u64) h2_1) (And.intro (Shr .u64 t2_2 ((IntKind.u64.wrap ((a1.tmod 64)))) c2_3) (trivial))) ?_
  refine WX.ret ?_
  exact WC.outP (by rw [← Option.some.inj h]; kernel_rfl)
def riddleref01_Check_l0 (a0 : api_Bits) (J6 : Unit → Option (Int)) : Nat → Int → Option (Int)
  | 0, _ => none
  | k + 1, x21_1_1 => (if (decide (x21_1_1 < (IntKind.i64.wrap (64 * (a0.Words.length : Int))))) = true then (riddleref01_in a0.Words x21_1_1).bind fun t36_2 => (if t36_2 = true then some 10 else riddleref01_Check_l0 a0 J6 k ((IntKind.i64.wrap (x21_1_1 + 1)))) else J6 ())
def riddleref01_Check (k : Nat) (a0 : api_Bits) : Option (Int) :=
  (if (((decide (a0.N < 0))) || ((((decide (a0.N > 8192))) || (((a0.Words.length : Int) != (IntKind.i64.wrap (((IntKind.i64.wrap (a0.N + 63))).tdiv 64))))))) = true then some 10 else jn (fun (v6 : Unit) => some 0) fun J6 => riddleref01_Check_l0 a0 J6 k a0.N)
theorem riddleref01_Check_ok {k : Nat} {a0 : api_Bits} {r : Int} (h : riddleref01_Check k a0 = some r) : Ans Tryd.prog 88 [pP4 a0] (i6 (r)) := by
  refine W_fn Tryd.func88 rfl (by kernel_rfl) (by kernel_rfl) ?_
  intro X hro hn
  unfold riddleref01_Check at h
  refine WC.rg hn [] [1] [1] ⟨[(1, .ptr 1 0)], [(1, .box 25 (vV4 a0))], L0, []⟩ trivial ?_
  refine WX.seq ?_
  refine WX.seq ?_
  refine WC.via (α := Bool) (fun v2 => ⟨[(1, .ptr 1 0), (21, .p (bo (v2)))], [(1, .box 25 (vV4 a0))], L0, []⟩) ((((decide (a0.N < 0))) || ((((decide (a0.N > 8192))) || (((a0.Words.length : Int) != (IntKind.i64.wrap (((IntKind.i64.wrap (a0.N + 63))).tdiv 64)))))))) (fun hk => ?_) ?_
  · rcases Bool.eq_false_or_eq_true ((decide (a0.N < 0))) with b2_3 | b2_3
    · exact WC.reg hn [(3, .val (.p (bo (true))))] [1, 21] [1] ⟨[(1, .ptr 1 0), (21, .p (bo (true)))], [(1, .box 25 (vV4 a0))], L0, []⟩ (And.intro (Bl b2_3) (trivial)) (by kernel_rfl) (hk true (by first | (rw [b2_3]; rfl) | simp [b2_3]))
    · rcases Bool.eq_false_or_eq_true ((decide (a0.N > 8192))) with b2_8 | b2_8
      · exact WC.reg hn [(3, .val (.p (bo (false)))), (8, .val (.p (bo (true))))] [1, 21] [1] ⟨[(1, .ptr 1 0), (21, .p (bo (true)))], [(1, .box 25 (vV4 a0))], L0, []⟩ (And.intro (Bl b2_3) (And.intro (Bl b2_8) (trivial))) (by kernel_rfl) (hk true (by first | (rw [b2_3, b2_8]; rfl) | simp [b2_3, b2_8]))
      · exact WC.reg hn [(3, .val (.p (bo (false)))), (8, .val (.p (bo (false))))] [1, 21] [1] ⟨[(1, .ptr 1 0), (21, .p (bo ((((a0.Words.length : Int) != (IntKind.i64.wrap (((IntKind.i64.wrap (a0.N + 63))).tdiv 64)))))))], [(1, .box 25 (vV4 a0))], L0, []⟩ (And.intro (Bl b2_3) (And.intro (Bl b2_8) (trivial))) (by kernel_rfl) (hk (((a0.Words.length : Int) != (IntKind.i64.wrap (((IntKind.i64.wrap (a0.N + 63))).tdiv 64)))) (by first | (rw [b2_3, b2_8]; rfl) | simp [b2_3, b2_8]))
  rcases if_or h with ⟨c3, h⟩ | ⟨c3, h⟩
  · refine WC.condT c3 (by kernel_rfl) ?_
    refine WC.rg hn [] [2] [] ⟨[(2, .p (i6 (10)))], [], L0, []⟩ trivial ?_
    refine WX.ret ?_
    exact WC.outP (by rw [← Option.some.inj h]; kernel_rfl)
  · refine WC.condF c3 (by kernel_rfl) ?_
    refine WX.skip ?_
    refine WX.seq ?_
    refine WC.rg hn [] [1, 3] [1] ⟨[(1, .ptr 1 0), (3, .p (i6 (a0.N)))], [(1, .box 25 (vV4 a0))], L0, []⟩ trivial ?_
    obtain ⟨J6, eJ6, h⟩ := jn_some h
    try dsimp only at h
    refine WC.join (α := Unit) (fun v6 => ⟨[], [], L0, []⟩) (fun v6 => J6 v6 = some r) ?_ (fun hJ6 => ?_)
    · rintro _ h
      rw [eJ6] at h
      try dsimp only at h
      refine WC.rg hn [] [2] [] ⟨[(2, .p (i6 (0)))], [], L0, []⟩ trivial ?_
      refine WX.ret ?_
      exact WC.outP (by rw [← Option.some.inj h]; kernel_rfl)
    · skip
      refine WX.block ?_
      refine WC.loop (V := Int) (riddleref01_Check_l0 a0 J6) r (fun v21 => ⟨[(1, .ptr 1 0), (3, .p (i6 (v21)))], [(1, .box 25 (vV4 a0))], L0, []⟩) _ a0.N h (fun _ => rfl) [1, 3] [1] (by kernel_rfl) ?_
      clear h; rintro k x21_1_1 h K21 hnext21 hexit21
      rw [riddleref01_Check_l0] at h
      refine WX.seq ?_
      refine WC.rg hn [] [1, 3, 29] [1] ⟨[(1, .ptr 1 0), (3, .p (i6 (x21_1_1))), (29, .p (bo (((decide (x21_1_1 < (IntKind.i64.wrap (64 * (a0.Words.length : Int)))))))))], [(1, .box 25 (vV4 a0))], L0, []⟩ trivial ?_
      rcases if_or h with ⟨c35, h⟩ | ⟨c35, h⟩
      · refine WC.condT c35 (by kernel_rfl) ?_
        refine WX.skip ?_
        refine WX.seq ?_
        refine WX.block ?_
        refine WX.seq ?_
        obtain ⟨t36_2, h36_1, h⟩ := bind_some h
        refine WC.r1 hn [(3, .resP (bo (t36_2)))] [1, 3, 35] [1] ⟨[(1, .ptr 1 0), (3, .p (i6 (x21_1_1))), (35, .p (bo (t36_2)))], [(1, .box 25 (vV4 a0))], L0, []⟩ (And.intro ((riddleref01_in_ok h36_1)) (trivial)) ?_
        rcases if_or h with ⟨c37, h⟩ | ⟨c37, h⟩
        · refine WC.condT c37 (by kernel_rfl) ?_
          refine WC.rg hn [] [2] [] ⟨[(2, .p (i6 (10)))], [], L0, []⟩ trivial ?_
          refine WX.ret ?_
          refine WC.ret_all (hexit21 _ _ (by simp) ?_)
          exact WC.outP (by rw [← Option.some.inj h]; kernel_rfl)
        · refine WC.condF c37 (by kernel_rfl) ?_
          refine WX.skip ?_
          refine WX.popBlk ?_
          refine WC.r1 hn [] [1, 3] [1] ⟨[(1, .ptr 1 0), (3, .p (i6 (((IntKind.i64.wrap (x21_1_1 + 1))))))], [(1, .box 25 (vV4 a0))], L0, []⟩ trivial ?_
          exact WC.next [1, 3] [1] (by kernel_rfl) (hnext21 ((IntKind.i64.wrap (x21_1_1 + 1))) h)
      · refine WC.condF c35 (by kernel_rfl) ?_
        refine WX.exit ?_
        refine WX.popCodeExit ?_
        refine WC.exit_nil (hexit21 _ _ (by simp) ?_)
        refine WX.popBlkHit ?_
        exact WC.keep [] [] (by kernel_rfl) (hJ6 () h)
def riddleref01_may (k : Nat) (a0 : api_Bits) : Option (api_Bits) :=
  (riddleref01_Check k a0).bind fun t2_2 => (if (t2_2 != 0) = true then (riddleref01_Zero 0).bind fun t4_2 => some t4_2 else some a0)
theorem riddleref01_may_ok {k : Nat} {a0 : api_Bits} {r : api_Bits} (h : riddleref01_may k a0 = some r) : Ans Tryd.prog 68 [pP4 a0] (pP4 r) := by
  refine W_fn Tryd.func68 rfl (by kernel_rfl) (by kernel_rfl) ?_
  intro X hro hn
  unfold riddleref01_may at h
  refine WC.rg hn [] [1, 2] [1, 2] ⟨[(1, .ptr 1 0), (2, .ptr 2 0)], [(1, .box 25 (vV4 a0)), (2, .box 25 [.p (i6 (0)), .p (.sl .nil 0 [])])], L0, []⟩ trivial ?_
  refine WX.seq ?_
  refine WX.seq ?_
  obtain ⟨t2_2, h2_1, h⟩ := bind_some h
  refine WC.r1 hn [(1, .resP (i6 (t2_2)))] [1, 2, 5] [1, 2] ⟨[(1, .ptr 1 0), (2, .ptr 2 0), (5, .p (bo (((t2_2 != 0)))))], [(1, .box 25 (vV4 a0)), (2, .box 25 [.p (i6 (0)), .p (.sl .nil 0 [])])], L0, []⟩ (And.intro ((riddleref01_Check_ok h2_1)) (trivial)) ?_
  rcases if_or h with ⟨c3, h⟩ | ⟨c3, h⟩
  · refine WC.condT c3 (by kernel_rfl) ?_
    refine WX.seq ?_
    obtain ⟨t4_2, h4_1, h⟩ := bind_some h
    refine WC.r1 hn [(0, .co [] [] [] [(6, rW 58 t4_2.Words)] (.agg [.p (i6 (t4_2.N)), .own 6]))] [2] [2, 6] ⟨[(2, .ptr 2 0)], [(2, .box 25 [.p (i6 (t4_2.N)), .own 6]), (6, rW 58 t4_2.Words)], L0, []⟩ (And.intro (And.intro ((riddleref01_Zero_ok h4_1).ren 7 6 (by kernel_rfl)) (trivial)) (trivial)) ?_
    refine WX.ret ?_
    exact WC.outP (by rw [← Option.some.inj h]; kernel_rfl)
  · refine WC.condF c3 (by kernel_rfl) ?_
    refine WX.skip ?_
    refine WC.rg hn [] [2] [2] ⟨[(2, .ptr 2 0)], [(2, .box 25 (vV4 a0))], L0, []⟩ trivial ?_
    refine WX.ret ?_
    exact WC.outP (by rw [← Option.some.inj h]; kernel_rfl)
def riddleref01_Has (k : Nat) (a0 : api_Bits) (a1 : Int) : Option (Bool) :=
  (riddleref01_may k a0).bind fun t2_2 => ((if (decide (a1 ≥ 0)) = true then (if (decide (a1 < t2_2.N)) = true then (riddleref01_in t2_2.Words a1).bind fun t3_2 => some t3_2 else some false) else some false) : Option (Bool)).bind fun v3 => some v3
theorem riddleref01_Has_ok {k : Nat} {a0 : api_Bits} {a1 : Int} {r : Bool} (h : riddleref01_Has k a0 a1 = some r) : Ans Tryd.prog 56 [pP4 a0, i6 (a1)] (bo (r)) := by
  refine W_fn Tryd.func56 rfl (by kernel_rfl) (by kernel_rfl) ?_
  intro X hro hn
  unfold riddleref01_Has at h
  refine WC.rg hn [] [1, 2] [2] ⟨[(1, .p (i6 (a1))), (2, .ptr 2 0)], [(2, .box 25 (vV4 a0))], L0, []⟩ trivial ?_
  refine WX.seq ?_
  obtain ⟨t2_2, h2_1, h⟩ := bind_some h
  refine WC.r1 hn [(1, .resP (pP4 t2_2))] [1, 2] [2] ⟨[(1, .p (i6 (a1))), (2, .ptr 2 0)], [(2, .box 25 (vV4 t2_2))], L0, []⟩ (And.intro ((riddleref01_may_ok h2_1)) (trivial)) ?_
  refine WX.seq ?_
  obtain ⟨m3_1, g3, h⟩ := bind_some h
  refine WC.via (α := Bool) (fun v3 => ⟨[(4, .p (bo (v3)))], [], L0, []⟩) m3_1 (fun hk => ?_) ?_
  · rcases if_or g3 with ⟨b3_2, g3⟩ | ⟨b3_2, g3⟩
    · rcases if_or g3 with ⟨b3_8, g3⟩ | ⟨b3_8, g3⟩
      · obtain ⟨t3_2, h3_1, g3⟩ := bind_some g3
        exact WC.reg hn [(2, .val (.p (bo (true)))), (8, .val (.p (bo (true)))), (12, .resP (bo (t3_2)))] [4] [] ⟨[(4, .p (bo (t3_2)))], [], L0, []⟩ (And.intro (Bl b3_2) (And.intro (Bl b3_8) (And.intro ((riddleref01_in_ok h3_1)) (trivial)))) (by kernel_rfl) (hk t3_2 (Option.some.inj g3))
      · exact WC.reg hn [(2, .val (.p (bo (true)))), (8, .val (.p (bo (false))))] [4] [] ⟨[(4, .p (bo (false)))], [], L0, []⟩ (And.intro (Bl b3_2) (And.intro (Bl b3_8) (trivial))) (by kernel_rfl) (hk false (Option.some.inj g3))
    · exact WC.reg hn [(2, .val (.p (bo (false))))] [4] [] ⟨[(4, .p (bo (false)))], [], L0, []⟩ (And.intro (Bl b3_2) (trivial)) (by kernel_rfl) (hk false (Option.some.inj g3))
  refine WX.ret ?_
  exact WC.outP (by rw [← Option.some.inj h]; kernel_rfl)
def riddleref02_Has (a0 : (Arr4 Int)) (a1 : Int) : Option (Bool) :=
  (if 0 ≤ (IntKind.u8.wrap (a1.tdiv 64)) ∧ (IntKind.u8.wrap (a1.tdiv 64)) < 4 then (if ¬ (a1.tmod 64) < 0 then some (((((((get4 a0.a0 a0.a1 a0.a2 a0.a3 ((IntKind.u8.wrap (a1.tdiv 64))))).fdiv (2 ^ (min ((a1.tmod 64)).toNat IntKind.u64.bits)))).tmod 2) == 1)) else none) else none)
theorem riddleref02_Has_ok {a0 : (Arr4 Int)} {a1 : Int} {r : Bool} (h : riddleref02_Has a0 a1 = some r) : Ans Tryd.prog 57 [.agg [u6 (a0.a0), u6 (a0.a1), u6 (a0.a2), u6 (a0.a3)], .s (.int .u8 a1)] (bo (r)) := by
  refine W_fn Tryd.func57 rfl (by kernel_rfl) (by kernel_rfl) ?_
  intro X hro hn
  unfold riddleref02_Has at h
  refine WC.rg hn [] [1, 2] [2] ⟨[(1, .p (.s (.int .u8 a1))), (2, .ptr 2 0)], [(2, .box 60 [.p (u6 (a0.a0)), .p (u6 (a0.a1)), .p (u6 (a0.a2)), .p (u6 (a0.a3))])], L0, []⟩ trivial ?_
  refine WX.seq ?_
  obtain ⟨c2_1, h⟩ := if_some h
  obtain ⟨c2_2, h⟩ := if_some h
  refine WC.r1 hn [(2, .val (.ptr 2 (0 + ((IntKind.u8.wrap (a1.tdiv 64))).toNat * 1))), (3, .val (.p (u6 (((get4 a0.a0 a0.a1 a0.a2 a0.a3 ((IntKind.u8.wrap (a1.tdiv 64))))))))), (6, .val (.p (u6 ((((get4 a0.a0 a0.a1 a0.a2 a0.a3 ((IntKind.u8.wrap (a1.tdiv 64))))).fdiv (2 ^ (min ((a1.tmod 64)).toNat IntKind.u64.bits)))))))] [4] [] ⟨[(4, .p (bo ((((((((get4 a0.a0 a0.a1 a0.a2 a0.a3 ((IntKind.u8.wrap (a1.tdiv 64))))).fdiv (2 ^ (min ((a1.tmod 64)).toNat IntKind.u64.bits)))).tmod 2) == 1)))))], [], L0, []⟩ (And.intro (IxA4 2 0 ((IntKind.u8.wrap (a1.tdiv 64))) c2_1) (And.intro (LdA4 Tryd.prog 58 [] .u64 a0.a0 a0.a1 a0.a2 a0.a3 [] ((IntKind.u8.wrap (a1.tdiv 64))) c2_1 rfl rfl) (And.intro (Shr .u64 ((get4 a0.a0 a0.a1 a0.a2 a0.a3 ((IntKind.u8.wrap (a1.tdiv 64))))) ((a1.tmod 64)) c2_2) (trivial)))) ?_
  refine WX.ret ?_
  exact WC.outP (by rw [← Option.some.inj h]; kernel_rfl)
def riddleref01_Copy (k : Nat) (a0 : api_Bits) : Option (api_Bits) :=
  (riddleref01_may k a0).bind fun t2_2 => (if okApp 8 (([] : List Int).length + t2_2.Words.length) then some ((api_Bits.mk t2_2.N (([] : List Int) ++ t2_2.Words))) else none)
theorem riddleref01_Copy_ok {k : Nat} {a0 : api_Bits} {r : api_Bits} (h : riddleref01_Copy k a0 = some r) : AnsO Tryd.prog 96 [] [.p (pP4 a0)] [(11, rW 58 r.Words)] (.agg [.p (i6 (r.N)), .own 11]) := by
  refine W_fnO [11] Tryd.func96 rfl (by kernel_rfl) (by kernel_rfl) (by kernel_rfl) (by kernel_rfl) ?_
  intro X hro hn
  unfold riddleref01_Copy at h
  refine WC.rg hn [] [1, 2] [1, 2] ⟨[(1, .ptr 1 0), (2, .ptr 2 0)], [(1, .box 25 (vV4 a0)), (2, .box 25 [.p (i6 (0)), .p (.sl .nil 0 [])])], L0, []⟩ trivial ?_
  refine WX.seq ?_
  obtain ⟨t2_2, h2_1, h⟩ := bind_some h
  refine WC.r1 hn [(1, .resP (pP4 t2_2))] [1, 2] [1, 2] ⟨[(1, .ptr 1 0), (2, .ptr 2 0)], [(1, .box 25 (vV4 t2_2)), (2, .box 25 [.p (i6 (0)), .p (.sl .nil 0 [])])], L0, []⟩ (And.intro ((riddleref01_may_ok h2_1)) (trivial)) ?_
  refine WC.rg hn [] [1, 2, 3] [1, 2] ⟨[(1, .ptr 1 0), (2, .ptr 2 0), (3, .p (.sl .nil 0 []))], [(1, .box 25 (vV4 t2_2)), (2, .box 25 [.p (i6 (0)), .p (.sl .nil 0 [])])], L0, []⟩ trivial ?_
  refine WX.seq ?_
  obtain ⟨c4_1, h⟩ := if_some h
  refine WC.drw hn [(5, [0, 1]), (7, [])] [11] [(5, .app none (rW 58 (([] : List Int) ++ t2_2.Words)))] [2] [2, 11] ⟨[(2, .ptr 2 0)], [(2, .box 25 [.p (i6 (t2_2.N)), .own 11]), (11, rW 58 (([] : List Int) ++ t2_2.Words))], L0, []⟩ (And.intro (ApS (eI .u64) none 58 8 ([] : List Int) t2_2.Words c4_1) (And.intro (And.intro (Eq.refl (some (.ptr 1 0 : AV))) (And.intro (Eq.refl (some (.p (i6 (t2_2.N)) : AV))) (trivial))) (trivial))) (by kernel_rfl) (by kernel_rfl) (by kernel_rfl) (by kernel_rfl) ?_
  refine WX.ret ?_
  exact WC.outO (by rw [← Option.some.inj h]; kernel_rfl)
theorem riddleref01_Copy_okP {k : Nat} {a0 : api_Bits} {r : api_Bits} (h : riddleref01_Copy k a0 = some r) : Ans Tryd.prog 96 [pP4 a0] (pP4 r) := AnsO.ans (args := [pP4 a0]) (riddleref01_Copy_ok h) (by kernel_rfl)
def riddleref01_With (k : Nat) (a0 : api_Bits) (a1 : Int) : Option (api_Bits) :=
  (riddleref01_Copy k a0).bind fun t2_2 => (riddleref01_put t2_2 a1).bind fun t3_2 => some ((api_Bits.mk t2_2.N t3_2))
theorem riddleref01_With_ok {k : Nat} {a0 : api_Bits} {a1 : Int} {r : api_Bits} (h : riddleref01_With k a0 a1 = some r) : AnsO Tryd.prog 58 [] [.p (pP4 a0), .p (i6 (a1))] [(7, rW 58 r.Words)] (.agg [.p (i6 (r.N)), .own 7]) := by
  refine W_fnO [7] Tryd.func58 rfl (by kernel_rfl) (by kernel_rfl) (by kernel_rfl) (by kernel_rfl) ?_
  intro X hro hn
  unfold riddleref01_With at h
  refine WC.rg hn [] [1, 2, 4] [2, 4] ⟨[(1, .p (i6 (a1))), (2, .ptr 2 0), (4, .ptr 4 0)], [(2, .box 25 (vV4 a0)), (4, .box 25 [.p (i6 (0)), .p (.sl .nil 0 [])])], L0, []⟩ trivial ?_
  refine WX.seq ?_
  obtain ⟨t2_2, h2_1, h⟩ := bind_some h
  refine WC.r1 hn [(1, .co [] [] [] [(7, rW 58 t2_2.Words)] (.agg [.p (i6 (t2_2.N)), .own 7]))] [1, 4, 5] [4, 5, 7] ⟨[(1, .p (i6 (a1))), (4, .ptr 4 0), (5, .ptr 5 0)], [(4, .box 25 [.p (i6 (0)), .p (.sl .nil 0 [])]), (5, .box 25 [.p (i6 (t2_2.N)), .own 7]), (7, rW 58 t2_2.Words)], L0, []⟩ (And.intro (And.intro ((riddleref01_Copy_ok h2_1).ren 11 7 (by kernel_rfl)) (trivial)) (trivial)) ?_
  refine WX.seq ?_
  obtain ⟨t3_2, h3_1, h⟩ := bind_some h
  refine WC.r1 hn [(2, .co [] [7] [] [(7, rW 58 t3_2)] (.tup []))] [4, 5] [4, 5, 7] ⟨[(4, .ptr 4 0), (5, .ptr 5 0)], [(4, .box 25 [.p (i6 (0)), .p (.sl .nil 0 [])]), (5, .box 25 [.p (i6 (t2_2.N)), .own 7]), (7, rW 58 t3_2)], L0, []⟩ (And.intro (And.intro ((riddleref01_put_ok h3_1).ren 1000 7 (by kernel_rfl)) (trivial)) (trivial)) ?_
  refine WC.rg hn [] [4] [4, 7] ⟨[(4, .ptr 4 0)], [(4, .box 25 [.p (i6 (t2_2.N)), .own 7]), (7, rW 58 t3_2)], L0, []⟩ trivial ?_
  refine WX.ret ?_
  exact WC.outO (by rw [← Option.some.inj h]; kernel_rfl)
theorem riddleref01_With_okP {k : Nat} {a0 : api_Bits} {a1 : Int} {r : api_Bits} (h : riddleref01_With k a0 a1 = some r) : Ans Tryd.prog 58 [pP4 a0, i6 (a1)] (pP4 r) := AnsO.ans (args := [pP4 a0, i6 (a1)]) (riddleref01_With_ok h) (by kernel_rfl)
def riddleref01_Or_l0 (a1 : api_Bits) (t2_2 : api_Bits) (J4 : List Int → Option (api_Bits)) : Nat → (Int × List Int) → Option (api_Bits)
  | 0, _ => none
  | k + 1, (x21_1_1, x21_1_2) => (if (decide (x21_1_1 < t2_2.N)) = true then (riddleref01_Has k a1 x21_1_1).bind fun t38_2 => (if t38_2 = true then (riddleref01_put ((api_Bits.mk t2_2.N x21_1_2)) x21_1_1).bind fun t40_2 => riddleref01_Or_l0 a1 t2_2 J4 k ((IntKind.i64.wrap (x21_1_1 + 1)), t40_2) else riddleref01_Or_l0 a1 t2_2 J4 k ((IntKind.i64.wrap (x21_1_1 + 1)), x21_1_2)) else J4 x21_1_2)
def riddleref01_Or (k : Nat) (a0 : api_Bits) (a1 : api_Bits) : Option (api_Bits) :=
  (riddleref01_Copy k a0).bind fun t2_2 => jn (fun (v4 : List Int) => some ((api_Bits.mk t2_2.N v4))) fun J4 => riddleref01_Or_l0 a1 t2_2 J4 k (0, t2_2.Words)
theorem riddleref01_Or_ok {k : Nat} {a0 : api_Bits} {a1 : api_Bits} {r : api_Bits} (h : riddleref01_Or k a0 a1 = some r) : AnsO Tryd.prog 59 [] [.p (pP4 a0), .p (pP4 a1)] [(8, rW 58 r.Words)] (.agg [.p (i6 (r.N)), .own 8]) := by
  refine W_fnO [8] Tryd.func59 rfl (by kernel_rfl) (by kernel_rfl) (by kernel_rfl) (by kernel_rfl) ?_
  intro X hro hn
  unfold riddleref01_Or at h
  refine WC.rg hn [] [2, 3, 4] [2, 3, 4] ⟨[(2, .ptr 2 0), (3, .ptr 3 0), (4, .ptr 4 0)], [(2, .box 25 (vV4 a0)), (3, .box 25 (vV4 a1)), (4, .box 25 [.p (i6 (0)), .p (.sl .nil 0 [])])], L0, []⟩ trivial ?_
  refine WX.seq ?_
  obtain ⟨t2_2, h2_1, h⟩ := bind_some h
  refine WC.r1 hn [(1, .co [] [] [] [(8, rW 58 t2_2.Words)] (.agg [.p (i6 (t2_2.N)), .own 8]))] [3, 4, 5] [3, 4, 5, 8] ⟨[(3, .ptr 3 0), (4, .ptr 4 0), (5, .ptr 5 0)], [(3, .box 25 (vV4 a1)), (4, .box 25 [.p (i6 (0)), .p (.sl .nil 0 [])]), (5, .box 25 [.p (i6 (t2_2.N)), .own 8]), (8, rW 58 t2_2.Words)], L0, []⟩ (And.intro (And.intro ((riddleref01_Copy_ok h2_1).ren 11 8 (by kernel_rfl)) (trivial)) (trivial)) ?_
  refine WX.seq ?_
  refine WC.rg hn [] [3, 4, 5, 6] [3, 4, 5, 8] ⟨[(3, .ptr 3 0), (4, .ptr 4 0), (5, .ptr 5 0), (6, .p (i6 (0)))], [(3, .box 25 (vV4 a1)), (4, .box 25 [.p (i6 (0)), .p (.sl .nil 0 [])]), (5, .box 25 [.p (i6 (t2_2.N)), .own 8]), (8, rW 58 t2_2.Words)], L0, []⟩ trivial ?_
  obtain ⟨J4, eJ4, h⟩ := jn_some h
  try dsimp only at h
  refine WC.join (α := List Int) (fun v4 => ⟨[(4, .ptr 4 0), (5, .ptr 5 0)], [(4, .box 25 [.p (i6 (0)), .p (.sl .nil 0 [])]), (5, .box 25 [.p (i6 (t2_2.N)), .own 8]), (8, rW 58 v4)], L0, []⟩) (fun v4 => J4 v4 = some r) ?_ (fun hJ4 => ?_)
  · rintro y4_1 h
    rw [eJ4] at h
    try dsimp only at h
    refine WC.rg hn [] [4] [4, 8] ⟨[(4, .ptr 4 0)], [(4, .box 25 [.p (i6 (t2_2.N)), .own 8]), (8, rW 58 y4_1)], L0, []⟩ trivial ?_
    refine WX.ret ?_
    exact WC.outO (by rw [← Option.some.inj h]; kernel_rfl)
  · replace hJ4 := fun y4_1 => hJ4 y4_1
    refine WX.block ?_
    refine WC.loop (V := Int × List Int) (riddleref01_Or_l0 a1 t2_2 J4) r (fun v21 => ⟨[(3, .ptr 3 0), (4, .ptr 4 0), (5, .ptr 5 0), (6, .p (i6 (v21.1)))], [(3, .box 25 (vV4 a1)), (4, .box 25 [.p (i6 (0)), .p (.sl .nil 0 [])]), (5, .box 25 [.p (i6 (t2_2.N)), .own 8]), (8, rW 58 v21.2)], L0, []⟩) _ (0, t2_2.Words) h (fun _ => rfl) [3, 4, 5, 6] [3, 4, 5, 8] (by kernel_rfl) ?_
    clear h; rintro k ⟨x21_1_1, x21_1_2⟩ h K21 hnext21 hexit21
    rw [riddleref01_Or_l0] at h
    refine WX.seq ?_
    refine WC.rg hn [] [3, 4, 5, 6, 12] [3, 4, 5, 8] ⟨[(3, .ptr 3 0), (4, .ptr 4 0), (5, .ptr 5 0), (6, .p (i6 (x21_1_1))), (12, .p (bo (((decide (x21_1_1 < t2_2.N))))))], [(3, .box 25 (vV4 a1)), (4, .box 25 [.p (i6 (0)), .p (.sl .nil 0 [])]), (5, .box 25 [.p (i6 (t2_2.N)), .own 8]), (8, rW 58 x21_1_2)], L0, []⟩ trivial ?_
    rcases if_or h with ⟨c37, h⟩ | ⟨c37, h⟩
    · refine WC.condT c37 (by kernel_rfl) ?_
      refine WX.skip ?_
      refine WX.seq ?_
      refine WX.block ?_
      refine WX.seq ?_
      obtain ⟨t38_2, h38_1, h⟩ := bind_some h
      refine WC.r1 hn [(2, .resP (bo (t38_2)))] [3, 4, 5, 6, 17] [3, 4, 5, 8] ⟨[(3, .ptr 3 0), (4, .ptr 4 0), (5, .ptr 5 0), (6, .p (i6 (x21_1_1))), (17, .p (bo (t38_2)))], [(3, .box 25 (vV4 a1)), (4, .box 25 [.p (i6 (0)), .p (.sl .nil 0 [])]), (5, .box 25 [.p (i6 (t2_2.N)), .own 8]), (8, rW 58 x21_1_2)], L0, []⟩ (And.intro ((riddleref01_Has_ok h38_1)) (trivial)) ?_
      rcases if_or h with ⟨c39, h⟩ | ⟨c39, h⟩
      · refine WC.condT c39 (by kernel_rfl) ?_
        obtain ⟨t40_2, h40_1, h⟩ := bind_some h
        refine WC.r1 hn [(2, .co [] [8] [] [(8, rW 58 t40_2)] (.tup []))] [3, 4, 5, 6] [3, 4, 5, 8] ⟨[(3, .ptr 3 0), (4, .ptr 4 0), (5, .ptr 5 0), (6, .p (i6 (x21_1_1)))], [(3, .box 25 (vV4 a1)), (4, .box 25 [.p (i6 (0)), .p (.sl .nil 0 [])]), (5, .box 25 [.p (i6 (t2_2.N)), .own 8]), (8, rW 58 t40_2)], L0, []⟩ (And.intro (And.intro ((riddleref01_put_ok h40_1).ren 1000 8 (by kernel_rfl)) (trivial)) (trivial)) ?_
        refine WX.popBlk ?_
        refine WC.r1 hn [] [3, 4, 5, 6] [3, 4, 5, 8] ⟨[(3, .ptr 3 0), (4, .ptr 4 0), (5, .ptr 5 0), (6, .p (i6 (((IntKind.i64.wrap (x21_1_1 + 1))))))], [(3, .box 25 (vV4 a1)), (4, .box 25 [.p (i6 (0)), .p (.sl .nil 0 [])]), (5, .box 25 [.p (i6 (t2_2.N)), .own 8]), (8, rW 58 t40_2)], L0, []⟩ trivial ?_
        exact WC.next [3, 4, 5, 6] [3, 4, 5, 8] (by kernel_rfl) (hnext21 ((IntKind.i64.wrap (x21_1_1 + 1)), t40_2) h)
      · refine WC.condF c39 (by kernel_rfl) ?_
        refine WX.skip ?_
        refine WX.popBlk ?_
        refine WC.r1 hn [] [3, 4, 5, 6] [3, 4, 5, 8] ⟨[(3, .ptr 3 0), (4, .ptr 4 0), (5, .ptr 5 0), (6, .p (i6 (((IntKind.i64.wrap (x21_1_1 + 1))))))], [(3, .box 25 (vV4 a1)), (4, .box 25 [.p (i6 (0)), .p (.sl .nil 0 [])]), (5, .box 25 [.p (i6 (t2_2.N)), .own 8]), (8, rW 58 x21_1_2)], L0, []⟩ trivial ?_
        exact WC.next [3, 4, 5, 6] [3, 4, 5, 8] (by kernel_rfl) (hnext21 ((IntKind.i64.wrap (x21_1_1 + 1)), x21_1_2) h)
    · refine WC.condF c37 (by kernel_rfl) ?_
      refine WX.exit ?_
      refine WX.popCodeExit ?_
      refine WC.exit_nil (hexit21 _ _ (by simp) ?_)
      refine WX.popBlkHit ?_
      exact WC.keep [4, 5] [4, 5, 8] (by kernel_rfl) (hJ4 x21_1_2 h)
theorem riddleref01_Or_okP {k : Nat} {a0 : api_Bits} {a1 : api_Bits} {r : api_Bits} (h : riddleref01_Or k a0 a1 = some r) : Ans Tryd.prog 59 [pP4 a0, pP4 a1] (pP4 r) := AnsO.ans (args := [pP4 a0, pP4 a1]) (riddleref01_Or_ok h) (by kernel_rfl)
def riddleref10_meets_l0 (a0 : api_Bits) (a1 : api_Bits) (J3 : Unit → Option (Bool)) : Nat → Int → Option (Bool)
  | 0, _ => none
  | k + 1, x18_1_1 => (if (decide (x18_1_1 < a0.N)) = true then (riddleref01_Has k a0 x18_1_1).bind fun t33_2 => ((if t33_2 = true then (riddleref01_Has k a1 x18_1_1).bind fun t33_4 => some t33_4 else some false) : Option (Bool)).bind fun v33 => (if v33 = true then some true else riddleref10_meets_l0 a0 a1 J3 k ((IntKind.i64.wrap (x18_1_1 + 1)))) else J3 ())
def riddleref10_meets (k : Nat) (a0 : api_Bits) (a1 : api_Bits) : Option (Bool) :=
  jn (fun (v3 : Unit) => some false) fun J3 => riddleref10_meets_l0 a0 a1 J3 k 0
theorem riddleref10_meets_ok {k : Nat} {a0 : api_Bits} {a1 : api_Bits} {r : Bool} (h : riddleref10_meets k a0 a1 = some r) : Ans Tryd.prog 60 [pP4 a0, pP4 a1] (bo (r)) := by
  refine W_fn Tryd.func60 rfl (by kernel_rfl) (by kernel_rfl) ?_
  intro X hro hn
  unfold riddleref10_meets at h
  refine WC.rg hn [] [2, 3] [2, 3] ⟨[(2, .ptr 2 0), (3, .ptr 3 0)], [(2, .box 25 (vV4 a0)), (3, .box 25 (vV4 a1))], L0, []⟩ trivial ?_
  refine WX.seq ?_
  refine WC.rg hn [] [2, 3, 5] [2, 3] ⟨[(2, .ptr 2 0), (3, .ptr 3 0), (5, .p (i6 (0)))], [(2, .box 25 (vV4 a0)), (3, .box 25 (vV4 a1))], L0, []⟩ trivial ?_
  obtain ⟨J3, eJ3, h⟩ := jn_some h
  try dsimp only at h
  refine WC.join (α := Unit) (fun v3 => ⟨[], [], L0, []⟩) (fun v3 => J3 v3 = some r) ?_ (fun hJ3 => ?_)
  · rintro _ h
    rw [eJ3] at h
    try dsimp only at h
    refine WC.rg hn [] [4] [] ⟨[(4, .p (bo (false)))], [], L0, []⟩ trivial ?_
    refine WX.ret ?_
    exact WC.outP (by rw [← Option.some.inj h]; kernel_rfl)
  · skip
    refine WX.block ?_
    refine WC.loop (V := Int) (riddleref10_meets_l0 a0 a1 J3) r (fun v18 => ⟨[(2, .ptr 2 0), (3, .ptr 3 0), (5, .p (i6 (v18)))], [(2, .box 25 (vV4 a0)), (3, .box 25 (vV4 a1))], L0, []⟩) _ 0 h (fun _ => rfl) [2, 3, 5] [2, 3] (by kernel_rfl) ?_
    clear h; rintro k x18_1_1 h K18 hnext18 hexit18
    rw [riddleref10_meets_l0] at h
    refine WX.seq ?_
    refine WC.rg hn [] [2, 3, 5, 9] [2, 3] ⟨[(2, .ptr 2 0), (3, .ptr 3 0), (5, .p (i6 (x18_1_1))), (9, .p (bo (((decide (x18_1_1 < a0.N))))))], [(2, .box 25 (vV4 a0)), (3, .box 25 (vV4 a1))], L0, []⟩ trivial ?_
    rcases if_or h with ⟨c32, h⟩ | ⟨c32, h⟩
    · refine WC.condT c32 (by kernel_rfl) ?_
      refine WX.skip ?_
      refine WX.seq ?_
      refine WX.block ?_
      refine WX.seq ?_
      obtain ⟨t33_2, h33_1, h⟩ := bind_some h
      obtain ⟨m33_1, g33, h⟩ := bind_some h
      refine WC.via (α := Bool) (fun v33 => ⟨[(2, .ptr 2 0), (3, .ptr 3 0), (5, .p (i6 (x18_1_1))), (19, .p (bo (v33)))], [(2, .box 25 (vV4 a0)), (3, .box 25 (vV4 a1))], L0, []⟩) m33_1 (fun hk => ?_) ?_
      · rcases if_or g33 with ⟨b33_3, g33⟩ | ⟨b33_3, g33⟩
        · obtain ⟨t33_4, h33_3, g33⟩ := bind_some g33
          exact WC.reg hn [(2, .resP (bo (t33_2))), (3, .val (.p (bo (true)))), (6, .resP (bo (t33_4)))] [2, 3, 5, 19] [2, 3] ⟨[(2, .ptr 2 0), (3, .ptr 3 0), (5, .p (i6 (x18_1_1))), (19, .p (bo (t33_4)))], [(2, .box 25 (vV4 a0)), (3, .box 25 (vV4 a1))], L0, []⟩ (And.intro ((riddleref01_Has_ok h33_1)) (And.intro (Bl b33_3) (And.intro ((riddleref01_Has_ok h33_3)) (trivial)))) (by kernel_rfl) (hk t33_4 (Option.some.inj g33))
        · exact WC.reg hn [(2, .resP (bo (t33_2))), (3, .val (.p (bo (false))))] [2, 3, 5, 19] [2, 3] ⟨[(2, .ptr 2 0), (3, .ptr 3 0), (5, .p (i6 (x18_1_1))), (19, .p (bo (false)))], [(2, .box 25 (vV4 a0)), (3, .box 25 (vV4 a1))], L0, []⟩ (And.intro ((riddleref01_Has_ok h33_1)) (And.intro (Bl b33_3) (trivial))) (by kernel_rfl) (hk false (Option.some.inj g33))
      rcases if_or h with ⟨c34, h⟩ | ⟨c34, h⟩
      · refine WC.condT c34 (by kernel_rfl) ?_
        refine WC.rg hn [] [4] [] ⟨[(4, .p (bo (true)))], [], L0, []⟩ trivial ?_
        refine WX.ret ?_
        refine WC.ret_all (hexit18 _ _ (by simp) ?_)
        exact WC.outP (by rw [← Option.some.inj h]; kernel_rfl)
      · refine WC.condF c34 (by kernel_rfl) ?_
        refine WX.skip ?_
        refine WX.popBlk ?_
        refine WC.r1 hn [] [2, 3, 5] [2, 3] ⟨[(2, .ptr 2 0), (3, .ptr 3 0), (5, .p (i6 (((IntKind.i64.wrap (x18_1_1 + 1))))))], [(2, .box 25 (vV4 a0)), (3, .box 25 (vV4 a1))], L0, []⟩ trivial ?_
        exact WC.next [2, 3, 5] [2, 3] (by kernel_rfl) (hnext18 ((IntKind.i64.wrap (x18_1_1 + 1))) h)
    · refine WC.condF c32 (by kernel_rfl) ?_
      refine WX.exit ?_
      refine WX.popCodeExit ?_
      refine WC.exit_nil (hexit18 _ _ (by simp) ?_)
      refine WX.popBlkHit ?_
      exact WC.keep [] [] (by kernel_rfl) (hJ3 () h)
def riddleref10_Takes_l1 (a0 : api_Nfa) (a1 : (List Int)) (x68_1_1 : Int) (x68_1_2 : Int) (x68_1_3 : List Int) (J132 : (Int × List Int × Int × List Int) → Option (Bool)) : Nat → (Int × Int × List Int × Int × List Int) → Option (Bool)
  | 0, _ => none
  | k + 1, (x156_1_1, x156_1_2, x156_1_3, x156_1_4, x156_1_5) => (if (((decide (x156_1_1 < (a0.Classes.length : Int)))) && ((decide (x156_1_1 < (a0.Follow.length : Int))))) = true then (riddleref01_Has k ((api_Bits.mk x68_1_2 x68_1_3)) x156_1_1).bind fun t176_2 => ((if t176_2 = true then (at_ a0.Classes x156_1_1).bind fun t176_4 => (at_ a1 x68_1_1).bind fun t176_6 => (riddleref02_Has t176_4 t176_6).bind fun t176_8 => some t176_8 else some false) : Option (Bool)).bind fun v176 => (if v176 = true then (riddleref01_With k ((api_Bits.mk x156_1_4 x156_1_5)) x156_1_1).bind fun t178_2 => (at_ a0.Follow x156_1_1).bind fun t179_2 => (riddleref01_Or k ((api_Bits.mk x156_1_2 x156_1_3)) t179_2).bind fun t179_4 => riddleref10_Takes_l1 a0 a1 x68_1_1 x68_1_2 x68_1_3 J132 k ((IntKind.i64.wrap (x156_1_1 + 1)), t179_4.N, t179_4.Words, t178_2.N, t178_2.Words) else riddleref10_Takes_l1 a0 a1 x68_1_1 x68_1_2 x68_1_3 J132 k ((IntKind.i64.wrap (x156_1_1 + 1)), x156_1_2, x156_1_3, x156_1_4, x156_1_5)) else J132 (x156_1_2, x156_1_3, x156_1_4, x156_1_5))
def riddleref10_Takes_l0 (a0 : api_Nfa) (a1 : (List Int)) (J7 : Unit → Option (Bool)) : Nat → (Int × Int × List Int) → Option (Bool)
  | 0, _ => none
  | k + 1, (x68_1_1, x68_1_2, x68_1_3) => (if (decide (x68_1_1 < (a1.length : Int))) = true then (riddleref10_none k ((a0.Classes.length : Int))).bind fun t129_2 => (riddleref10_none k ((a0.Classes.length : Int))).bind fun t130_2 => jn (fun (v132 : Int × List Int × Int × List Int) => (if (x68_1_1 == (IntKind.i64.wrap ((a1.length : Int) - 1))) = true then (riddleref10_meets k ((api_Bits.mk v132.2.2.1 v132.2.2.2)) a0.Last).bind fun t153_2 => some t153_2 else riddleref10_Takes_l0 a0 a1 J7 k ((IntKind.i64.wrap (x68_1_1 + 1)), v132.1, v132.2.1))) fun J132 => riddleref10_Takes_l1 a0 a1 x68_1_1 x68_1_2 x68_1_3 J132 k (0, t130_2.N, t130_2.Words, t129_2.N, t129_2.Words) else J7 ())
def riddleref10_Takes (k : Nat) (a0 : api_Nfa) (a1 : (List Int)) : Option (Bool) :=
  (if ((a1.length : Int) == 0) = true then some a0.Null else jn (fun (v7 : Unit) => some false) fun J7 => riddleref10_Takes_l0 a0 a1 J7 k (0, a0.First.N, a0.First.Words))
theorem riddleref10_Takes_ok {k : Nat} {a0 : api_Nfa} {a1 : (List Int)} {r : Bool} (h : riddleref10_Takes k a0 a1 = some r) : Ans Tryd.prog 25 [pP1 a0, slV (eI .u8) a1] (bo (r)) := by
  refine W_fn Tryd.func25 rfl (by kernel_rfl) (by kernel_rfl) ?_
  intro X hro hn
  unfold riddleref10_Takes at h
  refine WC.rg hn [] [1, 2] [2] ⟨[(1, .p (slV (eI .u8) a1)), (2, .ptr 2 0)], [(2, .box 28 (vV1 a0))], L0, []⟩ trivial ?_
  refine WX.seq ?_
  refine WC.rg hn [] [1, 2, 12] [2] ⟨[(1, .p (slV (eI .u8) a1)), (2, .ptr 2 0), (12, .p (bo ((((a1.length : Int) == 0)))))], [(2, .box 28 (vV1 a0))], L0, []⟩ trivial ?_
  rcases if_or h with ⟨c3, h⟩ | ⟨c3, h⟩
  · refine WC.condT c3 (by kernel_rfl) ?_
    refine WC.rg hn [] [4] [] ⟨[(4, .p (bo (a0.Null)))], [], L0, []⟩ trivial ?_
    refine WX.ret ?_
    exact WC.outP (by rw [← Option.some.inj h]; kernel_rfl)
  · refine WC.condF c3 (by kernel_rfl) ?_
    refine WX.skip ?_
    refine WC.rg hn [] [1, 2, 5] [2, 5] ⟨[(1, .p (slV (eI .u8) a1)), (2, .ptr 2 0), (5, .ptr 5 0)], [(2, .box 28 (vV1 a0)), (5, .box 25 (vV4 a0.First))], L0, []⟩ trivial ?_
    refine WX.seq ?_
    refine WC.rg hn [] [1, 2, 5, 6] [2, 5] ⟨[(1, .p (slV (eI .u8) a1)), (2, .ptr 2 0), (5, .ptr 5 0), (6, .p (i6 (0)))], [(2, .box 28 (vV1 a0)), (5, .box 25 (vV4 a0.First))], L0, []⟩ trivial ?_
    obtain ⟨J7, eJ7, h⟩ := jn_some h
    try dsimp only at h
    refine WC.join (α := Unit) (fun v7 => ⟨[], [], L0, []⟩) (fun v7 => J7 v7 = some r) ?_ (fun hJ7 => ?_)
    · rintro _ h
      rw [eJ7] at h
      try dsimp only at h
      refine WC.rg hn [] [4] [] ⟨[(4, .p (bo (false)))], [], L0, []⟩ trivial ?_
      refine WX.ret ?_
      exact WC.outP (by rw [← Option.some.inj h]; kernel_rfl)
    · skip
      refine WX.block ?_
      refine WC.loop (V := Int × Int × List Int) (riddleref10_Takes_l0 a0 a1 J7) r (fun v68 => ⟨[(1, .p (slV (eI .u8) a1)), (2, .ptr 2 0), (5, .ptr 5 0), (6, .p (i6 (v68.1)))], [(2, .box 28 (vV1 a0)), (5, .box 25 [.p (i6 (v68.2.1)), .p (sW v68.2.2)])], L0, []⟩) _ (0, a0.First.N, a0.First.Words) h (fun _ => rfl) [1, 2, 5, 6] [2, 5] (by kernel_rfl) ?_
      clear h; rintro k ⟨x68_1_1, x68_1_2, x68_1_3⟩ h K68 hnext68 hexit68
      rw [riddleref10_Takes_l0] at h
      refine WX.seq ?_
      refine WC.rg hn [] [1, 2, 5, 6, 20] [2, 5] ⟨[(1, .p (slV (eI .u8) a1)), (2, .ptr 2 0), (5, .ptr 5 0), (6, .p (i6 (x68_1_1))), (20, .p (bo (((decide (x68_1_1 < (a1.length : Int)))))))], [(2, .box 28 (vV1 a0)), (5, .box 25 [.p (i6 (x68_1_2)), .p (sW x68_1_3)])], L0, []⟩ trivial ?_
      rcases if_or h with ⟨c128, h⟩ | ⟨c128, h⟩
      · refine WC.condT c128 (by kernel_rfl) ?_
        refine WX.skip ?_
        refine WX.seq ?_
        refine WX.block ?_
        refine WX.seq ?_
        obtain ⟨t129_2, h129_1, h⟩ := bind_some h
        refine WC.r1 hn [(3, .co [] [] [] [(26, rW 58 t129_2.Words)] (.agg [.p (i6 (t129_2.N)), .own 26]))] [1, 2, 5, 6, 7] [2, 5, 7, 26] ⟨[(1, .p (slV (eI .u8) a1)), (2, .ptr 2 0), (5, .ptr 5 0), (6, .p (i6 (x68_1_1))), (7, .ptr 7 0)], [(2, .box 28 (vV1 a0)), (5, .box 25 [.p (i6 (x68_1_2)), .p (sW x68_1_3)]), (7, .box 25 [.p (i6 (t129_2.N)), .own 26]), (26, rW 58 t129_2.Words)], L0, []⟩ (And.intro (And.intro ((riddleref10_none_ok h129_1).ren 7 26 (by kernel_rfl)) (trivial)) (trivial)) ?_
        refine WX.seq ?_
        obtain ⟨t130_2, h130_1, h⟩ := bind_some h
        refine WC.r1 hn [(3, .co [] [] [] [(30, rW 58 t130_2.Words)] (.agg [.p (i6 (t130_2.N)), .own 30]))] [1, 2, 5, 6, 7, 8] [2, 5, 7, 8, 26, 30] ⟨[(1, .p (slV (eI .u8) a1)), (2, .ptr 2 0), (5, .ptr 5 0), (6, .p (i6 (x68_1_1))), (7, .ptr 7 0), (8, .ptr 8 0)], [(2, .box 28 (vV1 a0)), (5, .box 25 [.p (i6 (x68_1_2)), .p (sW x68_1_3)]), (7, .box 25 [.p (i6 (t129_2.N)), .own 26]), (8, .box 25 [.p (i6 (t130_2.N)), .own 30]), (26, rW 58 t129_2.Words), (30, rW 58 t130_2.Words)], L0, []⟩ (And.intro (And.intro ((riddleref10_none_ok h130_1).ren 7 30 (by kernel_rfl)) (trivial)) (trivial)) ?_
        refine WX.seq ?_
        refine WC.rg hn [] [1, 2, 5, 6, 7, 8, 9] [2, 5, 7, 8, 26, 30] ⟨[(1, .p (slV (eI .u8) a1)), (2, .ptr 2 0), (5, .ptr 5 0), (6, .p (i6 (x68_1_1))), (7, .ptr 7 0), (8, .ptr 8 0), (9, .p (i6 (0)))], [(2, .box 28 (vV1 a0)), (5, .box 25 [.p (i6 (x68_1_2)), .p (sW x68_1_3)]), (7, .box 25 [.p (i6 (t129_2.N)), .own 26]), (8, .box 25 [.p (i6 (t130_2.N)), .own 30]), (26, rW 58 t129_2.Words), (30, rW 58 t130_2.Words)], L0, []⟩ trivial ?_
        obtain ⟨J132, eJ132, h⟩ := jn_some h
        try dsimp only at h
        refine WC.join (α := Int × List Int × Int × List Int) (fun v132 => ⟨[(1, .p (slV (eI .u8) a1)), (2, .ptr 2 0), (5, .ptr 5 0), (6, .p (i6 (x68_1_1))), (7, .ptr 7 0), (8, .ptr 8 0)], [(2, .box 28 (vV1 a0)), (5, .box 25 [.p (i6 (x68_1_2)), .p (sW x68_1_3)]), (7, .box 25 [.p (i6 (v132.2.2.1)), .own 26]), (8, .box 25 [.p (i6 (v132.1)), .p (sW v132.2.1)]), (26, rW 58 v132.2.2.2)], L0, []⟩) (fun v132 => J132 v132 = some r) ?_ (fun hJ132 => ?_)
        · rintro ⟨y132_1, y132_2, y132_3, y132_4⟩ h
          rw [eJ132] at h
          try dsimp only at h
          refine WX.seq ?_
          refine WC.rg hn [] [1, 2, 5, 6, 7, 8, 74] [2, 5, 7, 8, 26] ⟨[(1, .p (slV (eI .u8) a1)), (2, .ptr 2 0), (5, .ptr 5 0), (6, .p (i6 (x68_1_1))), (7, .ptr 7 0), (8, .ptr 8 0), (74, .p (bo (((x68_1_1 == (IntKind.i64.wrap ((a1.length : Int) - 1)))))))], [(2, .box 28 (vV1 a0)), (5, .box 25 [.p (i6 (x68_1_2)), .p (sW x68_1_3)]), (7, .box 25 [.p (i6 (y132_3)), .own 26]), (8, .box 25 [.p (i6 (y132_1)), .p (sW y132_2)]), (26, rW 58 y132_4)], L0, []⟩ trivial ?_
          rcases if_or h with ⟨c152, h⟩ | ⟨c152, h⟩
          · refine WC.condT c152 (by kernel_rfl) ?_
            refine WX.seq ?_
            obtain ⟨t153_2, h153_1, h⟩ := bind_some h
            refine WC.r1 hn [(3, .res (bo (t153_2)))] [4] [] ⟨[(4, .p (bo (t153_2)))], [], L0, []⟩ (And.intro (And.intro (riddleref10_meets_ok h153_1) (rfl : (bo (t153_2) : PV).flat = true)) (trivial)) ?_
            refine WX.ret ?_
            refine WC.ret_all (hexit68 _ _ (by simp) ?_)
            exact WC.outP (by rw [← Option.some.inj h]; kernel_rfl)
          · refine WC.condF c152 (by kernel_rfl) ?_
            refine WX.skip ?_
            refine WC.r1 hn [] [1, 2, 5, 6] [2, 5] ⟨[(1, .p (slV (eI .u8) a1)), (2, .ptr 2 0), (5, .ptr 5 0), (6, .p (i6 (x68_1_1)))], [(2, .box 28 (vV1 a0)), (5, .box 25 [.p (i6 (y132_1)), .p (sW y132_2)])], L0, []⟩ trivial ?_
            refine WX.popBlk ?_
            refine WC.r1 hn [] [1, 2, 5, 6] [2, 5] ⟨[(1, .p (slV (eI .u8) a1)), (2, .ptr 2 0), (5, .ptr 5 0), (6, .p (i6 (((IntKind.i64.wrap (x68_1_1 + 1))))))], [(2, .box 28 (vV1 a0)), (5, .box 25 [.p (i6 (y132_1)), .p (sW y132_2)])], L0, []⟩ trivial ?_
            exact WC.next [1, 2, 5, 6] [2, 5] (by kernel_rfl) (hnext68 ((IntKind.i64.wrap (x68_1_1 + 1)), y132_1, y132_2) h)
        · replace hJ132 := fun y132_1 y132_2 y132_3 y132_4 => hJ132 (y132_1, y132_2, y132_3, y132_4)
          refine WX.block ?_
          refine WC.frz 30 (st' := ⟨[(1, .p (slV (eI .u8) a1)), (2, .ptr 2 0), (5, .ptr 5 0), (6, .p (i6 (x68_1_1))), (7, .ptr 7 0), (8, .ptr 8 0), (9, .p (i6 (0)))], [(2, .box 28 (vV1 a0)), (5, .box 25 [.p (i6 (x68_1_2)), .p (sW x68_1_3)]), (7, .box 25 [.p (i6 (t129_2.N)), .own 26]), (8, .box 25 (vV4 t130_2)), (26, rW 58 t129_2.Words)], L0, []⟩) (by kernel_rfl) ?_
          refine WC.loop (V := Int × Int × List Int × Int × List Int) (riddleref10_Takes_l1 a0 a1 x68_1_1 x68_1_2 x68_1_3 J132) r (fun v156 => ⟨[(1, .p (slV (eI .u8) a1)), (2, .ptr 2 0), (5, .ptr 5 0), (6, .p (i6 (x68_1_1))), (7, .ptr 7 0), (8, .ptr 8 0), (9, .p (i6 (v156.1)))], [(2, .box 28 (vV1 a0)), (5, .box 25 [.p (i6 (x68_1_2)), .p (sW x68_1_3)]), (7, .box 25 [.p (i6 (v156.2.2.2.1)), .own 26]), (8, .box 25 [.p (i6 (v156.2.1)), .p (sW v156.2.2.1)]), (26, rW 58 v156.2.2.2.2)], L0, []⟩) _ (0, t130_2.N, t130_2.Words, t129_2.N, t129_2.Words) h (fun _ => rfl) [1, 2, 5, 6, 7, 8, 9] [2, 5, 7, 8, 26] (by kernel_rfl) ?_
          clear h; rintro k ⟨x156_1_1, x156_1_2, x156_1_3, x156_1_4, x156_1_5⟩ h K156 hnext156 hexit156
          rw [riddleref10_Takes_l1] at h
          refine WX.seq ?_
          refine WX.seq ?_
          refine WC.via (α := Bool) (fun v174 => ⟨[(1, .p (slV (eI .u8) a1)), (2, .ptr 2 0), (5, .ptr 5 0), (6, .p (i6 (x68_1_1))), (7, .ptr 7 0), (8, .ptr 8 0), (9, .p (i6 (x156_1_1))), (42, .p (bo (v174)))], [(2, .box 28 (vV1 a0)), (5, .box 25 [.p (i6 (x68_1_2)), .p (sW x68_1_3)]), (7, .box 25 [.p (i6 (x156_1_4)), .own 26]), (8, .box 25 [.p (i6 (x156_1_2)), .p (sW x156_1_3)]), (26, rW 58 x156_1_5)], L0, []⟩) ((((decide (x156_1_1 < (a0.Classes.length : Int)))) && ((decide (x156_1_1 < (a0.Follow.length : Int)))))) (fun hk => ?_) ?_
          · rcases Bool.eq_false_or_eq_true ((decide (x156_1_1 < (a0.Classes.length : Int)))) with b174_5 | b174_5
            · exact WC.reg hn [(5, .val (.p (bo (true))))] [1, 2, 5, 6, 7, 8, 9, 42] [2, 5, 7, 8, 26] ⟨[(1, .p (slV (eI .u8) a1)), (2, .ptr 2 0), (5, .ptr 5 0), (6, .p (i6 (x68_1_1))), (7, .ptr 7 0), (8, .ptr 8 0), (9, .p (i6 (x156_1_1))), (42, .p (bo (((decide (x156_1_1 < (a0.Follow.length : Int)))))))], [(2, .box 28 (vV1 a0)), (5, .box 25 [.p (i6 (x68_1_2)), .p (sW x68_1_3)]), (7, .box 25 [.p (i6 (x156_1_4)), .own 26]), (8, .box 25 [.p (i6 (x156_1_2)), .p (sW x156_1_3)]), (26, rW 58 x156_1_5)], L0, []⟩ (And.intro (Bl b174_5) (trivial)) (by kernel_rfl) (hk ((decide (x156_1_1 < (a0.Follow.length : Int)))) (by first | (rw [b174_5]; rfl) | simp [b174_5]))
            · exact WC.reg hn [(5, .val (.p (bo (false))))] [1, 2, 5, 6, 7, 8, 9, 42] [2, 5, 7, 8, 26] ⟨[(1, .p (slV (eI .u8) a1)), (2, .ptr 2 0), (5, .ptr 5 0), (6, .p (i6 (x68_1_1))), (7, .ptr 7 0), (8, .ptr 8 0), (9, .p (i6 (x156_1_1))), (42, .p (bo (false)))], [(2, .box 28 (vV1 a0)), (5, .box 25 [.p (i6 (x68_1_2)), .p (sW x68_1_3)]), (7, .box 25 [.p (i6 (x156_1_4)), .own 26]), (8, .box 25 [.p (i6 (x156_1_2)), .p (sW x156_1_3)]), (26, rW 58 x156_1_5)], L0, []⟩ (And.intro (Bl b174_5) (trivial)) (by kernel_rfl) (hk false (by first | (rw [b174_5]; rfl) | simp [b174_5]))
          rcases if_or h with ⟨c175, h⟩ | ⟨c175, h⟩
          · refine WC.condT c175 (by kernel_rfl) ?_
            refine WX.skip ?_
            refine WX.seq ?_
            refine WX.block ?_
            refine WX.seq ?_
            obtain ⟨t176_2, h176_1, h⟩ := bind_some h
            obtain ⟨m176_1, g176, h⟩ := bind_some h
            refine WC.via (α := Bool) (fun v176 => ⟨[(1, .p (slV (eI .u8) a1)), (2, .ptr 2 0), (5, .ptr 5 0), (6, .p (i6 (x68_1_1))), (7, .ptr 7 0), (8, .ptr 8 0), (9, .p (i6 (x156_1_1))), (59, .p (bo (v176)))], [(2, .box 28 (vV1 a0)), (5, .box 25 [.p (i6 (x68_1_2)), .p (sW x68_1_3)]), (7, .box 25 [.p (i6 (x156_1_4)), .own 26]), (8, .box 25 [.p (i6 (x156_1_2)), .p (sW x156_1_3)]), (26, rW 58 x156_1_5)], L0, []⟩) m176_1 (fun hk => ?_) ?_
            · rcases if_or g176 with ⟨b176_3, g176⟩ | ⟨b176_3, g176⟩
              · obtain ⟨t176_4, h176_3, g176⟩ := bind_some g176
                obtain ⟨t176_6, h176_5, g176⟩ := bind_some g176
                obtain ⟨t176_8, h176_7, g176⟩ := bind_some g176
                exact WC.drw hn [] [] [(2, .resP (bo (t176_2))), (3, .val (.p (bo (true)))), (7, .val (.p (.rop ((e4 (eI .u64)).cells t176_4 ++ encL (e4 (eI .u64)) (a0.Classes.drop (x156_1_1.toNat + 1)))))), (11, .val (.p (.rop ((eI .u8).cells t176_6 ++ encL (eI .u8) (a1.drop (x68_1_1.toNat + 1)))))), (13, .resP (bo (t176_8)))] [1, 2, 5, 6, 7, 8, 9, 59] [2, 5, 7, 8, 26] ⟨[(1, .p (slV (eI .u8) a1)), (2, .ptr 2 0), (5, .ptr 5 0), (6, .p (i6 (x68_1_1))), (7, .ptr 7 0), (8, .ptr 8 0), (9, .p (i6 (x156_1_1))), (59, .p (bo (t176_8)))], [(2, .box 28 (vV1 a0)), (5, .box 25 [.p (i6 (x68_1_2)), .p (sW x68_1_3)]), (7, .box 25 [.p (i6 (x156_1_4)), .own 26]), (8, .box 25 [.p (i6 (x156_1_2)), .p (sW x156_1_3)]), (26, rW 58 x156_1_5)], L0, []⟩ (And.intro ((riddleref01_Has_ok h176_1)) (And.intro (Bl b176_3) (And.intro (Ix (e4 (eI .u64)) h176_3) (And.intro (Ix (eI .u8) h176_5) (And.intro ((riddleref02_Has_ok h176_7)) (trivial)))))) (by kernel_rfl) (by kernel_rfl) (by kernel_rfl) (by kernel_rfl) (hk t176_8 (Option.some.inj g176))
              · exact WC.drw hn [] [] [(2, .resP (bo (t176_2))), (3, .val (.p (bo (false))))] [1, 2, 5, 6, 7, 8, 9, 59] [2, 5, 7, 8, 26] ⟨[(1, .p (slV (eI .u8) a1)), (2, .ptr 2 0), (5, .ptr 5 0), (6, .p (i6 (x68_1_1))), (7, .ptr 7 0), (8, .ptr 8 0), (9, .p (i6 (x156_1_1))), (59, .p (bo (false)))], [(2, .box 28 (vV1 a0)), (5, .box 25 [.p (i6 (x68_1_2)), .p (sW x68_1_3)]), (7, .box 25 [.p (i6 (x156_1_4)), .own 26]), (8, .box 25 [.p (i6 (x156_1_2)), .p (sW x156_1_3)]), (26, rW 58 x156_1_5)], L0, []⟩ (And.intro ((riddleref01_Has_ok h176_1)) (And.intro (Bl b176_3) (trivial))) (by kernel_rfl) (by kernel_rfl) (by kernel_rfl) (by kernel_rfl) (hk false (Option.some.inj g176))
            rcases if_or h with ⟨c177, h⟩ | ⟨c177, h⟩
            · refine WC.condT c177 (by kernel_rfl) ?_
              refine WX.seq ?_
              obtain ⟨t178_2, h178_1, h⟩ := bind_some h
              refine WC.r1 hn [(2, .co [] [] [26] [(62, rW 58 t178_2.Words)] (.agg [.p (i6 (t178_2.N)), .own 62]))] [1, 2, 5, 6, 7, 8, 9] [2, 5, 7, 8, 62] ⟨[(1, .p (slV (eI .u8) a1)), (2, .ptr 2 0), (5, .ptr 5 0), (6, .p (i6 (x68_1_1))), (7, .ptr 7 0), (8, .ptr 8 0), (9, .p (i6 (x156_1_1)))], [(2, .box 28 (vV1 a0)), (5, .box 25 [.p (i6 (x68_1_2)), .p (sW x68_1_3)]), (7, .box 25 [.p (i6 (t178_2.N)), .own 62]), (8, .box 25 [.p (i6 (x156_1_2)), .p (sW x156_1_3)]), (62, rW 58 t178_2.Words)], L0, []⟩ (And.intro (And.intro ((riddleref01_With_ok h178_1).ren 7 62 (by kernel_rfl)) (And.intro (rfl : (.agg [.p (i6 (t178_2.N)), .own 62] : AV).flat = true) (And.intro (flats_encL (eI .u64) (fun _ => rfl) t178_2.Words) (trivial)))) (trivial)) ?_
              obtain ⟨t179_2, h179_1, h⟩ := bind_some h
              obtain ⟨t179_4, h179_3, h⟩ := bind_some h
              refine WC.drw hn [(7, [])] [] [(4, .val (.p (.rop (e_api_Bits.cells t179_2 ++ encL e_api_Bits (a0.Follow.drop (x156_1_1.toNat + 1)))))), (6, .resP (pP4 t179_4))] [1, 2, 5, 6, 7, 8, 9] [2, 5, 7, 8, 62] ⟨[(1, .p (slV (eI .u8) a1)), (2, .ptr 2 0), (5, .ptr 5 0), (6, .p (i6 (x68_1_1))), (7, .ptr 7 0), (8, .ptr 8 0), (9, .p (i6 (x156_1_1)))], [(2, .box 28 (vV1 a0)), (5, .box 25 [.p (i6 (x68_1_2)), .p (sW x68_1_3)]), (7, .box 25 [.p (i6 (t178_2.N)), .own 62]), (8, .box 25 (vV4 t179_4)), (62, rW 58 t178_2.Words)], L0, []⟩ (And.intro (Ix e_api_Bits h179_1) (And.intro ((riddleref01_Or_okP h179_3)) (trivial))) (by kernel_rfl) (by kernel_rfl) (by kernel_rfl) (by kernel_rfl) ?_
              refine WX.popBlk ?_
              refine WC.r1 hn [] [1, 2, 5, 6, 7, 8, 9] [2, 5, 7, 8, 62] ⟨[(1, .p (slV (eI .u8) a1)), (2, .ptr 2 0), (5, .ptr 5 0), (6, .p (i6 (x68_1_1))), (7, .ptr 7 0), (8, .ptr 8 0), (9, .p (i6 (((IntKind.i64.wrap (x156_1_1 + 1))))))], [(2, .box 28 (vV1 a0)), (5, .box 25 [.p (i6 (x68_1_2)), .p (sW x68_1_3)]), (7, .box 25 [.p (i6 (t178_2.N)), .own 62]), (8, .box 25 (vV4 t179_4)), (62, rW 58 t178_2.Words)], L0, []⟩ trivial ?_
              refine WC.ren hn 62 26 (by kernel_rfl) [1, 2, 5, 6, 7, 8, 9] [2, 5, 7, 8, 26] (st' := ⟨[(1, .p (slV (eI .u8) a1)), (2, .ptr 2 0), (5, .ptr 5 0), (6, .p (i6 (x68_1_1))), (7, .ptr 7 0), (8, .ptr 8 0), (9, .p (i6 (((IntKind.i64.wrap (x156_1_1 + 1))))))], [(2, .box 28 (vV1 a0)), (5, .box 25 [.p (i6 (x68_1_2)), .p (sW x68_1_3)]), (7, .box 25 [.p (i6 (t178_2.N)), .own 26]), (8, .box 25 (vV4 t179_4)), (26, rW 58 t178_2.Words)], L0, []⟩) (by kernel_rfl) ?_
              exact WC.next [1, 2, 5, 6, 7, 8, 9] [2, 5, 7, 8, 26] (by kernel_rfl) (hnext156 ((IntKind.i64.wrap (x156_1_1 + 1)), t179_4.N, t179_4.Words, t178_2.N, t178_2.Words) h)
            · refine WC.condF c177 (by kernel_rfl) ?_
              refine WX.skip ?_
              refine WX.popBlk ?_
              refine WC.r1 hn [] [1, 2, 5, 6, 7, 8, 9] [2, 5, 7, 8, 26] ⟨[(1, .p (slV (eI .u8) a1)), (2, .ptr 2 0), (5, .ptr 5 0), (6, .p (i6 (x68_1_1))), (7, .ptr 7 0), (8, .ptr 8 0), (9, .p (i6 (((IntKind.i64.wrap (x156_1_1 + 1))))))], [(2, .box 28 (vV1 a0)), (5, .box 25 [.p (i6 (x68_1_2)), .p (sW x68_1_3)]), (7, .box 25 [.p (i6 (x156_1_4)), .own 26]), (8, .box 25 [.p (i6 (x156_1_2)), .p (sW x156_1_3)]), (26, rW 58 x156_1_5)], L0, []⟩ trivial ?_
              exact WC.next [1, 2, 5, 6, 7, 8, 9] [2, 5, 7, 8, 26] (by kernel_rfl) (hnext156 ((IntKind.i64.wrap (x156_1_1 + 1)), x156_1_2, x156_1_3, x156_1_4, x156_1_5) h)
          · refine WC.condF c175 (by kernel_rfl) ?_
            refine WX.exit ?_
            refine WX.popCodeExit ?_
            refine WC.exit_nil (hexit156 _ _ (by simp) ?_)
            refine WX.popBlkHit ?_
            exact WC.keep [1, 2, 5, 6, 7, 8] [2, 5, 7, 8, 26] (by kernel_rfl) (hJ132 x156_1_2 x156_1_3 x156_1_4 x156_1_5 h)
      · refine WC.condF c128 (by kernel_rfl) ?_
        refine WX.exit ?_
        refine WX.popCodeExit ?_
        refine WC.exit_nil (hexit68 _ _ (by simp) ?_)
        refine WX.popBlkHit ?_
        exact WC.keep [] [] (by kernel_rfl) (hJ7 () h)
def riddleref10_set (k : Nat) (a0 : api_Bits) (a1 : Int) : Option (Bool) :=
  (riddleref01_Check k a0).bind fun t2_2 => some ((((t2_2 == 0)) && ((a0.N == a1))))
theorem riddleref10_set_ok {k : Nat} {a0 : api_Bits} {a1 : Int} {r : Bool} (h : riddleref10_set k a0 a1 = some r) : Ans Tryd.prog 47 [pP4 a0, i6 (a1)] (bo (r)) := by
  refine W_fn Tryd.func47 rfl (by kernel_rfl) (by kernel_rfl) ?_
  intro X hro hn
  unfold riddleref10_set at h
  refine WC.rg hn [] [1, 2] [2] ⟨[(1, .p (i6 (a1))), (2, .ptr 2 0)], [(2, .box 25 (vV4 a0))], L0, []⟩ trivial ?_
  refine WX.seq ?_
  obtain ⟨t2_2, h2_1, h⟩ := bind_some h
  refine WC.via (α := Bool) (fun v2 => ⟨[(4, .p (bo (v2)))], [], L0, []⟩) ((((t2_2 == 0)) && ((a0.N == a1)))) (fun hk => ?_) ?_
  · rcases Bool.eq_false_or_eq_true ((t2_2 == 0)) with b2_3 | b2_3
    · exact WC.reg hn [(1, .resP (i6 (t2_2))), (3, .val (.p (bo (true))))] [4] [] ⟨[(4, .p (bo (((a0.N == a1)))))], [], L0, []⟩ (And.intro ((riddleref01_Check_ok h2_1)) (And.intro (Bl b2_3) (trivial))) (by kernel_rfl) (hk ((a0.N == a1)) (by first | (rw [b2_3]; rfl) | simp [b2_3]))
    · exact WC.reg hn [(1, .resP (i6 (t2_2))), (3, .val (.p (bo (false))))] [4] [] ⟨[(4, .p (bo (false)))], [], L0, []⟩ (And.intro ((riddleref01_Check_ok h2_1)) (And.intro (Bl b2_3) (trivial))) (by kernel_rfl) (hk false (by first | (rw [b2_3]; rfl) | simp [b2_3]))
  refine WX.ret ?_
  exact WC.outP (by rw [← Option.some.inj h]; kernel_rfl)
def riddleref10_Check_l0 (a0 : api_Nfa) (J7 : Unit → Option (Int)) : Nat → Int → Option (Int)
  | 0, _ => none
  | k + 1, x22_1_1 => (if (decide (x22_1_1 < (a0.Classes.length : Int))) = true then (at_ a0.Follow x22_1_1).bind fun t37_2 => (riddleref10_set k t37_2 ((a0.Classes.length : Int))).bind fun t37_4 => (if (!t37_4) = true then some 100 else riddleref10_Check_l0 a0 J7 k ((IntKind.i64.wrap (x22_1_1 + 1)))) else J7 ())
def riddleref10_Check (k : Nat) (a0 : api_Nfa) : Option (Int) :=
  ((if (decide ((a0.Classes.length : Int) > 512)) = true then some true else (if ((a0.Follow.length : Int) != (a0.Classes.length : Int)) = true then some true else (riddleref10_set k a0.First ((a0.Classes.length : Int))).bind fun t3_2 => (if (!t3_2) = true then some true else (riddleref10_set k a0.Last ((a0.Classes.length : Int))).bind fun t3_4 => some ((!t3_4))))) : Option (Bool)).bind fun v3 => (if v3 = true then some 100 else jn (fun (v7 : Unit) => some 0) fun J7 => riddleref10_Check_l0 a0 J7 k 0)
theorem riddleref10_Check_ok {k : Nat} {a0 : api_Nfa} {r : Int} (h : riddleref10_Check k a0 = some r) : Ans Tryd.prog 19 [pP1 a0] (i6 (r)) := by
  refine W_fn Tryd.func19 rfl (by kernel_rfl) (by kernel_rfl) ?_
  intro X hro hn
  unfold riddleref10_Check at h
  refine WC.rg hn [] [1] [1] ⟨[(1, .ptr 1 0)], [(1, .box 28 (vV1 a0))], L0, []⟩ trivial ?_
  refine WC.rg hn [] [1, 3] [1] ⟨[(1, .ptr 1 0), (3, .p (i6 (((a0.Classes.length : Int)))))], [(1, .box 28 (vV1 a0))], L0, []⟩ trivial ?_
  refine WX.seq ?_
  refine WX.seq ?_
  obtain ⟨m3_1, g3, h⟩ := bind_some h
  refine WC.via (α := Bool) (fun v3 => ⟨[(1, .ptr 1 0), (3, .p (i6 (((a0.Classes.length : Int))))), (30, .p (bo (v3)))], [(1, .box 28 (vV1 a0))], L0, []⟩) m3_1 (fun hk => ?_) ?_
  · rcases if_or g3 with ⟨b3_2, g3⟩ | ⟨b3_2, g3⟩
    · exact WC.reg hn [(2, .val (.p (bo (true))))] [1, 3, 30] [1] ⟨[(1, .ptr 1 0), (3, .p (i6 (((a0.Classes.length : Int))))), (30, .p (bo (true)))], [(1, .box 28 (vV1 a0))], L0, []⟩ (And.intro (Bl b3_2) (trivial)) (by kernel_rfl) (hk true (Option.some.inj g3))
    · rcases if_or g3 with ⟨b3_9, g3⟩ | ⟨b3_9, g3⟩
      · exact WC.reg hn [(2, .val (.p (bo (false)))), (9, .val (.p (bo (true))))] [1, 3, 30] [1] ⟨[(1, .ptr 1 0), (3, .p (i6 (((a0.Classes.length : Int))))), (30, .p (bo (true)))], [(1, .box 28 (vV1 a0))], L0, []⟩ (And.intro (Bl b3_2) (And.intro (Bl b3_9) (trivial))) (by kernel_rfl) (hk true (Option.some.inj g3))
      · obtain ⟨t3_2, h3_1, g3⟩ := bind_some g3
        rcases if_or g3 with ⟨b3_16, g3⟩ | ⟨b3_16, g3⟩
        · exact WC.reg hn [(2, .val (.p (bo (false)))), (9, .val (.p (bo (false)))), (13, .resP (bo (t3_2))), (16, .val (.p (bo (true))))] [1, 3, 30] [1] ⟨[(1, .ptr 1 0), (3, .p (i6 (((a0.Classes.length : Int))))), (30, .p (bo (true)))], [(1, .box 28 (vV1 a0))], L0, []⟩ (And.intro (Bl b3_2) (And.intro (Bl b3_9) (And.intro ((riddleref10_set_ok h3_1)) (And.intro (Bl b3_16) (trivial))))) (by kernel_rfl) (hk true (Option.some.inj g3))
        · obtain ⟨t3_4, h3_3, g3⟩ := bind_some g3
          exact WC.reg hn [(2, .val (.p (bo (false)))), (9, .val (.p (bo (false)))), (13, .resP (bo (t3_2))), (16, .val (.p (bo (false)))), (20, .resP (bo (t3_4)))] [1, 3, 30] [1] ⟨[(1, .ptr 1 0), (3, .p (i6 (((a0.Classes.length : Int))))), (30, .p (bo (((!t3_4)))))], [(1, .box 28 (vV1 a0))], L0, []⟩ (And.intro (Bl b3_2) (And.intro (Bl b3_9) (And.intro ((riddleref10_set_ok h3_1)) (And.intro (Bl b3_16) (And.intro ((riddleref10_set_ok h3_3)) (trivial)))))) (by kernel_rfl) (hk ((!t3_4)) (Option.some.inj g3))
  rcases if_or h with ⟨c4, h⟩ | ⟨c4, h⟩
  · refine WC.condT c4 (by kernel_rfl) ?_
    refine WC.rg hn [] [2] [] ⟨[(2, .p (i6 (100)))], [], L0, []⟩ trivial ?_
    refine WX.ret ?_
    exact WC.outP (by rw [← Option.some.inj h]; kernel_rfl)
  · refine WC.condF c4 (by kernel_rfl) ?_
    refine WX.skip ?_
    refine WX.seq ?_
    refine WC.rg hn [] [1, 3, 4] [1] ⟨[(1, .ptr 1 0), (3, .p (i6 (((a0.Classes.length : Int))))), (4, .p (i6 (0)))], [(1, .box 28 (vV1 a0))], L0, []⟩ trivial ?_
    obtain ⟨J7, eJ7, h⟩ := jn_some h
    try dsimp only at h
    refine WC.join (α := Unit) (fun v7 => ⟨[], [], L0, []⟩) (fun v7 => J7 v7 = some r) ?_ (fun hJ7 => ?_)
    · rintro _ h
      rw [eJ7] at h
      try dsimp only at h
      refine WC.rg hn [] [2] [] ⟨[(2, .p (i6 (0)))], [], L0, []⟩ trivial ?_
      refine WX.ret ?_
      exact WC.outP (by rw [← Option.some.inj h]; kernel_rfl)
    · skip
      refine WX.block ?_
      refine WC.loop (V := Int) (riddleref10_Check_l0 a0 J7) r (fun v22 => ⟨[(1, .ptr 1 0), (3, .p (i6 (((a0.Classes.length : Int))))), (4, .p (i6 (v22)))], [(1, .box 28 (vV1 a0))], L0, []⟩) _ 0 h (fun _ => rfl) [1, 3, 4] [1] (by kernel_rfl) ?_
      clear h; rintro k x22_1_1 h K22 hnext22 hexit22
      rw [riddleref10_Check_l0] at h
      refine WX.seq ?_
      refine WC.rg hn [] [1, 3, 4, 33] [1] ⟨[(1, .ptr 1 0), (3, .p (i6 (((a0.Classes.length : Int))))), (4, .p (i6 (x22_1_1))), (33, .p (bo (((decide (x22_1_1 < (a0.Classes.length : Int)))))))], [(1, .box 28 (vV1 a0))], L0, []⟩ trivial ?_
      rcases if_or h with ⟨c36, h⟩ | ⟨c36, h⟩
      · refine WC.condT c36 (by kernel_rfl) ?_
        refine WX.skip ?_
        refine WX.seq ?_
        refine WX.block ?_
        refine WX.seq ?_
        obtain ⟨t37_2, h37_1, h⟩ := bind_some h
        obtain ⟨t37_4, h37_3, h⟩ := bind_some h
        refine WC.r1 hn [(3, .val (.p (.rop (e_api_Bits.cells t37_2 ++ encL e_api_Bits (a0.Follow.drop (x22_1_1.toNat + 1)))))), (6, .resP (bo (t37_4)))] [1, 3, 4, 43] [1] ⟨[(1, .ptr 1 0), (3, .p (i6 (((a0.Classes.length : Int))))), (4, .p (i6 (x22_1_1))), (43, .p (bo (((!t37_4)))))], [(1, .box 28 (vV1 a0))], L0, []⟩ (And.intro (Ix e_api_Bits h37_1) (And.intro ((riddleref10_set_ok h37_3)) (trivial))) ?_
        rcases if_or h with ⟨c38, h⟩ | ⟨c38, h⟩
        · refine WC.condT c38 (by kernel_rfl) ?_
          refine WC.rg hn [] [2] [] ⟨[(2, .p (i6 (100)))], [], L0, []⟩ trivial ?_
          refine WX.ret ?_
          refine WC.ret_all (hexit22 _ _ (by simp) ?_)
          exact WC.outP (by rw [← Option.some.inj h]; kernel_rfl)
        · refine WC.condF c38 (by kernel_rfl) ?_
          refine WX.skip ?_
          refine WX.popBlk ?_
          refine WC.r1 hn [] [1, 3, 4] [1] ⟨[(1, .ptr 1 0), (3, .p (i6 (((a0.Classes.length : Int))))), (4, .p (i6 (((IntKind.i64.wrap (x22_1_1 + 1))))))], [(1, .box 28 (vV1 a0))], L0, []⟩ trivial ?_
          exact WC.next [1, 3, 4] [1] (by kernel_rfl) (hnext22 ((IntKind.i64.wrap (x22_1_1 + 1))) h)
      · refine WC.condF c36 (by kernel_rfl) ?_
        refine WX.exit ?_
        refine WX.popCodeExit ?_
        refine WC.exit_nil (hexit22 _ _ (by simp) ?_)
        refine WX.popBlkHit ?_
        exact WC.keep [] [] (by kernel_rfl) (hJ7 () h)
def riddleref10_Empty (k : Nat)  : Option (api_Nfa) :=
  (riddleref10_none k 0).bind fun t2_2 => (riddleref10_none k 0).bind fun t2_4 => some ((api_Nfa.mk ([]) t2_2 t2_4 ([]) true))
theorem riddleref10_Empty_ok {k : Nat}  {r : api_Nfa} (h : riddleref10_Empty k = some r) : AnsO Tryd.prog 44 [] [] [(1, rW 58 r.First.Words), (2, rW 58 r.Last.Words)] (.agg [.p (sC r.Classes), .p (i6 (r.First.N)), .own 1, .p (i6 (r.Last.N)), .own 2, .p (sB r.Follow), .p (bo (r.Null))]) := by
  refine W_fnO [1, 2] Tryd.func44 rfl (by kernel_rfl) (by kernel_rfl) (by kernel_rfl) (by kernel_rfl) ?_
  intro X hro hn
  unfold riddleref10_Empty at h
  refine WC.rg hn [] [0] [0] ⟨[(0, .ptr 0 0)], [(0, .box 28 [.p (.sl .nil 0 []), .p (i6 (0)), .p (.sl .nil 0 []), .p (i6 (0)), .p (.sl .nil 0 []), .p (.sl .nil 0 []), .p (bo (false))])], L0, []⟩ trivial ?_
  refine WX.seq ?_
  obtain ⟨t2_2, h2_1, h⟩ := bind_some h
  obtain ⟨t2_4, h2_3, h⟩ := bind_some h
  refine WC.r1 hn [(0, .co [] [] [] [(1, rW 58 t2_2.Words)] (.agg [.p (i6 (t2_2.N)), .own 1])), (1, .co [] [] [] [(2, rW 58 t2_4.Words)] (.agg [.p (i6 (t2_4.N)), .own 2]))] [0] [0, 1, 2] ⟨[(0, .ptr 0 0)], [(0, .box 28 [.p (.sl .nil 0 []), .p (i6 (t2_2.N)), .own 1, .p (i6 (t2_4.N)), .own 2, .p (.sl .nil 0 []), .p (bo (true))]), (1, rW 58 t2_2.Words), (2, rW 58 t2_4.Words)], L0, []⟩ (And.intro (And.intro ((riddleref10_none_ok h2_1).ren 7 1 (by kernel_rfl)) (trivial)) (And.intro (And.intro ((riddleref10_none_ok h2_3).ren 7 2 (by kernel_rfl)) (trivial)) (trivial))) ?_
  refine WX.ret ?_
  exact WC.outO (by rw [← Option.some.inj h]; kernel_rfl)
theorem riddleref10_Empty_okP {k : Nat}  {r : api_Nfa} (h : riddleref10_Empty k = some r) : Ans Tryd.prog 44 [] (pP1 r) := AnsO.ans (args := []) (riddleref10_Empty_ok h) (by kernel_rfl)
def riddleref12_may (k : Nat) (a0 : api_Nfa) : Option (api_Nfa) :=
  (riddleref10_Check k a0).bind fun t2_2 => (if (t2_2 != 0) = true then (riddleref10_Empty k).bind fun t4_2 => some ((api_Nfa.mk t4_2.Classes t4_2.First t4_2.Last t4_2.Follow false)) else some a0)
theorem riddleref12_may_ok {k : Nat} {a0 : api_Nfa} {r : api_Nfa} (h : riddleref12_may k a0 = some r) : Ans Tryd.prog 34 [pP1 a0] (pP1 r) := by
  refine W_fn Tryd.func34 rfl (by kernel_rfl) (by kernel_rfl) ?_
  intro X hro hn
  unfold riddleref12_may at h
  refine WC.rg hn [] [1, 2] [1, 2] ⟨[(1, .ptr 1 0), (2, .ptr 2 0)], [(1, .box 28 (vV1 a0)), (2, .box 28 [.p (.sl .nil 0 []), .p (i6 (0)), .p (.sl .nil 0 []), .p (i6 (0)), .p (.sl .nil 0 []), .p (.sl .nil 0 []), .p (bo (false))])], L0, []⟩ trivial ?_
  refine WX.seq ?_
  refine WX.seq ?_
  obtain ⟨t2_2, h2_1, h⟩ := bind_some h
  refine WC.r1 hn [(1, .resP (i6 (t2_2)))] [1, 2, 5] [1, 2] ⟨[(1, .ptr 1 0), (2, .ptr 2 0), (5, .p (bo (((t2_2 != 0)))))], [(1, .box 28 (vV1 a0)), (2, .box 28 [.p (.sl .nil 0 []), .p (i6 (0)), .p (.sl .nil 0 []), .p (i6 (0)), .p (.sl .nil 0 []), .p (.sl .nil 0 []), .p (bo (false))])], L0, []⟩ (And.intro ((riddleref10_Check_ok h2_1)) (trivial)) ?_
  rcases if_or h with ⟨c3, h⟩ | ⟨c3, h⟩
  · refine WC.condT c3 (by kernel_rfl) ?_
    refine WX.seq ?_
    obtain ⟨t4_2, h4_1, h⟩ := bind_some h
    refine WC.r1 hn [(0, .co [] [] [] [(6, rW 58 t4_2.First.Words), (8, rW 58 t4_2.Last.Words)] (.agg [.p (sC t4_2.Classes), .p (i6 (t4_2.First.N)), .own 6, .p (i6 (t4_2.Last.N)), .own 8, .p (sB t4_2.Follow), .p (bo (t4_2.Null))]))] [1, 2] [1, 2, 6, 8] ⟨[(1, .ptr 1 0), (2, .ptr 2 0)], [(1, .box 28 [.p (sC t4_2.Classes), .p (i6 (t4_2.First.N)), .own 6, .p (i6 (t4_2.Last.N)), .own 8, .p (sB t4_2.Follow), .p (bo (t4_2.Null))]), (2, .box 28 [.p (.sl .nil 0 []), .p (i6 (0)), .p (.sl .nil 0 []), .p (i6 (0)), .p (.sl .nil 0 []), .p (.sl .nil 0 []), .p (bo (false))]), (6, rW 58 t4_2.First.Words), (8, rW 58 t4_2.Last.Words)], L0, []⟩ (And.intro (And.intro (((riddleref10_Empty_ok h4_1).ren 1 6 (by kernel_rfl)).ren 2 8 (by kernel_rfl)) (trivial)) (trivial)) ?_
    refine WC.r1 hn [] [1, 2] [1, 2, 6, 8] ⟨[(1, .ptr 1 0), (2, .ptr 2 0)], [(1, .box 28 [.p (sC t4_2.Classes), .p (i6 (t4_2.First.N)), .own 6, .p (i6 (t4_2.Last.N)), .own 8, .p (sB t4_2.Follow), .p (bo (false))]), (2, .box 28 [.p (.sl .nil 0 []), .p (i6 (0)), .p (.sl .nil 0 []), .p (i6 (0)), .p (.sl .nil 0 []), .p (.sl .nil 0 []), .p (bo (false))]), (6, rW 58 t4_2.First.Words), (8, rW 58 t4_2.Last.Words)], L0, []⟩ trivial ?_
    refine WC.rg hn [] [2] [2, 6, 8] ⟨[(2, .ptr 2 0)], [(2, .box 28 [.p (sC t4_2.Classes), .p (i6 (t4_2.First.N)), .own 6, .p (i6 (t4_2.Last.N)), .own 8, .p (sB t4_2.Follow), .p (bo (false))]), (6, rW 58 t4_2.First.Words), (8, rW 58 t4_2.Last.Words)], L0, []⟩ trivial ?_
    refine WX.ret ?_
    exact WC.outP (by rw [← Option.some.inj h]; kernel_rfl)
  · refine WC.condF c3 (by kernel_rfl) ?_
    refine WX.skip ?_
    refine WC.rg hn [] [2] [2] ⟨[(2, .ptr 2 0)], [(2, .box 28 (vV1 a0))], L0, []⟩ trivial ?_
    refine WX.ret ?_
    exact WC.outP (by rw [← Option.some.inj h]; kernel_rfl)
def riddleref12_Starts_l0 (a1 : (List Int)) (a2 : Int) (t2_2 : api_Nfa) (J8 : List Int → Option ((List Int))) : Nat → (List Int × Int) → Option ((List Int))
  | 0, _ => none
  | k + 1, (x25_1_1, x25_1_2) => (if (decide (x25_1_2 ≥ 0)) = true then (if (0 : Int) ≤ x25_1_2 ∧ x25_1_2 ≤ a2 ∧ a2 ≤ (a1.length : Nat) then (riddleref10_Takes k t2_2 (sub_ a1 x25_1_2 a2)).bind fun t42_3 => (if t42_3 = true then (if okApp 8 (x25_1_1.length + ([x25_1_2]).length) then riddleref12_Starts_l0 a1 a2 t2_2 J8 k (x25_1_1 ++ ([x25_1_2]), (IntKind.i64.wrap (x25_1_2 - 1))) else none) else riddleref12_Starts_l0 a1 a2 t2_2 J8 k (x25_1_1, (IntKind.i64.wrap (x25_1_2 - 1)))) else none) else J8 x25_1_1)
def riddleref12_Starts (k : Nat) (a0 : api_Nfa) (a1 : (List Int)) (a2 : Int) : Option ((List Int)) :=
  (riddleref12_may k a0).bind fun t2_2 => (if (((decide (a2 < 0))) || ((decide (a2 > (a1.length : Int))))) = true then some (([] : List Int)) else jn (fun (v8 : List Int) => some v8) fun J8 => riddleref12_Starts_l0 a1 a2 t2_2 J8 k (([] : List Int), a2))
theorem riddleref12_Starts_ok {k : Nat} {a0 : api_Nfa} {a1 : (List Int)} {a2 : Int} {r : (List Int)} (h : riddleref12_Starts k a0 a1 a2 = some r) : AnsO Tryd.prog 10 [] [.p (pP1 a0), .p (slV (eI .u8) a1), .p (i6 (a2))] [(33, rI 3 r)] (.own 33) := by
  refine W_fnO [33] Tryd.func10 rfl (by kernel_rfl) (by kernel_rfl) (by kernel_rfl) (by kernel_rfl) ?_
  intro X hro hn
  unfold riddleref12_Starts at h
  refine WC.rg hn [] [1, 2, 3] [3] ⟨[(1, .p (slV (eI .u8) a1)), (2, .p (i6 (a2))), (3, .ptr 3 0)], [(3, .box 28 (vV1 a0))], L0, []⟩ trivial ?_
  refine WX.seq ?_
  obtain ⟨t2_2, h2_1, h⟩ := bind_some h
  refine WC.r1 hn [(1, .resP (pP1 t2_2))] [1, 2, 3] [3] ⟨[(1, .p (slV (eI .u8) a1)), (2, .p (i6 (a2))), (3, .ptr 3 0)], [(3, .box 28 (vV1 t2_2))], L0, []⟩ (And.intro ((riddleref12_may_ok h2_1)) (trivial)) ?_
  refine WC.rg hn [] [1, 2, 3, 7] [3] ⟨[(1, .p (slV (eI .u8) a1)), (2, .p (i6 (a2))), (3, .ptr 3 0), (7, .p (.sl .nil 0 []))], [(3, .box 28 (vV1 t2_2))], L0, []⟩ trivial ?_
  refine WX.seq ?_
  refine WX.seq ?_
  refine WC.via (α := Bool) (fun v4 => ⟨[(1, .p (slV (eI .u8) a1)), (2, .p (i6 (a2))), (3, .ptr 3 0), (7, .p (.sl .nil 0 [])), (18, .p (bo (v4)))], [(3, .box 28 (vV1 t2_2))], L0, []⟩) ((((decide (a2 < 0))) || ((decide (a2 > (a1.length : Int)))))) (fun hk => ?_) ?_
  · rcases Bool.eq_false_or_eq_true ((decide (a2 < 0))) with b4_2 | b4_2
    · exact WC.reg hn [(2, .val (.p (bo (true))))] [1, 2, 3, 7, 18] [3] ⟨[(1, .p (slV (eI .u8) a1)), (2, .p (i6 (a2))), (3, .ptr 3 0), (7, .p (.sl .nil 0 [])), (18, .p (bo (true)))], [(3, .box 28 (vV1 t2_2))], L0, []⟩ (And.intro (Bl b4_2) (trivial)) (by kernel_rfl) (hk true (by first | (rw [b4_2]; rfl) | simp [b4_2]))
    · exact WC.reg hn [(2, .val (.p (bo (false))))] [1, 2, 3, 7, 18] [3] ⟨[(1, .p (slV (eI .u8) a1)), (2, .p (i6 (a2))), (3, .ptr 3 0), (7, .p (.sl .nil 0 [])), (18, .p (bo (((decide (a2 > (a1.length : Int)))))))], [(3, .box 28 (vV1 t2_2))], L0, []⟩ (And.intro (Bl b4_2) (trivial)) (by kernel_rfl) (hk ((decide (a2 > (a1.length : Int)))) (by first | (rw [b4_2]; rfl) | simp [b4_2]))
  rcases if_or h with ⟨c5, h⟩ | ⟨c5, h⟩
  · refine WC.condT c5 (by kernel_rfl) ?_
    refine WC.rg hn [] [6] [] ⟨[(6, .p (.sl .nil 0 []))], [], L0, []⟩ trivial ?_
    refine WX.ret ?_
    refine WC.nil hn [6] none 33 3 1 (by kernel_rfl) [6] [33] (st' := ⟨[(6, .own 33)], [(33, rI 3 (([] : List Int)))], L0, []⟩) (by kernel_rfl) ?_
    exact WC.outO (by rw [← Option.some.inj h]; kernel_rfl)
  · refine WC.condF c5 (by kernel_rfl) ?_
    refine WX.skip ?_
    refine WX.seq ?_
    refine WC.rg hn [] [1, 2, 3, 7, 8] [3] ⟨[(1, .p (slV (eI .u8) a1)), (2, .p (i6 (a2))), (3, .ptr 3 0), (7, .p (.sl .nil 0 [])), (8, .p (i6 (a2)))], [(3, .box 28 (vV1 t2_2))], L0, []⟩ trivial ?_
    obtain ⟨J8, eJ8, h⟩ := jn_some h
    try dsimp only at h
    refine WC.join (α := List Int) (fun v8 => ⟨[(7, .own 33)], [(33, rI 3 v8)], L0, []⟩) (fun v8 => J8 v8 = some r) ?_ (fun hJ8 => ?_)
    · rintro y8_1 h
      rw [eJ8] at h
      try dsimp only at h
      refine WC.rg hn [] [6] [33] ⟨[(6, .own 33)], [(33, rI 3 y8_1)], L0, []⟩ trivial ?_
      refine WX.ret ?_
      exact WC.outO (by rw [← Option.some.inj h]; kernel_rfl)
    · replace hJ8 := fun y8_1 => hJ8 y8_1
      refine WX.block ?_
      refine WC.nil hn [7] none 33 3 1 (by kernel_rfl) [1, 2, 3, 7, 8] [3, 33] (st' := ⟨[(1, .p (slV (eI .u8) a1)), (2, .p (i6 (a2))), (3, .ptr 3 0), (7, .own 33), (8, .p (i6 (a2)))], [(3, .box 28 (vV1 t2_2)), (33, rI 3 (([] : List Int)))], L0, []⟩) (by kernel_rfl) ?_
      refine WC.loop (V := List Int × Int) (riddleref12_Starts_l0 a1 a2 t2_2 J8) r (fun v25 => ⟨[(1, .p (slV (eI .u8) a1)), (2, .p (i6 (a2))), (3, .ptr 3 0), (7, .own 33), (8, .p (i6 (v25.2)))], [(3, .box 28 (vV1 t2_2)), (33, rI 3 v25.1)], L0, []⟩) _ (([] : List Int), a2) h (fun _ => rfl) [1, 2, 3, 7, 8] [3, 33] (by kernel_rfl) ?_
      clear h; rintro k ⟨x25_1_1, x25_1_2⟩ h K25 hnext25 hexit25
      rw [riddleref12_Starts_l0] at h
      refine WX.seq ?_
      refine WC.rg hn [] [1, 2, 3, 7, 8, 21] [3, 33] ⟨[(1, .p (slV (eI .u8) a1)), (2, .p (i6 (a2))), (3, .ptr 3 0), (7, .own 33), (8, .p (i6 (x25_1_2))), (21, .p (bo (((decide (x25_1_2 ≥ 0))))))], [(3, .box 28 (vV1 t2_2)), (33, rI 3 x25_1_1)], L0, []⟩ trivial ?_
      rcases if_or h with ⟨c41, h⟩ | ⟨c41, h⟩
      · refine WC.condT c41 (by kernel_rfl) ?_
        refine WX.skip ?_
        refine WX.seq ?_
        refine WX.block ?_
        refine WX.seq ?_
        obtain ⟨c42_1, h⟩ := if_some h
        obtain ⟨t42_3, h42_2, h⟩ := bind_some h
        refine WC.drw hn [] [] [(4, .val (.p (slV (eI .u8) (sub_ a1 x25_1_2 a2)))), (5, .resP (bo (t42_3)))] [1, 2, 3, 7, 8, 29] [3, 33] ⟨[(1, .p (slV (eI .u8) a1)), (2, .p (i6 (a2))), (3, .ptr 3 0), (7, .own 33), (8, .p (i6 (x25_1_2))), (29, .p (bo (t42_3)))], [(3, .box 28 (vV1 t2_2)), (33, rI 3 x25_1_1)], L0, []⟩ (And.intro (Sl (eI .u8) a1 x25_1_2 a2 c42_1) (And.intro ((riddleref10_Takes_ok h42_2)) (trivial))) (by kernel_rfl) (by kernel_rfl) (by kernel_rfl) (by kernel_rfl) ?_
        rcases if_or h with ⟨c43, h⟩ | ⟨c43, h⟩
        · refine WC.condT c43 (by kernel_rfl) ?_
          obtain ⟨c44_1, h⟩ := if_some h
          refine WC.r1 hn [(3, .app (some 33) (rI 3 (x25_1_1 ++ ([x25_1_2]))))] [1, 2, 3, 7, 8] [3, 33] ⟨[(1, .p (slV (eI .u8) a1)), (2, .p (i6 (a2))), (3, .ptr 3 0), (7, .own 33), (8, .p (i6 (x25_1_2)))], [(3, .box 28 (vV1 t2_2)), (33, rI 3 (x25_1_1 ++ ([x25_1_2])))], L0, []⟩ (And.intro (Ap (eI .i64) (some 33) 3 8 1 x25_1_1 ([x25_1_2]) c44_1) (trivial)) ?_
          refine WX.popBlk ?_
          refine WC.r1 hn [] [1, 2, 3, 7, 8] [3, 33] ⟨[(1, .p (slV (eI .u8) a1)), (2, .p (i6 (a2))), (3, .ptr 3 0), (7, .own 33), (8, .p (i6 (((IntKind.i64.wrap (x25_1_2 - 1))))))], [(3, .box 28 (vV1 t2_2)), (33, rI 3 (x25_1_1 ++ ([x25_1_2])))], L0, []⟩ trivial ?_
          exact WC.next [1, 2, 3, 7, 8] [3, 33] (by kernel_rfl) (hnext25 (x25_1_1 ++ ([x25_1_2]), (IntKind.i64.wrap (x25_1_2 - 1))) h)
        · refine WC.condF c43 (by kernel_rfl) ?_
          refine WX.skip ?_
          refine WX.popBlk ?_
          refine WC.r1 hn [] [1, 2, 3, 7, 8] [3, 33] ⟨[(1, .p (slV (eI .u8) a1)), (2, .p (i6 (a2))), (3, .ptr 3 0), (7, .own 33), (8, .p (i6 (((IntKind.i64.wrap (x25_1_2 - 1))))))], [(3, .box 28 (vV1 t2_2)), (33, rI 3 x25_1_1)], L0, []⟩ trivial ?_
          exact WC.next [1, 2, 3, 7, 8] [3, 33] (by kernel_rfl) (hnext25 (x25_1_1, (IntKind.i64.wrap (x25_1_2 - 1))) h)
      · refine WC.condF c41 (by kernel_rfl) ?_
        refine WX.exit ?_
        refine WX.popCodeExit ?_
        refine WC.exit_nil (hexit25 _ _ (by simp) ?_)
        refine WX.popBlkHit ?_
        exact WC.keep [7] [33] (by kernel_rfl) (hJ8 x25_1_1 h)
theorem riddleref12_Starts_okP {k : Nat} {a0 : api_Nfa} {a1 : (List Int)} {a2 : Int} {r : (List Int)} (h : riddleref12_Starts k a0 a1 a2 = some r) : Ans Tryd.prog 10 [pP1 a0, slV (eI .u8) a1, i6 (a2)] (sI r) := AnsO.ans (args := [pP1 a0, slV (eI .u8) a1, i6 (a2)]) (riddleref12_Starts_ok h) (by kernel_rfl)
def bits_words (a0 : Int) : Option (Int) :=
  some ((IntKind.i64.wrap (((IntKind.i64.wrap (a0 + 63))).tdiv 64)))
theorem bits_words_ok {a0 : Int} {r : Int} (h : bits_words a0 = some r) : Ans Tryd.prog 119 [i6 (a0)] (i6 (r)) := by
  refine W_fn Tryd.func119 rfl (by kernel_rfl) (by kernel_rfl) ?_
  intro X hro hn
  unfold bits_words at h
  refine WC.rg hn [] [0] [] ⟨[(0, .p (i6 (a0)))], [], L0, []⟩ trivial ?_
  refine WC.rg hn [] [2] [] ⟨[(2, .p (i6 (((IntKind.i64.wrap (((IntKind.i64.wrap (a0 + 63))).tdiv 64))))))], [], L0, []⟩ trivial ?_
  refine WX.ret ?_
  exact WC.outP (by rw [← Option.some.inj h]; kernel_rfl)
def bits_empty (a0 : Int) : Option (api_Bits) :=
  (bits_words a0).bind fun t2_2 => (if okMake 8 t2_2 then some ((api_Bits.mk a0 (List.replicate t2_2.toNat (0 : Int)))) else none)
theorem bits_empty_ok {a0 : Int} {r : api_Bits} (h : bits_empty a0 = some r) : AnsO Tryd.prog 102 [] [.p (i6 (a0))] [(6, rW 58 r.Words)] (.agg [.p (i6 (r.N)), .own 6]) := by
  refine W_fnO [6] Tryd.func102 rfl (by kernel_rfl) (by kernel_rfl) (by kernel_rfl) (by kernel_rfl) ?_
  intro X hro hn
  unfold bits_empty at h
  refine WC.rg hn [] [0, 2] [2] ⟨[(0, .p (i6 (a0))), (2, .ptr 2 0)], [(2, .box 25 [.p (i6 (0)), .p (.sl .nil 0 [])])], L0, []⟩ trivial ?_
  refine WX.seq ?_
  obtain ⟨t2_2, h2_1, h⟩ := bind_some h
  obtain ⟨c2_3, h⟩ := if_some h
  refine WC.r1 hn [(2, .resP (i6 (t2_2))), (3, .ob (rW 58 (List.replicate t2_2.toNat (0 : Int))))] [2] [2, 6] ⟨[(2, .ptr 2 0)], [(2, .box 25 [.p (i6 (a0)), .own 6]), (6, rW 58 (List.replicate t2_2.toNat (0 : Int)))], L0, []⟩ (And.intro ((bits_words_ok h2_1)) (And.intro (Mk (eI .u64) [.int .u64 0] 0 58 8 t2_2 rfl rfl c2_3) (trivial))) ?_
  refine WX.ret ?_
  exact WC.outO (by rw [← Option.some.inj h]; kernel_rfl)
theorem bits_empty_okP {a0 : Int} {r : api_Bits} (h : bits_empty a0 = some r) : Ans Tryd.prog 102 [i6 (a0)] (pP4 r) := AnsO.ans (args := [i6 (a0)]) (bits_empty_ok h) (by kernel_rfl)
def bits_New_l0 (a0 : Int) (a1 : (List Int)) (J7 : List Int → Option (api_Bits × Int)) : Nat → (Int × List Int) → Option (api_Bits × Int)
  | 0, _ => none
  | k + 1, (x26_1_1, x26_1_2) => (if (decide (x26_1_1 < (a1.length : Int))) = true then (at_ a1 x26_1_1).bind fun t45_2 => (if (((decide (t45_2 ≥ 0))) && ((decide (t45_2 < a0)))) = true then (at_ x26_1_2 ((IntKind.i64.wrap (t45_2.tdiv 64)))).bind fun t48_2 => (if ¬ (t45_2.tmod 64) < 0 then bits_New_l0 a0 a1 J7 k ((IntKind.i64.wrap (x26_1_1 + 1)), x26_1_2.set ((IntKind.i64.wrap (t45_2.tdiv 64))).toNat ((bits .or .u64 t48_2 ((IntKind.u64.wrap (1 * 2 ^ (min ((t45_2.tmod 64)).toNat IntKind.u64.bits))))))) else none) else bits_New_l0 a0 a1 J7 k ((IntKind.i64.wrap (x26_1_1 + 1)), x26_1_2)) else J7 x26_1_2)
def bits_New (k : Nat) (a0 : Int) (a1 : (List Int)) : Option (api_Bits × Int) :=
  (if (((decide (a0 < 0))) || ((decide (a0 > 8192)))) = true then some ((api_Bits.mk 0 (([] : List Int))), 1) else (bits_empty a0).bind fun t5_2 => jn (fun (v7 : List Int) => some ((api_Bits.mk t5_2.N v7), 0)) fun J7 => bits_New_l0 a0 a1 J7 k (0, t5_2.Words))
theorem bits_New_ok {k : Nat} {a0 : Int} {a1 : (List Int)} {r : api_Bits × Int} (h : bits_New k a0 a1 = some r) : AnsO Tryd.prog 75 [] [.p (i6 (a0)), .p (sI a1)] [(17, rW 58 r.1.Words)] (.tup [.agg [.p (i6 (r.1.N)), .own 17], .p (i6 (r.2))]) := by
  refine W_fnO [17] Tryd.func75 rfl (by kernel_rfl) (by kernel_rfl) (by kernel_rfl) (by kernel_rfl) ?_
  intro X hro hn
  unfold bits_New at h
  refine WC.rg hn [] [0, 1, 4] [4] ⟨[(0, .p (i6 (a0))), (1, .p (sI a1)), (4, .ptr 4 0)], [(4, .box 25 [.p (i6 (0)), .p (.sl .nil 0 [])])], L0, []⟩ trivial ?_
  refine WX.seq ?_
  refine WX.seq ?_
  refine WC.via (α := Bool) (fun v2 => ⟨[(0, .p (i6 (a0))), (1, .p (sI a1)), (4, .ptr 4 0), (14, .p (bo (v2)))], [(4, .box 25 [.p (i6 (0)), .p (.sl .nil 0 [])])], L0, []⟩) ((((decide (a0 < 0))) || ((decide (a0 > 8192))))) (fun hk => ?_) ?_
  · rcases Bool.eq_false_or_eq_true ((decide (a0 < 0))) with b2_2 | b2_2
    · exact WC.reg hn [(2, .val (.p (bo (true))))] [0, 1, 4, 14] [4] ⟨[(0, .p (i6 (a0))), (1, .p (sI a1)), (4, .ptr 4 0), (14, .p (bo (true)))], [(4, .box 25 [.p (i6 (0)), .p (.sl .nil 0 [])])], L0, []⟩ (And.intro (Bl b2_2) (trivial)) (by kernel_rfl) (hk true (by first | (rw [b2_2]; rfl) | simp [b2_2]))
    · exact WC.reg hn [(2, .val (.p (bo (false))))] [0, 1, 4, 14] [4] ⟨[(0, .p (i6 (a0))), (1, .p (sI a1)), (4, .ptr 4 0), (14, .p (bo (((decide (a0 > 8192))))))], [(4, .box 25 [.p (i6 (0)), .p (.sl .nil 0 [])])], L0, []⟩ (And.intro (Bl b2_2) (trivial)) (by kernel_rfl) (hk ((decide (a0 > 8192))) (by first | (rw [b2_2]; rfl) | simp [b2_2]))
  rcases if_or h with ⟨c3, h⟩ | ⟨c3, h⟩
  · refine WC.condT c3 (by kernel_rfl) ?_
    refine WC.rg hn [] [4, 5] [4] ⟨[(4, .ptr 4 0), (5, .p (i6 (1)))], [(4, .box 25 [.p (i6 (0)), .p (.sl .nil 0 [])])], L0, []⟩ trivial ?_
    refine WX.ret ?_
    refine WC.nil hn [] (some (4, 1)) 17 58 1 (by kernel_rfl) [4, 5] [4, 17] (st' := ⟨[(4, .ptr 4 0), (5, .p (i6 (1)))], [(4, .box 25 [.p (i6 (0)), .own 17]), (17, rW 58 (([] : List Int)))], L0, []⟩) (by kernel_rfl) ?_
    exact WC.outO (by rw [← Option.some.inj h]; kernel_rfl)
  · refine WC.condF c3 (by kernel_rfl) ?_
    refine WX.skip ?_
    refine WX.seq ?_
    obtain ⟨t5_2, h5_1, h⟩ := bind_some h
    refine WC.r1 hn [(1, .co [] [] [] [(17, rW 58 t5_2.Words)] (.agg [.p (i6 (t5_2.N)), .own 17]))] [0, 1, 4, 6] [4, 6, 17] ⟨[(0, .p (i6 (a0))), (1, .p (sI a1)), (4, .ptr 4 0), (6, .ptr 6 0)], [(4, .box 25 [.p (i6 (0)), .p (.sl .nil 0 [])]), (6, .box 25 [.p (i6 (t5_2.N)), .own 17]), (17, rW 58 t5_2.Words)], L0, []⟩ (And.intro (And.intro ((bits_empty_ok h5_1).ren 6 17 (by kernel_rfl)) (trivial)) (trivial)) ?_
    refine WX.seq ?_
    refine WC.rg hn [] [0, 4, 6, 18, 19, 20] [4, 6, 17] ⟨[(0, .p (i6 (a0))), (4, .ptr 4 0), (6, .ptr 6 0), (18, .p (sI a1)), (19, .p (i6 (((a1.length : Int))))), (20, .p (i6 (0)))], [(4, .box 25 [.p (i6 (0)), .p (.sl .nil 0 [])]), (6, .box 25 [.p (i6 (t5_2.N)), .own 17]), (17, rW 58 t5_2.Words)], L0, []⟩ trivial ?_
    obtain ⟨J7, eJ7, h⟩ := jn_some h
    try dsimp only at h
    refine WC.join (α := List Int) (fun v7 => ⟨[(4, .ptr 4 0), (6, .ptr 6 0)], [(4, .box 25 [.p (i6 (0)), .p (.sl .nil 0 [])]), (6, .box 25 [.p (i6 (t5_2.N)), .own 17]), (17, rW 58 v7)], L0, []⟩) (fun v7 => J7 v7 = some r) ?_ (fun hJ7 => ?_)
    · rintro y7_1 h
      rw [eJ7] at h
      try dsimp only at h
      refine WC.rg hn [] [4, 5] [4, 17] ⟨[(4, .ptr 4 0), (5, .p (i6 (0)))], [(4, .box 25 [.p (i6 (t5_2.N)), .own 17]), (17, rW 58 y7_1)], L0, []⟩ trivial ?_
      refine WX.ret ?_
      exact WC.outO (by rw [← Option.some.inj h]; kernel_rfl)
    · replace hJ7 := fun y7_1 => hJ7 y7_1
      refine WX.block ?_
      refine WC.loop (V := Int × List Int) (bits_New_l0 a0 a1 J7) r (fun v26 => ⟨[(0, .p (i6 (a0))), (4, .ptr 4 0), (6, .ptr 6 0), (18, .p (sI a1)), (19, .p (i6 (((a1.length : Int))))), (20, .p (i6 (v26.1)))], [(4, .box 25 [.p (i6 (0)), .p (.sl .nil 0 [])]), (6, .box 25 [.p (i6 (t5_2.N)), .own 17]), (17, rW 58 v26.2)], L0, []⟩) _ (0, t5_2.Words) h (fun _ => rfl) [0, 4, 6, 18, 19, 20] [4, 6, 17] (by kernel_rfl) ?_
      clear h; rintro k ⟨x26_1_1, x26_1_2⟩ h K26 hnext26 hexit26
      rw [bits_New_l0] at h
      refine WC.rg hn [] [0, 4, 6, 18, 19, 20, 21] [4, 6, 17] ⟨[(0, .p (i6 (a0))), (4, .ptr 4 0), (6, .ptr 6 0), (18, .p (sI a1)), (19, .p (i6 (((a1.length : Int))))), (20, .p (i6 (x26_1_1))), (21, .p (bo (((decide (x26_1_1 < (a1.length : Int)))))))], [(4, .box 25 [.p (i6 (0)), .p (.sl .nil 0 [])]), (6, .box 25 [.p (i6 (t5_2.N)), .own 17]), (17, rW 58 x26_1_2)], L0, []⟩ trivial ?_
      refine WX.seq ?_
      rcases if_or h with ⟨c44, h⟩ | ⟨c44, h⟩
      · refine WC.condT c44 (by kernel_rfl) ?_
        refine WX.skip ?_
        refine WX.seq ?_
        refine WX.block ?_
        refine WX.seq ?_
        obtain ⟨t45_2, h45_1, h⟩ := bind_some h
        refine WC.r1 hn [(0, .val (.p (.rop ((eI .i64).cells t45_2 ++ encL (eI .i64) (a1.drop (x26_1_1.toNat + 1))))))] [0, 4, 6, 8, 18, 19, 20] [4, 6, 17] ⟨[(0, .p (i6 (a0))), (4, .ptr 4 0), (6, .ptr 6 0), (8, .p (i6 (t45_2))), (18, .p (sI a1)), (19, .p (i6 (((a1.length : Int))))), (20, .p (i6 (x26_1_1)))], [(4, .box 25 [.p (i6 (0)), .p (.sl .nil 0 [])]), (6, .box 25 [.p (i6 (t5_2.N)), .own 17]), (17, rW 58 x26_1_2)], L0, []⟩ (And.intro (Ix (eI .i64) h45_1) (trivial)) ?_
        refine WX.seq ?_
        refine WC.via (α := Bool) (fun v46 => ⟨[(0, .p (i6 (a0))), (4, .ptr 4 0), (6, .ptr 6 0), (8, .p (i6 (t45_2))), (18, .p (sI a1)), (19, .p (i6 (((a1.length : Int))))), (20, .p (i6 (x26_1_1))), (30, .p (bo (v46)))], [(4, .box 25 [.p (i6 (0)), .p (.sl .nil 0 [])]), (6, .box 25 [.p (i6 (t5_2.N)), .own 17]), (17, rW 58 x26_1_2)], L0, []⟩) ((((decide (t45_2 ≥ 0))) && ((decide (t45_2 < a0))))) (fun hk => ?_) ?_
        · rcases Bool.eq_false_or_eq_true ((decide (t45_2 ≥ 0))) with b46_2 | b46_2
          · exact WC.reg hn [(2, .val (.p (bo (true))))] [0, 4, 6, 8, 18, 19, 20, 30] [4, 6, 17] ⟨[(0, .p (i6 (a0))), (4, .ptr 4 0), (6, .ptr 6 0), (8, .p (i6 (t45_2))), (18, .p (sI a1)), (19, .p (i6 (((a1.length : Int))))), (20, .p (i6 (x26_1_1))), (30, .p (bo (((decide (t45_2 < a0))))))], [(4, .box 25 [.p (i6 (0)), .p (.sl .nil 0 [])]), (6, .box 25 [.p (i6 (t5_2.N)), .own 17]), (17, rW 58 x26_1_2)], L0, []⟩ (And.intro (Bl b46_2) (trivial)) (by kernel_rfl) (hk ((decide (t45_2 < a0))) (by first | (rw [b46_2]; rfl) | simp [b46_2]))
          · exact WC.reg hn [(2, .val (.p (bo (false))))] [0, 4, 6, 8, 18, 19, 20, 30] [4, 6, 17] ⟨[(0, .p (i6 (a0))), (4, .ptr 4 0), (6, .ptr 6 0), (8, .p (i6 (t45_2))), (18, .p (sI a1)), (19, .p (i6 (((a1.length : Int))))), (20, .p (i6 (x26_1_1))), (30, .p (bo (false)))], [(4, .box 25 [.p (i6 (0)), .p (.sl .nil 0 [])]), (6, .box 25 [.p (i6 (t5_2.N)), .own 17]), (17, rW 58 x26_1_2)], L0, []⟩ (And.intro (Bl b46_2) (trivial)) (by kernel_rfl) (hk false (by first | (rw [b46_2]; rfl) | simp [b46_2]))
        rcases if_or h with ⟨c47, h⟩ | ⟨c47, h⟩
        · refine WC.condT c47 (by kernel_rfl) ?_
          obtain ⟨t48_2, h48_1, h⟩ := bind_some h
          obtain ⟨c48_3, h⟩ := if_some h
          refine WC.drw hn [(11, [])] [] [(4, .val (.ptr 17 (((IntKind.i64.wrap (t45_2.tdiv 64))).toNat * 1))), (5, .val (.p (u6 (t48_2)))), (8, .val (.p (u6 ((IntKind.u64.wrap (1 * 2 ^ (min ((t45_2.tmod 64)).toNat IntKind.u64.bits))))))), (10, .val (.ptr 17 (((IntKind.i64.wrap (t45_2.tdiv 64))).toNat * 1))), (11, .sto 17 (rW 58 (x26_1_2.set ((IntKind.i64.wrap (t45_2.tdiv 64))).toNat ((bits .or .u64 t48_2 ((IntKind.u64.wrap (1 * 2 ^ (min ((t45_2.tmod 64)).toNat IntKind.u64.bits)))))))))] [0, 4, 6, 18, 19, 20] [4, 6, 17] ⟨[(0, .p (i6 (a0))), (4, .ptr 4 0), (6, .ptr 6 0), (18, .p (sI a1)), (19, .p (i6 (((a1.length : Int))))), (20, .p (i6 (x26_1_1)))], [(4, .box 25 [.p (i6 (0)), .p (.sl .nil 0 [])]), (6, .box 25 [.p (i6 (t5_2.N)), .own 17]), (17, rW 58 (x26_1_2.set ((IntKind.i64.wrap (t45_2.tdiv 64))).toNat ((bits .or .u64 t48_2 ((IntKind.u64.wrap (1 * 2 ^ (min ((t45_2.tmod 64)).toNat IntKind.u64.bits))))))))], L0, []⟩ (And.intro (IxO 17 1 h48_1) (And.intro (LdO0 Tryd.prog (eI .u64) 58 h48_1) (And.intro (Shl .u64 1 ((t45_2.tmod 64)) c48_3) (And.intro (IxO 17 1 h48_1) (And.intro (StO0 (eI .u64) 17 58 1 1 [u6 (((bits .or .u64 t48_2 ((IntKind.u64.wrap (1 * 2 ^ (min ((t45_2.tmod 64)).toNat IntKind.u64.bits)))))))] ((bits .or .u64 t48_2 ((IntKind.u64.wrap (1 * 2 ^ (min ((t45_2.tmod 64)).toNat IntKind.u64.bits)))))) h48_1 rfl rfl (by decide)) (trivial)))))) (by kernel_rfl) (by kernel_rfl) (by kernel_rfl) (by kernel_rfl) ?_
          refine WX.popBlk ?_
          refine WC.r1 hn [] [0, 4, 6, 18, 19, 20] [4, 6, 17] ⟨[(0, .p (i6 (a0))), (4, .ptr 4 0), (6, .ptr 6 0), (18, .p (sI a1)), (19, .p (i6 (((a1.length : Int))))), (20, .p (i6 (((IntKind.i64.wrap (x26_1_1 + 1))))))], [(4, .box 25 [.p (i6 (0)), .p (.sl .nil 0 [])]), (6, .box 25 [.p (i6 (t5_2.N)), .own 17]), (17, rW 58 (x26_1_2.set ((IntKind.i64.wrap (t45_2.tdiv 64))).toNat ((bits .or .u64 t48_2 ((IntKind.u64.wrap (1 * 2 ^ (min ((t45_2.tmod 64)).toNat IntKind.u64.bits))))))))], L0, []⟩ trivial ?_
          exact WC.next [0, 4, 6, 18, 19, 20] [4, 6, 17] (by kernel_rfl) (hnext26 ((IntKind.i64.wrap (x26_1_1 + 1)), x26_1_2.set ((IntKind.i64.wrap (t45_2.tdiv 64))).toNat ((bits .or .u64 t48_2 ((IntKind.u64.wrap (1 * 2 ^ (min ((t45_2.tmod 64)).toNat IntKind.u64.bits))))))) h)
        · refine WC.condF c47 (by kernel_rfl) ?_
          refine WX.skip ?_
          refine WX.popBlk ?_
          refine WC.r1 hn [] [0, 4, 6, 18, 19, 20] [4, 6, 17] ⟨[(0, .p (i6 (a0))), (4, .ptr 4 0), (6, .ptr 6 0), (18, .p (sI a1)), (19, .p (i6 (((a1.length : Int))))), (20, .p (i6 (((IntKind.i64.wrap (x26_1_1 + 1))))))], [(4, .box 25 [.p (i6 (0)), .p (.sl .nil 0 [])]), (6, .box 25 [.p (i6 (t5_2.N)), .own 17]), (17, rW 58 x26_1_2)], L0, []⟩ trivial ?_
          exact WC.next [0, 4, 6, 18, 19, 20] [4, 6, 17] (by kernel_rfl) (hnext26 ((IntKind.i64.wrap (x26_1_1 + 1)), x26_1_2) h)
      · refine WC.condF c44 (by kernel_rfl) ?_
        refine WX.exit ?_
        refine WX.popCodeExit ?_
        refine WC.exit_nil (hexit26 _ _ (by simp) ?_)
        refine WX.popBlkHit ?_
        exact WC.keep [4, 6] [4, 6, 17] (by kernel_rfl) (hJ7 x26_1_2 h)
theorem bits_New_okP {k : Nat} {a0 : Int} {a1 : (List Int)} {r : api_Bits × Int} (h : bits_New k a0 a1 = some r) : Ans Tryd.prog 75 [i6 (a0), sI a1] (.tup [pP4 r.1, i6 (r.2)]) := AnsO.ans (args := [i6 (a0), sI a1]) (bits_New_ok h) (by kernel_rfl)
def reverse_none (k : Nat) (a0 : Int) : Option (api_Bits) :=
  (bits_New k a0 ([])).bind fun t2_2 => some t2_2.1
theorem reverse_none_ok {k : Nat} {a0 : Int} {r : api_Bits} (h : reverse_none k a0 = some r) : AnsO Tryd.prog 49 [] [.p (i6 (a0))] [(7, rW 58 r.Words)] (.agg [.p (i6 (r.N)), .own 7]) := by
  refine W_fnO [7] Tryd.func49 rfl (by kernel_rfl) (by kernel_rfl) (by kernel_rfl) (by kernel_rfl) ?_
  intro X hro hn
  unfold reverse_none at h
  refine WC.rg hn [] [0, 2] [2] ⟨[(0, .p (i6 (a0))), (2, .ptr 2 0)], [(2, .box 25 [.p (i6 (0)), .p (.sl .nil 0 [])])], L0, []⟩ trivial ?_
  refine WX.seq ?_
  obtain ⟨t2_2, h2_1, h⟩ := bind_some h
  refine WC.r1 hn [(1, .co [] [] [] [(7, rW 58 t2_2.1.Words)] (.tup [.agg [.p (i6 (t2_2.1.N)), .own 7], .p (i6 (t2_2.2))]))] [2, 3] [2, 3, 7] ⟨[(2, .ptr 2 0), (3, .ptr 3 0)], [(2, .box 25 [.p (i6 (0)), .p (.sl .nil 0 [])]), (3, .box 25 [.p (i6 (t2_2.1.N)), .own 7]), (7, rW 58 t2_2.1.Words)], L0, []⟩ (And.intro (And.intro ((bits_New_ok h2_1).ren 17 7 (by kernel_rfl)) (trivial)) (trivial)) ?_
  refine WC.rg hn [] [2] [2, 7] ⟨[(2, .ptr 2 0)], [(2, .box 25 [.p (i6 (t2_2.1.N)), .own 7]), (7, rW 58 t2_2.1.Words)], L0, []⟩ trivial ?_
  refine WX.ret ?_
  exact WC.outO (by rw [← Option.some.inj h]; kernel_rfl)
theorem reverse_none_okP {k : Nat} {a0 : Int} {r : api_Bits} (h : reverse_none k a0 = some r) : Ans Tryd.prog 49 [i6 (a0)] (pP4 r) := AnsO.ans (args := [i6 (a0)]) (reverse_none_ok h) (by kernel_rfl)
def bits_Check (a0 : api_Bits) : Option (Int) :=
  ((if (decide (a0.N < 0)) = true then some true else (if (decide (a0.N > 8192)) = true then some true else (bits_words a0.N).bind fun t2_2 => some (((a0.Words.length : Int) != t2_2)))) : Option (Bool)).bind fun v2 => (if v2 = true then some 10 else ((if (decide ((a0.N.tmod 64) > 0)) = true then (at_ a0.Words ((IntKind.i64.wrap ((a0.Words.length : Int) - 1)))).bind fun t6_2 => (if ¬ (a0.N.tmod 64) < 0 then some (((t6_2.fdiv (2 ^ (min ((a0.N.tmod 64)).toNat IntKind.u64.bits))) != 0)) else none) else some false) : Option (Bool)).bind fun v6 => (if v6 = true then some 10 else some 0))
theorem bits_Check_ok {a0 : api_Bits} {r : Int} (h : bits_Check a0 = some r) : Ans Tryd.prog 104 [pP4 a0] (i6 (r)) := by
  refine W_fn Tryd.func104 rfl (by kernel_rfl) (by kernel_rfl) ?_
  intro X hro hn
  unfold bits_Check at h
  refine WC.rg hn [] [1] [1] ⟨[(1, .ptr 1 0)], [(1, .box 25 (vV4 a0))], L0, []⟩ trivial ?_
  refine WX.seq ?_
  refine WX.seq ?_
  obtain ⟨m2_1, g2, h⟩ := bind_some h
  refine WC.via (α := Bool) (fun v2 => ⟨[(1, .ptr 1 0), (20, .p (bo (v2)))], [(1, .box 25 (vV4 a0))], L0, []⟩) m2_1 (fun hk => ?_) ?_
  · rcases if_or g2 with ⟨b2_3, g2⟩ | ⟨b2_3, g2⟩
    · exact WC.drw hn [] [] [(3, .val (.p (bo (true))))] [1, 20] [1] ⟨[(1, .ptr 1 0), (20, .p (bo (true)))], [(1, .box 25 (vV4 a0))], L0, []⟩ (And.intro (Bl b2_3) (trivial)) (by kernel_rfl) (by kernel_rfl) (by kernel_rfl) (by kernel_rfl) (hk true (Option.some.inj g2))
    · rcases if_or g2 with ⟨b2_8, g2⟩ | ⟨b2_8, g2⟩
      · exact WC.drw hn [] [] [(3, .val (.p (bo (false)))), (8, .val (.p (bo (true))))] [1, 20] [1] ⟨[(1, .ptr 1 0), (20, .p (bo (true)))], [(1, .box 25 (vV4 a0))], L0, []⟩ (And.intro (Bl b2_3) (And.intro (Bl b2_8) (trivial))) (by kernel_rfl) (by kernel_rfl) (by kernel_rfl) (by kernel_rfl) (hk true (Option.some.inj g2))
      · obtain ⟨t2_2, h2_1, g2⟩ := bind_some g2
        exact WC.drw hn [] [] [(3, .val (.p (bo (false)))), (8, .val (.p (bo (false)))), (14, .resP (i6 (t2_2)))] [1, 20] [1] ⟨[(1, .ptr 1 0), (20, .p (bo ((((a0.Words.length : Int) != t2_2)))))], [(1, .box 25 (vV4 a0))], L0, []⟩ (And.intro (Bl b2_3) (And.intro (Bl b2_8) (And.intro ((bits_words_ok h2_1)) (trivial)))) (by kernel_rfl) (by kernel_rfl) (by kernel_rfl) (by kernel_rfl) (hk (((a0.Words.length : Int) != t2_2)) (Option.some.inj g2))
  rcases if_or h with ⟨c3, h⟩ | ⟨c3, h⟩
  · refine WC.condT c3 (by kernel_rfl) ?_
    refine WC.rg hn [] [2] [] ⟨[(2, .p (i6 (10)))], [], L0, []⟩ trivial ?_
    refine WX.ret ?_
    exact WC.outP (by rw [← Option.some.inj h]; kernel_rfl)
  · refine WC.condF c3 (by kernel_rfl) ?_
    refine WX.skip ?_
    refine WX.seq ?_
    refine WC.rg hn [] [1, 3] [1] ⟨[(1, .ptr 1 0), (3, .p (i6 (((a0.N.tmod 64)))))], [(1, .box 25 (vV4 a0))], L0, []⟩ trivial ?_
    refine WX.seq ?_
    obtain ⟨m6_1, g6, h⟩ := bind_some h
    refine WC.via (α := Bool) (fun v6 => ⟨[(38, .p (bo (v6)))], [], L0, []⟩) m6_1 (fun hk => ?_) ?_
    · rcases if_or g6 with ⟨b6_2, g6⟩ | ⟨b6_2, g6⟩
      · obtain ⟨t6_2, h6_1, g6⟩ := bind_some g6
        obtain ⟨c6_3, g6⟩ := if_some g6
        exact WC.reg hn [(2, .val (.p (bo (true)))), (9, .val (.p (.rop ((eI .u64).cells t6_2 ++ encL (eI .u64) (a0.Words.drop (((IntKind.i64.wrap ((a0.Words.length : Int) - 1))).toNat + 1)))))), (12, .val (.p (u6 ((t6_2.fdiv (2 ^ (min ((a0.N.tmod 64)).toNat IntKind.u64.bits)))))))] [38] [] ⟨[(38, .p (bo ((((t6_2.fdiv (2 ^ (min ((a0.N.tmod 64)).toNat IntKind.u64.bits))) != 0)))))], [], L0, []⟩ (And.intro (Bl b6_2) (And.intro (Ix (eI .u64) h6_1) (And.intro (Shr .u64 t6_2 ((a0.N.tmod 64)) c6_3) (trivial)))) (by kernel_rfl) (hk (((t6_2.fdiv (2 ^ (min ((a0.N.tmod 64)).toNat IntKind.u64.bits))) != 0)) (Option.some.inj g6))
      · exact WC.reg hn [(2, .val (.p (bo (false))))] [38] [] ⟨[(38, .p (bo (false)))], [], L0, []⟩ (And.intro (Bl b6_2) (trivial)) (by kernel_rfl) (hk false (Option.some.inj g6))
    rcases if_or h with ⟨c7, h⟩ | ⟨c7, h⟩
    · refine WC.condT c7 (by kernel_rfl) ?_
      refine WC.rg hn [] [2] [] ⟨[(2, .p (i6 (10)))], [], L0, []⟩ trivial ?_
      refine WX.ret ?_
      exact WC.outP (by rw [← Option.some.inj h]; kernel_rfl)
    · refine WC.condF c7 (by kernel_rfl) ?_
      refine WX.skip ?_
      refine WC.rg hn [] [2] [] ⟨[(2, .p (i6 (0)))], [], L0, []⟩ trivial ?_
      refine WX.ret ?_
      exact WC.outP (by rw [← Option.some.inj h]; kernel_rfl)
def glushkov_Check_1_v1 (a0 : api_Bits) (a1 : Int) : Option (Bool) :=
  (bits_Check a0).bind fun t2_2 => some ((((t2_2 != 0)) || ((a0.N != a1))))
theorem glushkov_Check_1_v1_ok {a0 : api_Bits} {a1 : Int} {r : Bool} (h : glushkov_Check_1_v1 a0 a1 = some r) : Ans Tryd.prog 113 [pP4 a0, .rop ([i6 (a1)])] (bo (r)) := by
  refine W_fn Tryd.func113 rfl (by kernel_rfl) (by kernel_rfl) ?_
  intro X hro hn
  unfold glushkov_Check_1_v1 at h
  refine WC.rg hn [] [1, 2] [2] ⟨[(1, .p (.rop ([i6 (a1)]))), (2, .ptr 2 0)], [(2, .box 25 (vV4 a0))], L0, []⟩ trivial ?_
  refine WX.seq ?_
  obtain ⟨t2_2, h2_1, h⟩ := bind_some h
  refine WC.via (α := Bool) (fun v2 => ⟨[(3, .p (bo (v2)))], [], L0, []⟩) ((((t2_2 != 0)) || ((a0.N != a1)))) (fun hk => ?_) ?_
  · rcases Bool.eq_false_or_eq_true ((t2_2 != 0)) with b2_3 | b2_3
    · exact WC.reg hn [(1, .resP (i6 (t2_2))), (3, .val (.p (bo (true))))] [3] [] ⟨[(3, .p (bo (true)))], [], L0, []⟩ (And.intro ((bits_Check_ok h2_1)) (And.intro (Bl b2_3) (trivial))) (by kernel_rfl) (hk true (by first | (rw [b2_3]; rfl) | simp [b2_3]))
    · exact WC.reg hn [(1, .resP (i6 (t2_2))), (3, .val (.p (bo (false))))] [3] [] ⟨[(3, .p (bo (((a0.N != a1)))))], [], L0, []⟩ (And.intro ((bits_Check_ok h2_1)) (And.intro (Bl b2_3) (trivial))) (by kernel_rfl) (hk ((a0.N != a1)) (by first | (rw [b2_3]; rfl) | simp [b2_3]))
  refine WX.ret ?_
  exact WC.outP (by rw [← Option.some.inj h]; kernel_rfl)
def slices_IndexFunc_riddle_api_Bits_riddle_api_Bits_v1_l0 (a0 : (List api_Bits)) (a1 : (Int)) (J3 : Unit → Option (Int)) : Nat → Int → Option (Int)
  | 0, _ => none
  | k + 1, x20_1_1 => (if (decide (x20_1_1 < (a0.length : Int))) = true then (at_ a0 x20_1_1).bind fun t38_2 => (glushkov_Check_1_v1 t38_2 a1).bind fun t38_4 => (if t38_4 = true then some x20_1_1 else slices_IndexFunc_riddle_api_Bits_riddle_api_Bits_v1_l0 a0 a1 J3 k ((IntKind.i64.wrap (x20_1_1 + 1)))) else J3 ())
def slices_IndexFunc_riddle_api_Bits_riddle_api_Bits_v1 (k : Nat) (a0 : (List api_Bits)) (a1 : (Int)) : Option (Int) :=
  jn (fun (v3 : Unit) => some ((-1))) fun J3 => slices_IndexFunc_riddle_api_Bits_riddle_api_Bits_v1_l0 a0 a1 J3 k 0
theorem slices_IndexFunc_riddle_api_Bits_riddle_api_Bits_v1_ok {k : Nat} {a0 : (List api_Bits)} {a1 : (Int)} {r : Int} (h : slices_IndexFunc_riddle_api_Bits_riddle_api_Bits_v1 k a0 a1 = some r) : Ans Tryd.prog 125 [sB a0, .fn 113 [.rop ([i6 (a1)])]] (i6 (r)) := by
  refine W_fn Tryd.func125 rfl (by kernel_rfl) (by kernel_rfl) ?_
  intro X hro hn
  unfold slices_IndexFunc_riddle_api_Bits_riddle_api_Bits_v1 at h
  refine WC.rg hn [] [0, 1] [] ⟨[(0, .p (sB a0)), (1, .p (.fn 113 [.rop ([i6 (a1)])]))], [], L0, []⟩ trivial ?_
  refine WX.seq ?_
  refine WC.rg hn [] [0, 1, 7, 8] [] ⟨[(0, .p (sB a0)), (1, .p (.fn 113 [.rop ([i6 (a1)])])), (7, .p (i6 (((a0.length : Int))))), (8, .p (i6 (0)))], [], L0, []⟩ trivial ?_
  obtain ⟨J3, eJ3, h⟩ := jn_some h
  try dsimp only at h
  refine WC.join (α := Unit) (fun v3 => ⟨[], [], L0, []⟩) (fun v3 => J3 v3 = some r) ?_ (fun hJ3 => ?_)
  · rintro _ h
    rw [eJ3] at h
    try dsimp only at h
    refine WC.rg hn [] [4] [] ⟨[(4, .p (i6 (((-1)))))], [], L0, []⟩ trivial ?_
    refine WX.ret ?_
    exact WC.outP (by rw [← Option.some.inj h]; kernel_rfl)
  · skip
    refine WX.block ?_
    refine WC.loop (V := Int) (slices_IndexFunc_riddle_api_Bits_riddle_api_Bits_v1_l0 a0 a1 J3) r (fun v20 => ⟨[(0, .p (sB a0)), (1, .p (.fn 113 [.rop ([i6 (a1)])])), (7, .p (i6 (((a0.length : Int))))), (8, .p (i6 (v20)))], [], L0, []⟩) _ 0 h (fun _ => rfl) [0, 1, 7, 8] [] (by kernel_rfl) ?_
    clear h; rintro k x20_1_1 h K20 hnext20 hexit20
    rw [slices_IndexFunc_riddle_api_Bits_riddle_api_Bits_v1_l0] at h
    refine WC.rg hn [] [0, 1, 7, 8, 9] [] ⟨[(0, .p (sB a0)), (1, .p (.fn 113 [.rop ([i6 (a1)])])), (7, .p (i6 (((a0.length : Int))))), (8, .p (i6 (x20_1_1))), (9, .p (bo (((decide (x20_1_1 < (a0.length : Int)))))))], [], L0, []⟩ trivial ?_
    refine WX.seq ?_
    rcases if_or h with ⟨c36, h⟩ | ⟨c36, h⟩
    · refine WC.condT c36 (by kernel_rfl) ?_
      refine WX.skip ?_
      refine WX.seq ?_
      refine WX.block ?_
      refine WC.rg hn [] [0, 1, 5, 7, 8] [] ⟨[(0, .p (sB a0)), (1, .p (.fn 113 [.rop ([i6 (a1)])])), (5, .p (i6 (x20_1_1))), (7, .p (i6 (((a0.length : Int))))), (8, .p (i6 (x20_1_1)))], [], L0, []⟩ trivial ?_
      refine WX.seq ?_
      obtain ⟨t38_2, h38_1, h⟩ := bind_some h
      obtain ⟨t38_4, h38_3, h⟩ := bind_some h
      refine WC.r1 hn [(3, .val (.p (.rop (e_api_Bits.cells t38_2 ++ encL e_api_Bits (a0.drop (x20_1_1.toNat + 1)))))), (5, .resP (bo (t38_4)))] [0, 1, 5, 7, 8, 16] [] ⟨[(0, .p (sB a0)), (1, .p (.fn 113 [.rop ([i6 (a1)])])), (5, .p (i6 (x20_1_1))), (7, .p (i6 (((a0.length : Int))))), (8, .p (i6 (x20_1_1))), (16, .p (bo (t38_4)))], [], L0, []⟩ (And.intro (Ix e_api_Bits h38_1) (And.intro ((glushkov_Check_1_v1_ok h38_3)) (trivial))) ?_
      rcases if_or h with ⟨c39, h⟩ | ⟨c39, h⟩
      · refine WC.condT c39 (by kernel_rfl) ?_
        refine WC.rg hn [] [4] [] ⟨[(4, .p (i6 (x20_1_1)))], [], L0, []⟩ trivial ?_
        refine WX.ret ?_
        refine WC.ret_all (hexit20 _ _ (by simp) ?_)
        exact WC.outP (by rw [← Option.some.inj h]; kernel_rfl)
      · refine WC.condF c39 (by kernel_rfl) ?_
        refine WX.skip ?_
        refine WX.popBlk ?_
        refine WC.r1 hn [] [0, 1, 7, 8] [] ⟨[(0, .p (sB a0)), (1, .p (.fn 113 [.rop ([i6 (a1)])])), (7, .p (i6 (((a0.length : Int))))), (8, .p (i6 (((IntKind.i64.wrap (x20_1_1 + 1))))))], [], L0, []⟩ trivial ?_
        exact WC.next [0, 1, 7, 8] [] (by kernel_rfl) (hnext20 ((IntKind.i64.wrap (x20_1_1 + 1))) h)
    · refine WC.condF c36 (by kernel_rfl) ?_
      refine WX.exit ?_
      refine WX.popCodeExit ?_
      refine WC.exit_nil (hexit20 _ _ (by simp) ?_)
      refine WX.popBlkHit ?_
      exact WC.keep [] [] (by kernel_rfl) (hJ3 () h)
def slices_ContainsFunc_riddle_api_Bits_riddle_api_Bits_v1 (k : Nat) (a0 : (List api_Bits)) (a1 : (Int)) : Option (Bool) :=
  (slices_IndexFunc_riddle_api_Bits_riddle_api_Bits_v1 k a0 a1).bind fun t2_2 => some ((decide (t2_2 ≥ 0)))
theorem slices_ContainsFunc_riddle_api_Bits_riddle_api_Bits_v1_ok {k : Nat} {a0 : (List api_Bits)} {a1 : (Int)} {r : Bool} (h : slices_ContainsFunc_riddle_api_Bits_riddle_api_Bits_v1 k a0 a1 = some r) : Ans Tryd.prog 114 [sB a0, .fn 113 [.rop ([i6 (a1)])]] (bo (r)) := by
  refine W_fn Tryd.func114 rfl (by kernel_rfl) (by kernel_rfl) ?_
  intro X hro hn
  unfold slices_ContainsFunc_riddle_api_Bits_riddle_api_Bits_v1 at h
  refine WC.rg hn [] [0, 1] [] ⟨[(0, .p (sB a0)), (1, .p (.fn 113 [.rop ([i6 (a1)])]))], [], L0, []⟩ trivial ?_
  refine WX.seq ?_
  obtain ⟨t2_2, h2_1, h⟩ := bind_some h
  refine WC.r1 hn [(2, .resP (i6 (t2_2)))] [4] [] ⟨[(4, .p (bo (((decide (t2_2 ≥ 0))))))], [], L0, []⟩ (And.intro ((slices_IndexFunc_riddle_api_Bits_riddle_api_Bits_v1_ok h2_1)) (trivial)) ?_
  refine WX.ret ?_
  exact WC.outP (by rw [← Option.some.inj h]; kernel_rfl)
def glushkov_Check (k : Nat) (a0 : api_Nfa) : Option (Int) :=
  (if (((decide ((a0.Classes.length : Int) > 512))) || (((a0.Follow.length : Int) != (a0.Classes.length : Int)))) = true then some 100 else (glushkov_Check_1_v1 a0.First ((a0.Classes.length : Int))).bind fun t7_2 => ((if t7_2 = true then some true else (glushkov_Check_1_v1 a0.Last ((a0.Classes.length : Int))).bind fun t7_4 => (if t7_4 = true then some true else (slices_ContainsFunc_riddle_api_Bits_riddle_api_Bits_v1 k a0.Follow ((a0.Classes.length : Int))).bind fun t7_6 => some t7_6)) : Option (Bool)).bind fun v7 => (if v7 = true then some 100 else some 0))
theorem glushkov_Check_ok {k : Nat} {a0 : api_Nfa} {r : Int} (h : glushkov_Check k a0 = some r) : Ans Tryd.prog 89 [pP1 a0] (i6 (r)) := by
  refine W_fn Tryd.func89 rfl (by kernel_rfl) (by kernel_rfl) ?_
  intro X hro hn
  unfold glushkov_Check at h
  refine WC.rg hn [] [1] [1] ⟨[(1, .ptr 1 0)], [(1, .box 28 (vV1 a0))], L0, []⟩ trivial ?_
  refine WC.rg hn [] [1, 3] [1, 3] ⟨[(1, .ptr 1 0), (3, .ptr 3 0)], [(1, .box 28 (vV1 a0)), (3, .box 3 [.p (i6 (((a0.Classes.length : Int))))])], L0, []⟩ trivial ?_
  refine WX.seq ?_
  refine WX.seq ?_
  refine WC.via (α := Bool) (fun v3 => ⟨[(1, .ptr 1 0), (3, .ptr 3 0), (16, .p (bo (v3)))], [(1, .box 28 (vV1 a0)), (3, .box 3 [.p (i6 (((a0.Classes.length : Int))))])], L0, []⟩) ((((decide ((a0.Classes.length : Int) > 512))) || (((a0.Follow.length : Int) != (a0.Classes.length : Int))))) (fun hk => ?_) ?_
  · rcases Bool.eq_false_or_eq_true ((decide ((a0.Classes.length : Int) > 512))) with b3_2 | b3_2
    · exact WC.reg hn [(2, .val (.p (bo (true))))] [1, 3, 16] [1, 3] ⟨[(1, .ptr 1 0), (3, .ptr 3 0), (16, .p (bo (true)))], [(1, .box 28 (vV1 a0)), (3, .box 3 [.p (i6 (((a0.Classes.length : Int))))])], L0, []⟩ (And.intro (Bl b3_2) (trivial)) (by kernel_rfl) (hk true (by first | (rw [b3_2]; rfl) | simp [b3_2]))
    · exact WC.reg hn [(2, .val (.p (bo (false))))] [1, 3, 16] [1, 3] ⟨[(1, .ptr 1 0), (3, .ptr 3 0), (16, .p (bo ((((a0.Follow.length : Int) != (a0.Classes.length : Int))))))], [(1, .box 28 (vV1 a0)), (3, .box 3 [.p (i6 (((a0.Classes.length : Int))))])], L0, []⟩ (And.intro (Bl b3_2) (trivial)) (by kernel_rfl) (hk (((a0.Follow.length : Int) != (a0.Classes.length : Int))) (by first | (rw [b3_2]; rfl) | simp [b3_2]))
  rcases if_or h with ⟨c4, h⟩ | ⟨c4, h⟩
  · refine WC.condT c4 (by kernel_rfl) ?_
    refine WC.rg hn [] [2] [] ⟨[(2, .p (i6 (100)))], [], L0, []⟩ trivial ?_
    refine WX.ret ?_
    exact WC.outP (by rw [← Option.some.inj h]; kernel_rfl)
  · refine WC.condF c4 (by kernel_rfl) ?_
    refine WX.skip ?_
    refine WC.rg hn [] [1, 4] [1, 3] ⟨[(1, .ptr 1 0), (4, .fn 113 [.ptr 3 0])], [(1, .box 28 (vV1 a0)), (3, .box 3 [.p (i6 (((a0.Classes.length : Int))))])], L0, []⟩ trivial ?_
    refine WX.seq ?_
    refine WX.seq ?_
    obtain ⟨t7_2, h7_1, h⟩ := bind_some h
    obtain ⟨m7_1, g7, h⟩ := bind_some h
    refine WC.via (α := Bool) (fun v7 => ⟨[(33, .p (bo (v7)))], [], L0, []⟩) m7_1 (fun hk => ?_) ?_
    · rcases if_or g7 with ⟨b7_4, g7⟩ | ⟨b7_4, g7⟩
      · exact WC.reg hn [(3, .res (bo (t7_2))), (4, .val (.p (bo (true))))] [33] [] ⟨[(33, .p (bo (true)))], [], L0, []⟩ (And.intro (And.intro (glushkov_Check_1_v1_ok h7_1) (rfl : (bo (t7_2) : PV).flat = true)) (And.intro (Bl b7_4) (trivial))) (by kernel_rfl) (hk true (Option.some.inj g7))
      · obtain ⟨t7_4, h7_3, g7⟩ := bind_some g7
        rcases if_or g7 with ⟨b7_10, g7⟩ | ⟨b7_10, g7⟩
        · exact WC.reg hn [(3, .res (bo (t7_2))), (4, .val (.p (bo (false)))), (8, .res (bo (t7_4))), (10, .val (.p (bo (true))))] [33] [] ⟨[(33, .p (bo (true)))], [], L0, []⟩ (And.intro (And.intro (glushkov_Check_1_v1_ok h7_1) (rfl : (bo (t7_2) : PV).flat = true)) (And.intro (Bl b7_4) (And.intro (And.intro (glushkov_Check_1_v1_ok h7_3) (rfl : (bo (t7_4) : PV).flat = true)) (And.intro (Bl b7_10) (trivial))))) (by kernel_rfl) (hk true (Option.some.inj g7))
        · obtain ⟨t7_6, h7_5, g7⟩ := bind_some g7
          exact WC.reg hn [(3, .res (bo (t7_2))), (4, .val (.p (bo (false)))), (8, .res (bo (t7_4))), (10, .val (.p (bo (false)))), (14, .res (bo (t7_6)))] [33] [] ⟨[(33, .p (bo (t7_6)))], [], L0, []⟩ (And.intro (And.intro (glushkov_Check_1_v1_ok h7_1) (rfl : (bo (t7_2) : PV).flat = true)) (And.intro (Bl b7_4) (And.intro (And.intro (glushkov_Check_1_v1_ok h7_3) (rfl : (bo (t7_4) : PV).flat = true)) (And.intro (Bl b7_10) (And.intro (And.intro (slices_ContainsFunc_riddle_api_Bits_riddle_api_Bits_v1_ok h7_5) (rfl : (bo (t7_6) : PV).flat = true)) (trivial)))))) (by kernel_rfl) (hk t7_6 (Option.some.inj g7))
    rcases if_or h with ⟨c8, h⟩ | ⟨c8, h⟩
    · refine WC.condT c8 (by kernel_rfl) ?_
      refine WC.rg hn [] [2] [] ⟨[(2, .p (i6 (100)))], [], L0, []⟩ trivial ?_
      refine WX.ret ?_
      exact WC.outP (by rw [← Option.some.inj h]; kernel_rfl)
    · refine WC.condF c8 (by kernel_rfl) ?_
      refine WX.skip ?_
      refine WC.rg hn [] [2] [] ⟨[(2, .p (i6 (0)))], [], L0, []⟩ trivial ?_
      refine WX.ret ?_
      exact WC.outP (by rw [← Option.some.inj h]; kernel_rfl)
def slices_Clone_riddle_api_Class_riddle_api_Class (a0 : (List (Arr4 Int))) : Option ((List (Arr4 Int))) :=
  (if okApp 32 (([] : List (Arr4 Int)).length + a0.length) then some (([] : List (Arr4 Int)) ++ a0) else none)
theorem slices_Clone_riddle_api_Class_riddle_api_Class_ok {a0 : (List (Arr4 Int))} {r : (List (Arr4 Int))} (h : slices_Clone_riddle_api_Class_riddle_api_Class a0 = some r) : AnsO Tryd.prog 115 [] [.p (sC a0)] [(7, rowV 60 (e4 (eI .u64)) r)] (.own 7) := by
  refine W_fnO [7] Tryd.func115 rfl (by kernel_rfl) (by kernel_rfl) (by kernel_rfl) (by kernel_rfl) ?_
  intro X hro hn
  unfold slices_Clone_riddle_api_Class_riddle_api_Class at h
  refine WC.rg hn [] [0] [] ⟨[(0, .p (sC a0))], [], L0, []⟩ trivial ?_
  refine WX.seq ?_
  refine WX.seq ?_
  refine WC.nilCase (E := (e4 (eI .u64))) (l := a0) 0 (by kernel_rfl) (fun hnil => ?_) ?_
  · have h1 : (some (([] : List (Arr4 Int)))) = some r := by rw [hnil] at h; clear hnil; simp at h ⊢; first | exact h.2 | exact h | simp_all
    replace h := h1
    refine WC.keep [0] [] (st' := ⟨[(0, .p (.sl .isnil a0.length (encL (e4 (eI .u64)) a0)))], [], L0, []⟩) (by kernel_rfl) ?_
    refine WC.r1 hn [] [0, 4] [] ⟨[(0, .p (.sl .isnil a0.length (encL (e4 (eI .u64)) a0))), (4, .p (bo (true)))], [], L0, []⟩ trivial ?_
    refine WC.tag [0] [] [0, 4] [] (st' := ⟨[(0, .p (sC a0)), (4, .p (bo (true)))], [], L0, []⟩) (by kernel_rfl) ?_
    refine WC.condT rfl (by kernel_rfl) ?_
    refine WC.rg hn [] [2] [] ⟨[(2, .p (.sl .nil 0 []))], [], L0, []⟩ trivial ?_
    refine WX.ret ?_
    refine WC.nil hn [2] none 7 60 4 (by kernel_rfl) [2] [7] (st' := ⟨[(2, .own 7)], [(7, rowV 60 (e4 (eI .u64)) (([] : List (Arr4 Int))))], L0, []⟩) (by kernel_rfl) ?_
    exact WC.outO (by rw [← Option.some.inj h]; kernel_rfl)
  · refine WC.keep [0] [] (st' := ⟨[(0, .p (.sl .nn a0.length (encL (e4 (eI .u64)) a0)))], [], L0, []⟩) (by kernel_rfl) ?_
    refine WC.r1 hn [] [0, 4] [] ⟨[(0, .p (.sl .nn a0.length (encL (e4 (eI .u64)) a0))), (4, .p (bo (false)))], [], L0, []⟩ trivial ?_
    refine WC.tag [0] [] [0, 4] [] (st' := ⟨[(0, .p (sC a0)), (4, .p (bo (false)))], [], L0, []⟩) (by kernel_rfl) ?_
    refine WC.condF rfl (by kernel_rfl) ?_
    refine WX.skip ?_
    refine WX.seq ?_
    obtain ⟨c6_1, h⟩ := if_some h
    refine WC.r1 hn [(2, .app (some 5) (rowV 60 (e4 (eI .u64)) (([] : List (Arr4 Int)) ++ a0)))] [2] [7] ⟨[(2, .own 7)], [(7, rowV 60 (e4 (eI .u64)) (([] : List (Arr4 Int)) ++ a0))], L0, []⟩ (And.intro (ApS (e4 (eI .u64)) (some 5) 60 32 ([] : List (Arr4 Int)) a0 c6_1) (trivial)) ?_
    refine WX.ret ?_
    exact WC.outO (by rw [← Option.some.inj h]; kernel_rfl)
theorem slices_Clone_riddle_api_Class_riddle_api_Class_okP {a0 : (List (Arr4 Int))} {r : (List (Arr4 Int))} (h : slices_Clone_riddle_api_Class_riddle_api_Class a0 = some r) : Ans Tryd.prog 115 [sC a0] (sC r) := AnsO.ans (args := [sC a0]) (slices_Clone_riddle_api_Class_riddle_api_Class_ok h) (by kernel_rfl)
def slices_Clone_uint64_uint64 (a0 : (List Int)) : Option ((List Int)) :=
  (if okApp 8 (([] : List Int).length + a0.length) then some (([] : List Int) ++ a0) else none)
theorem slices_Clone_uint64_uint64_ok {a0 : (List Int)} {r : (List Int)} (h : slices_Clone_uint64_uint64 a0 = some r) : AnsO Tryd.prog 118 [] [.p (sW a0)] [(7, rW 58 r)] (.own 7) := by
  refine W_fnO [7] Tryd.func118 rfl (by kernel_rfl) (by kernel_rfl) (by kernel_rfl) (by kernel_rfl) ?_
  intro X hro hn
  unfold slices_Clone_uint64_uint64 at h
  refine WC.rg hn [] [0] [] ⟨[(0, .p (sW a0))], [], L0, []⟩ trivial ?_
  refine WX.seq ?_
  refine WX.seq ?_
  refine WC.nilCase (E := (eI .u64)) (l := a0) 0 (by kernel_rfl) (fun hnil => ?_) ?_
  · have h1 : (some (([] : List Int))) = some r := by rw [hnil] at h; clear hnil; simp at h ⊢; first | exact h.2 | exact h | simp_all
    replace h := h1
    refine WC.keep [0] [] (st' := ⟨[(0, .p (.sl .isnil a0.length (encL (eI .u64) a0)))], [], L0, []⟩) (by kernel_rfl) ?_
    refine WC.r1 hn [] [0, 4] [] ⟨[(0, .p (.sl .isnil a0.length (encL (eI .u64) a0))), (4, .p (bo (true)))], [], L0, []⟩ trivial ?_
    refine WC.tag [0] [] [0, 4] [] (st' := ⟨[(0, .p (sW a0)), (4, .p (bo (true)))], [], L0, []⟩) (by kernel_rfl) ?_
    refine WC.condT rfl (by kernel_rfl) ?_
    refine WC.rg hn [] [2] [] ⟨[(2, .p (.sl .nil 0 []))], [], L0, []⟩ trivial ?_
    refine WX.ret ?_
    refine WC.nil hn [2] none 7 58 1 (by kernel_rfl) [2] [7] (st' := ⟨[(2, .own 7)], [(7, rW 58 (([] : List Int)))], L0, []⟩) (by kernel_rfl) ?_
    exact WC.outO (by rw [← Option.some.inj h]; kernel_rfl)
  · refine WC.keep [0] [] (st' := ⟨[(0, .p (.sl .nn a0.length (encL (eI .u64) a0)))], [], L0, []⟩) (by kernel_rfl) ?_
    refine WC.r1 hn [] [0, 4] [] ⟨[(0, .p (.sl .nn a0.length (encL (eI .u64) a0))), (4, .p (bo (false)))], [], L0, []⟩ trivial ?_
    refine WC.tag [0] [] [0, 4] [] (st' := ⟨[(0, .p (sW a0)), (4, .p (bo (false)))], [], L0, []⟩) (by kernel_rfl) ?_
    refine WC.condF rfl (by kernel_rfl) ?_
    refine WX.skip ?_
    refine WX.seq ?_
    obtain ⟨c6_1, h⟩ := if_some h
    refine WC.r1 hn [(2, .app (some 5) (rW 58 (([] : List Int) ++ a0)))] [2] [7] ⟨[(2, .own 7)], [(7, rW 58 (([] : List Int) ++ a0))], L0, []⟩ (And.intro (ApS (eI .u64) (some 5) 58 8 ([] : List Int) a0 c6_1) (trivial)) ?_
    refine WX.ret ?_
    exact WC.outO (by rw [← Option.some.inj h]; kernel_rfl)
theorem slices_Clone_uint64_uint64_okP {a0 : (List Int)} {r : (List Int)} (h : slices_Clone_uint64_uint64 a0 = some r) : Ans Tryd.prog 118 [sW a0] (sW r) := AnsO.ans (args := [sW a0]) (slices_Clone_uint64_uint64_ok h) (by kernel_rfl)
def glushkov_copied (a0 : api_Bits) : Option (api_Bits) :=
  (slices_Clone_uint64_uint64 a0.Words).bind fun t2_2 => some ((api_Bits.mk a0.N t2_2))
theorem glushkov_copied_ok {a0 : api_Bits} {r : api_Bits} (h : glushkov_copied a0 = some r) : AnsO Tryd.prog 116 [] [.p (pP4 a0)] [(7, rW 58 r.Words)] (.agg [.p (i6 (r.N)), .own 7]) := by
  refine W_fnO [7] Tryd.func116 rfl (by kernel_rfl) (by kernel_rfl) (by kernel_rfl) (by kernel_rfl) ?_
  intro X hro hn
  unfold glushkov_copied at h
  refine WC.rg hn [] [1, 2] [1, 2] ⟨[(1, .ptr 1 0), (2, .ptr 2 0)], [(1, .box 25 (vV4 a0)), (2, .box 25 [.p (i6 (0)), .p (.sl .nil 0 [])])], L0, []⟩ trivial ?_
  refine WX.seq ?_
  obtain ⟨t2_2, h2_1, h⟩ := bind_some h
  have q2_4 := And.intro (slices_Clone_uint64_uint64_ok h2_1) (trivial)
  refine WC.exp hn (by kernel_rfl) [(4, .co [] [] [] [(7, rW 58 t2_2)] (.own 7))] [2] [2, 7] ⟨[(2, .ptr 2 0)], [(2, .box 25 [.p (i6 (a0.N)), .own 7]), (7, rW 58 t2_2)], L0, []⟩ [0, 1, 3, 4, 5, 7, 12, 13, 15, 28, 29, 31, 63, 127] 127 (by kernel_rfl) (by kernel_rfl) (by kernel_rfl) (And.intro q2_4 (And.intro q2_4 (And.intro q2_4 (trivial)))) (by kernel_rfl) (by kernel_rfl) ?_
  refine WX.ret ?_
  exact WC.outO (by rw [← Option.some.inj h]; kernel_rfl)
theorem glushkov_copied_okP {a0 : api_Bits} {r : api_Bits} (h : glushkov_copied a0 = some r) : Ans Tryd.prog 116 [pP4 a0] (pP4 r) := AnsO.ans (args := [pP4 a0]) (glushkov_copied_ok h) (by kernel_rfl)
def glushkov_Clone_l0 (a0 : api_Nfa) (J4 : List api_Bits → Option (api_Nfa)) : Nat → (Int × List api_Bits) → Option (api_Nfa)
  | 0, _ => none
  | k + 1, (x17_1_1, x17_1_2) => (if (decide (x17_1_1 < (a0.Follow.length : Int))) = true then (at_ a0.Follow x17_1_1).bind fun t30_2 => (glushkov_copied t30_2).bind fun t31_2 => (if okApp 32 (x17_1_2.length + ([t31_2]).length) then glushkov_Clone_l0 a0 J4 k ((IntKind.i64.wrap (x17_1_1 + 1)), x17_1_2 ++ ([t31_2])) else none) else J4 x17_1_2)
def glushkov_Clone (k : Nat) (a0 : api_Nfa) : Option (api_Nfa) :=
  (slices_Clone_riddle_api_Class_riddle_api_Class a0.Classes).bind fun t2_2 => (glushkov_copied a0.First).bind fun t2_4 => (glushkov_copied a0.Last).bind fun t2_6 => jn (fun (v4 : List api_Bits) => some ((api_Nfa.mk t2_2 t2_4 t2_6 v4 a0.Null))) fun J4 => glushkov_Clone_l0 a0 J4 k (0, ([] : List api_Bits))
theorem glushkov_Clone_ok {k : Nat} {a0 : api_Nfa} {r : api_Nfa} (h : glushkov_Clone k a0 = some r) : AnsO Tryd.prog 90 [] [.p (pP1 a0)] [(8, rowV 60 (e4 (eI .u64)) r.Classes), (11, rW 58 r.First.Words), (14, rW 58 r.Last.Words), (30, rowV 25 e_api_Bits r.Follow)] (.agg [.own 8, .p (i6 (r.First.N)), .own 11, .p (i6 (r.Last.N)), .own 14, .own 30, .p (bo (r.Null))]) := by
  refine W_fnO [8, 11, 14, 30] Tryd.func90 rfl (by kernel_rfl) (by kernel_rfl) (by kernel_rfl) (by kernel_rfl) ?_
  intro X hro hn
  unfold glushkov_Clone at h
  refine WC.rg hn [] [1, 2] [1, 2] ⟨[(1, .ptr 1 0), (2, .ptr 2 0)], [(1, .box 28 (vV1 a0)), (2, .box 28 [.p (.sl .nil 0 []), .p (i6 (0)), .p (.sl .nil 0 []), .p (i6 (0)), .p (.sl .nil 0 []), .p (.sl .nil 0 []), .p (bo (false))])], L0, []⟩ trivial ?_
  refine WX.seq ?_
  obtain ⟨t2_2, h2_1, h⟩ := bind_some h
  obtain ⟨t2_4, h2_3, h⟩ := bind_some h
  obtain ⟨t2_6, h2_5, h⟩ := bind_some h
  have q2_2 := And.intro ((slices_Clone_riddle_api_Class_riddle_api_Class_ok h2_1).ren 7 8 (by kernel_rfl)) (trivial)
  have q2_5 := And.intro ((glushkov_copied_ok h2_3).ren 7 11 (by kernel_rfl)) (trivial)
  have q2_8 := And.intro ((glushkov_copied_ok h2_5).ren 7 14 (by kernel_rfl)) (trivial)
  refine WC.exp hn (by kernel_rfl) [(2, .co [] [] [] [(8, rowV 60 (e4 (eI .u64)) t2_2)] (.own 8)), (5, .co [] [] [] [(11, rW 58 t2_4.Words)] (.agg [.p (i6 (t2_4.N)), .own 11])), (8, .co [] [] [] [(14, rW 58 t2_6.Words)] (.agg [.p (i6 (t2_6.N)), .own 14]))] [1, 2, 3] [1, 2, 3, 8, 11, 14] ⟨[(1, .ptr 1 0), (2, .ptr 2 0), (3, .ptr 3 0)], [(1, .box 28 (vV1 a0)), (2, .box 28 [.p (.sl .nil 0 []), .p (i6 (0)), .p (.sl .nil 0 []), .p (i6 (0)), .p (.sl .nil 0 []), .p (.sl .nil 0 []), .p (bo (false))]), (3, .box 28 [.own 8, .p (i6 (t2_4.N)), .own 11, .p (i6 (t2_6.N)), .own 14, .p (.sl .nil 0 []), .p (bo (a0.Null))]), (8, rowV 60 (e4 (eI .u64)) t2_2), (11, rW 58 t2_4.Words), (14, rW 58 t2_6.Words)], L0, []⟩ [0, 1, 3, 7, 8, 9, 11, 15, 24, 25, 27, 31, 63, 64, 65, 67, 71, 72, 73, 75, 79, 88, 89, 91, 95, 127, 192, 193, 195, 199, 200, 201, 203, 207, 216, 217, 219, 223, 255, 511, 512, 513, 515, 519, 520, 521, 523, 527, 536, 537, 539, 543, 575, 576, 577, 579, 583, 584, 585, 587, 591, 600, 601, 603, 607, 639, 704, 705, 707, 711, 712, 713, 715, 719, 728, 729, 731, 735, 767, 1023, 1536, 1537, 1539, 1543, 1544, 1545, 1547, 1551, 1560, 1561, 1563, 1567, 1599, 1600, 1601, 1603, 1607, 1608, 1609, 1611, 1615, 1624, 1625, 1627, 1631, 1663, 1728, 1729, 1731, 1735, 1736, 1737, 1739, 1743, 1752, 1753, 1755, 1759, 1791, 2047, 4095, 4096, 4097, 4099, 4103, 4104, 4105, 4107, 4111, 4120, 4121, 4123, 4127, 4159, 4160, 4161, 4163, 4167, 4168, 4169, 4171, 4175, 4184, 4185, 4187, 4191, 4223, 4288, 4289, 4291, 4295, 4296, 4297, 4299, 4303, 4312, 4313, 4315, 4319, 4351, 4607, 4608, 4609, 4611, 4615, 4616, 4617, 4619, 4623, 4632, 4633, 4635, 4639, 4671, 4672, 4673, 4675, 4679, 4680, 4681, 4683, 4687, 4696, 4697, 4699, 4703, 4735, 4800, 4801, 4803, 4807, 4808, 4809, 4811, 4815, 4824, 4825, 4827, 4831, 4863, 5119, 5632, 5633, 5635, 5639, 5640, 5641, 5643, 5647, 5656, 5657, 5659, 5663, 5695, 5696, 5697, 5699, 5703, 5704, 5705, 5707, 5711, 5720, 5721, 5723, 5727, 5759, 5824, 5825, 5827, 5831, 5832, 5833, 5835, 5839, 5848, 5849, 5851, 5855, 5887, 6143, 8191, 16383] 16383 (by kernel_rfl) (by kernel_rfl) (by kernel_rfl) (And.intro q2_2 (And.intro q2_2 (And.intro q2_2 (And.intro q2_5 (And.intro q2_2 (And.intro q2_2 (And.intro q2_2 (And.intro q2_5 (And.intro q2_2 (And.intro q2_2 (And.intro q2_2 (And.intro q2_5 (And.intro q2_8 (And.intro q2_2 (And.intro q2_2 (And.intro q2_2 (And.intro q2_5 (And.intro q2_2 (And.intro q2_2 (And.intro q2_2 (And.intro q2_5 (And.intro q2_2 (And.intro q2_2 (And.intro q2_2 (And.intro q2_5 (And.intro q2_8 (And.intro q2_2 (And.intro q2_2 (And.intro q2_2 (And.intro q2_5 (And.intro q2_2 (And.intro q2_2 (And.intro q2_2 (And.intro q2_5 (And.intro q2_2 (And.intro q2_2 (And.intro q2_2 (And.intro q2_5 (And.intro q2_8 (And.intro q2_2 (And.intro q2_2 (And.intro q2_2 (And.intro q2_5 (And.intro q2_2 (And.intro q2_2 (And.intro q2_2 (And.intro q2_5 (And.intro q2_2 (And.intro q2_2 (And.intro q2_2 (And.intro q2_5 (And.intro q2_8 (And.intro q2_2 (And.intro q2_2 (And.intro q2_2 (And.intro q2_5 (And.intro q2_2 (And.intro q2_2 (And.intro q2_2 (And.intro q2_5 (And.intro q2_2 (And.intro q2_2 (And.intro q2_2 (And.intro q2_5 (And.intro q2_8 (And.intro q2_2 (And.intro q2_2 (And.intro q2_2 (And.intro q2_5 (And.intro q2_2 (And.intro q2_2 (And.intro q2_2 (And.intro q2_5 (And.intro q2_2 (And.intro q2_2 (And.intro q2_2 (And.intro q2_5 (And.intro q2_8 (trivial))))))))))))))))))))))))))))))))))))))))))))))))))))))))))))))))))))))))))))))) (by kernel_rfl) (by kernel_rfl) ?_
  refine WX.seq ?_
  refine WC.rg hn [] [2, 3, 19, 20, 21] [2, 3, 8, 11, 14] ⟨[(2, .ptr 2 0), (3, .ptr 3 0), (19, .p (sB a0.Follow)), (20, .p (i6 (((a0.Follow.length : Int))))), (21, .p (i6 (0)))], [(2, .box 28 [.p (.sl .nil 0 []), .p (i6 (0)), .p (.sl .nil 0 []), .p (i6 (0)), .p (.sl .nil 0 []), .p (.sl .nil 0 []), .p (bo (false))]), (3, .box 28 [.own 8, .p (i6 (t2_4.N)), .own 11, .p (i6 (t2_6.N)), .own 14, .p (.sl .nil 0 []), .p (bo (a0.Null))]), (8, rowV 60 (e4 (eI .u64)) t2_2), (11, rW 58 t2_4.Words), (14, rW 58 t2_6.Words)], L0, []⟩ trivial ?_
  obtain ⟨J4, eJ4, h⟩ := jn_some h
  try dsimp only at h
  refine WC.join (α := List api_Bits) (fun v4 => ⟨[(2, .ptr 2 0), (3, .ptr 3 0)], [(2, .box 28 [.p (.sl .nil 0 []), .p (i6 (0)), .p (.sl .nil 0 []), .p (i6 (0)), .p (.sl .nil 0 []), .p (.sl .nil 0 []), .p (bo (false))]), (3, .box 28 [.own 8, .p (i6 (t2_4.N)), .own 11, .p (i6 (t2_6.N)), .own 14, .own 30, .p (bo (a0.Null))]), (8, rowV 60 (e4 (eI .u64)) t2_2), (11, rW 58 t2_4.Words), (14, rW 58 t2_6.Words), (30, rowV 25 e_api_Bits v4)], L0, []⟩) (fun v4 => J4 v4 = some r) ?_ (fun hJ4 => ?_)
  · rintro y4_1 h
    rw [eJ4] at h
    try dsimp only at h
    refine WC.rg hn [] [2] [2, 8, 11, 14, 30] ⟨[(2, .ptr 2 0)], [(2, .box 28 [.own 8, .p (i6 (t2_4.N)), .own 11, .p (i6 (t2_6.N)), .own 14, .own 30, .p (bo (a0.Null))]), (8, rowV 60 (e4 (eI .u64)) t2_2), (11, rW 58 t2_4.Words), (14, rW 58 t2_6.Words), (30, rowV 25 e_api_Bits y4_1)], L0, []⟩ trivial ?_
    refine WX.ret ?_
    exact WC.outO (by rw [← Option.some.inj h]; kernel_rfl)
  · replace hJ4 := fun y4_1 => hJ4 y4_1
    refine WX.block ?_
    refine WC.nil hn [] (some (3, 5)) 30 25 2 (by kernel_rfl) [2, 3, 19, 20, 21] [2, 3, 8, 11, 14, 30] (st' := ⟨[(2, .ptr 2 0), (3, .ptr 3 0), (19, .p (sB a0.Follow)), (20, .p (i6 (((a0.Follow.length : Int))))), (21, .p (i6 (0)))], [(2, .box 28 [.p (.sl .nil 0 []), .p (i6 (0)), .p (.sl .nil 0 []), .p (i6 (0)), .p (.sl .nil 0 []), .p (.sl .nil 0 []), .p (bo (false))]), (3, .box 28 [.own 8, .p (i6 (t2_4.N)), .own 11, .p (i6 (t2_6.N)), .own 14, .own 30, .p (bo (a0.Null))]), (8, rowV 60 (e4 (eI .u64)) t2_2), (11, rW 58 t2_4.Words), (14, rW 58 t2_6.Words), (30, rowV 25 e_api_Bits (([] : List api_Bits)))], L0, []⟩) (by kernel_rfl) ?_
    refine WC.loop (V := Int × List api_Bits) (glushkov_Clone_l0 a0 J4) r (fun v17 => ⟨[(2, .ptr 2 0), (3, .ptr 3 0), (19, .p (sB a0.Follow)), (20, .p (i6 (((a0.Follow.length : Int))))), (21, .p (i6 (v17.1)))], [(2, .box 28 [.p (.sl .nil 0 []), .p (i6 (0)), .p (.sl .nil 0 []), .p (i6 (0)), .p (.sl .nil 0 []), .p (.sl .nil 0 []), .p (bo (false))]), (3, .box 28 [.own 8, .p (i6 (t2_4.N)), .own 11, .p (i6 (t2_6.N)), .own 14, .own 30, .p (bo (a0.Null))]), (8, rowV 60 (e4 (eI .u64)) t2_2), (11, rW 58 t2_4.Words), (14, rW 58 t2_6.Words), (30, rowV 25 e_api_Bits v17.2)], L0, []⟩) _ (0, ([] : List api_Bits)) h (fun _ => rfl) [2, 3, 19, 20, 21] [2, 3, 8, 11, 14, 30] (by kernel_rfl) ?_
    clear h; rintro k ⟨x17_1_1, x17_1_2⟩ h K17 hnext17 hexit17
    rw [glushkov_Clone_l0] at h
    refine WC.rg hn [] [2, 3, 19, 20, 21, 22] [2, 3, 8, 11, 14, 30] ⟨[(2, .ptr 2 0), (3, .ptr 3 0), (19, .p (sB a0.Follow)), (20, .p (i6 (((a0.Follow.length : Int))))), (21, .p (i6 (x17_1_1))), (22, .p (bo (((decide (x17_1_1 < (a0.Follow.length : Int)))))))], [(2, .box 28 [.p (.sl .nil 0 []), .p (i6 (0)), .p (.sl .nil 0 []), .p (i6 (0)), .p (.sl .nil 0 []), .p (.sl .nil 0 []), .p (bo (false))]), (3, .box 28 [.own 8, .p (i6 (t2_4.N)), .own 11, .p (i6 (t2_6.N)), .own 14, .own 30, .p (bo (a0.Null))]), (8, rowV 60 (e4 (eI .u64)) t2_2), (11, rW 58 t2_4.Words), (14, rW 58 t2_6.Words), (30, rowV 25 e_api_Bits x17_1_2)], L0, []⟩ trivial ?_
    refine WX.seq ?_
    rcases if_or h with ⟨c29, h⟩ | ⟨c29, h⟩
    · refine WC.condT c29 (by kernel_rfl) ?_
      refine WX.skip ?_
      refine WX.seq ?_
      refine WX.block ?_
      refine WX.seq ?_
      obtain ⟨t30_2, h30_1, h⟩ := bind_some h
      refine WC.r1 hn [(0, .val (.p (.rop (e_api_Bits.cells t30_2 ++ encL e_api_Bits (a0.Follow.drop (x17_1_1.toNat + 1))))))] [2, 3, 5, 19, 20, 21] [2, 3, 5, 8, 11, 14, 30] ⟨[(2, .ptr 2 0), (3, .ptr 3 0), (5, .ptr 5 0), (19, .p (sB a0.Follow)), (20, .p (i6 (((a0.Follow.length : Int))))), (21, .p (i6 (x17_1_1)))], [(2, .box 28 [.p (.sl .nil 0 []), .p (i6 (0)), .p (.sl .nil 0 []), .p (i6 (0)), .p (.sl .nil 0 []), .p (.sl .nil 0 []), .p (bo (false))]), (3, .box 28 [.own 8, .p (i6 (t2_4.N)), .own 11, .p (i6 (t2_6.N)), .own 14, .own 30, .p (bo (a0.Null))]), (5, .box 25 (vV4 t30_2)), (8, rowV 60 (e4 (eI .u64)) t2_2), (11, rW 58 t2_4.Words), (14, rW 58 t2_6.Words), (30, rowV 25 e_api_Bits x17_1_2)], L0, []⟩ (And.intro (Ix e_api_Bits h30_1) (trivial)) ?_
      obtain ⟨t31_2, h31_1, h⟩ := bind_some h
      obtain ⟨c31_3, h⟩ := if_some h
      have q31_3 := (glushkov_copied_okP h31_1)
      have q31_5 := Ap e_api_Bits (some 30) 25 32 2 x17_1_2 ([t31_2]) c31_3
      refine WC.exp hn (by kernel_rfl) [(3, .resP (pP4 t31_2)), (5, .app (some 30) (rowV 25 e_api_Bits (x17_1_2 ++ ([t31_2]))))] [2, 3, 19, 20, 21] [2, 3, 8, 11, 14, 30] ⟨[(2, .ptr 2 0), (3, .ptr 3 0), (19, .p (sB a0.Follow)), (20, .p (i6 (((a0.Follow.length : Int))))), (21, .p (i6 (x17_1_1)))], [(2, .box 28 [.p (.sl .nil 0 []), .p (i6 (0)), .p (.sl .nil 0 []), .p (i6 (0)), .p (.sl .nil 0 []), .p (.sl .nil 0 []), .p (bo (false))]), (3, .box 28 [.own 8, .p (i6 (t2_4.N)), .own 11, .p (i6 (t2_6.N)), .own 14, .own 30, .p (bo (a0.Null))]), (8, rowV 60 (e4 (eI .u64)) t2_2), (11, rW 58 t2_4.Words), (14, rW 58 t2_6.Words), (30, rowV 25 e_api_Bits (x17_1_2 ++ ([t31_2])))], L0, []⟩ [0, 1, 3, 4, 5, 7, 12, 13, 15, 28, 29, 31, 63, 127, 255] 255 (by kernel_rfl) (by kernel_rfl) (by kernel_rfl) (And.intro q31_3 (And.intro q31_3 (And.intro q31_3 (And.intro q31_5 (trivial))))) (by kernel_rfl) (by kernel_rfl) ?_
      refine WX.popBlk ?_
      refine WC.r1 hn [] [2, 3, 19, 20, 21] [2, 3, 8, 11, 14, 30] ⟨[(2, .ptr 2 0), (3, .ptr 3 0), (19, .p (sB a0.Follow)), (20, .p (i6 (((a0.Follow.length : Int))))), (21, .p (i6 (((IntKind.i64.wrap (x17_1_1 + 1))))))], [(2, .box 28 [.p (.sl .nil 0 []), .p (i6 (0)), .p (.sl .nil 0 []), .p (i6 (0)), .p (.sl .nil 0 []), .p (.sl .nil 0 []), .p (bo (false))]), (3, .box 28 [.own 8, .p (i6 (t2_4.N)), .own 11, .p (i6 (t2_6.N)), .own 14, .own 30, .p (bo (a0.Null))]), (8, rowV 60 (e4 (eI .u64)) t2_2), (11, rW 58 t2_4.Words), (14, rW 58 t2_6.Words), (30, rowV 25 e_api_Bits (x17_1_2 ++ ([t31_2])))], L0, []⟩ trivial ?_
      exact WC.next [2, 3, 19, 20, 21] [2, 3, 8, 11, 14, 30] (by kernel_rfl) (hnext17 ((IntKind.i64.wrap (x17_1_1 + 1)), x17_1_2 ++ ([t31_2])) h)
    · refine WC.condF c29 (by kernel_rfl) ?_
      refine WX.exit ?_
      refine WX.popCodeExit ?_
      refine WC.exit_nil (hexit17 _ _ (by simp) ?_)
      refine WX.popBlkHit ?_
      exact WC.keep [2, 3] [2, 3, 8, 11, 14, 30] (by kernel_rfl) (hJ4 x17_1_2 h)
theorem glushkov_Clone_okP {k : Nat} {a0 : api_Nfa} {r : api_Nfa} (h : glushkov_Clone k a0 = some r) : Ans Tryd.prog 90 [pP1 a0] (pP1 r) := AnsO.ans (args := [pP1 a0]) (glushkov_Clone_ok h) (by kernel_rfl)
def reverse_may (k : Nat) (a0 : api_Nfa) : Option (api_Nfa) :=
  (glushkov_Check k a0).bind fun t2_2 => (if (t2_2 != 0) = true then (reverse_none k 0).bind fun t4_2 => (reverse_none k 0).bind fun t4_4 => some ((api_Nfa.mk (([] : List (Arr4 Int))) t4_2 t4_4 ([]) false)) else (glushkov_Clone k a0).bind fun t5_2 => some t5_2)
theorem reverse_may_ok {k : Nat} {a0 : api_Nfa} {r : api_Nfa} (h : reverse_may k a0 = some r) : AnsO Tryd.prog 48 [] [.p (pP1 a0)] [(10, rowV 60 (e4 (eI .u64)) r.Classes), (7, rW 58 r.Last.Words)] (.agg [.own 10, .p (i6 (r.First.N)), .p (sW r.First.Words), .p (i6 (r.Last.N)), .own 7, .p (sB r.Follow), .p (bo (r.Null))]) := by
  refine W_fnO [10, 7] Tryd.func48 rfl (by kernel_rfl) (by kernel_rfl) (by kernel_rfl) (by kernel_rfl) ?_
  intro X hro hn
  unfold reverse_may at h
  refine WC.rg hn [] [1, 2] [1, 2] ⟨[(1, .ptr 1 0), (2, .ptr 2 0)], [(1, .box 28 (vV1 a0)), (2, .box 28 [.p (.sl .nil 0 []), .p (i6 (0)), .p (.sl .nil 0 []), .p (i6 (0)), .p (.sl .nil 0 []), .p (.sl .nil 0 []), .p (bo (false))])], L0, []⟩ trivial ?_
  refine WX.seq ?_
  refine WX.seq ?_
  obtain ⟨t2_2, h2_1, h⟩ := bind_some h
  refine WC.r1 hn [(1, .resP (i6 (t2_2)))] [1, 2, 5] [1, 2] ⟨[(1, .ptr 1 0), (2, .ptr 2 0), (5, .p (bo (((t2_2 != 0)))))], [(1, .box 28 (vV1 a0)), (2, .box 28 [.p (.sl .nil 0 []), .p (i6 (0)), .p (.sl .nil 0 []), .p (i6 (0)), .p (.sl .nil 0 []), .p (.sl .nil 0 []), .p (bo (false))])], L0, []⟩ (And.intro ((glushkov_Check_ok h2_1)) (trivial)) ?_
  rcases if_or h with ⟨c3, h⟩ | ⟨c3, h⟩
  · refine WC.condT c3 (by kernel_rfl) ?_
    refine WX.seq ?_
    obtain ⟨t4_2, h4_1, h⟩ := bind_some h
    obtain ⟨t4_4, h4_3, h⟩ := bind_some h
    refine WC.r1 hn [(0, .co [] [] [] [(6, rW 58 t4_2.Words)] (.agg [.p (i6 (t4_2.N)), .own 6])), (1, .co [] [] [] [(7, rW 58 t4_4.Words)] (.agg [.p (i6 (t4_4.N)), .own 7]))] [2] [2, 6, 7] ⟨[(2, .ptr 2 0)], [(2, .box 28 [.p (.sl .nil 0 []), .p (i6 (t4_2.N)), .own 6, .p (i6 (t4_4.N)), .own 7, .p (.sl .nil 0 []), .p (bo (false))]), (6, rW 58 t4_2.Words), (7, rW 58 t4_4.Words)], L0, []⟩ (And.intro (And.intro ((reverse_none_ok h4_1).ren 7 6 (by kernel_rfl)) (trivial)) (And.intro (And.intro (reverse_none_ok h4_3) (trivial)) (trivial))) ?_
    refine WX.ret ?_
    refine WC.nil hn [] (some (2, 0)) 10 60 4 (by kernel_rfl) [2] [2, 6, 7, 10] (st' := ⟨[(2, .ptr 2 0)], [(2, .box 28 [.own 10, .p (i6 (t4_2.N)), .own 6, .p (i6 (t4_4.N)), .own 7, .p (.sl .nil 0 []), .p (bo (false))]), (6, rW 58 t4_2.Words), (7, rW 58 t4_4.Words), (10, rowV 60 (e4 (eI .u64)) (([] : List (Arr4 Int))))], L0, []⟩) (by kernel_rfl) ?_
    refine WC.frz 6 (st' := ⟨[(2, .ptr 2 0)], [(2, .box 28 [.own 10, .p (i6 (t4_2.N)), .p (sW t4_2.Words), .p (i6 (t4_4.N)), .own 7, .p (.sl .nil 0 []), .p (bo (false))]), (7, rW 58 t4_4.Words), (10, rowV 60 (e4 (eI .u64)) (([] : List (Arr4 Int))))], L0, []⟩) (by kernel_rfl) ?_
    exact WC.outO (by rw [← Option.some.inj h]; kernel_rfl)
  · refine WC.condF c3 (by kernel_rfl) ?_
    refine WX.skip ?_
    refine WX.seq ?_
    obtain ⟨t5_2, h5_1, h⟩ := bind_some h
    refine WC.r1 hn [(1, .co [] [] [] [(10, rowV 60 (e4 (eI .u64)) t5_2.Classes), (9, rW 58 t5_2.First.Words), (7, rW 58 t5_2.Last.Words), (6, rowV 25 e_api_Bits t5_2.Follow)] (.agg [.own 10, .p (i6 (t5_2.First.N)), .own 9, .p (i6 (t5_2.Last.N)), .own 7, .own 6, .p (bo (t5_2.Null))]))] [2] [2, 6, 7, 9, 10] ⟨[(2, .ptr 2 0)], [(2, .box 28 [.own 10, .p (i6 (t5_2.First.N)), .own 9, .p (i6 (t5_2.Last.N)), .own 7, .own 6, .p (bo (t5_2.Null))]), (6, rowV 25 e_api_Bits t5_2.Follow), (7, rW 58 t5_2.Last.Words), (9, rW 58 t5_2.First.Words), (10, rowV 60 (e4 (eI .u64)) t5_2.Classes)], L0, []⟩ (And.intro (And.intro (((((glushkov_Clone_ok h5_1).ren 8 10 (by kernel_rfl)).ren 11 9 (by kernel_rfl)).ren 14 7 (by kernel_rfl)).ren 30 6 (by kernel_rfl)) (trivial)) (trivial)) ?_
    refine WX.ret ?_
    refine WC.frz 9 (st' := ⟨[(2, .ptr 2 0)], [(2, .box 28 [.own 10, .p (i6 (t5_2.First.N)), .p (sW t5_2.First.Words), .p (i6 (t5_2.Last.N)), .own 7, .own 6, .p (bo (t5_2.Null))]), (6, rowV 25 e_api_Bits t5_2.Follow), (7, rW 58 t5_2.Last.Words), (10, rowV 60 (e4 (eI .u64)) t5_2.Classes)], L0, []⟩) (by kernel_rfl) ?_
    refine WC.frz 6 (st' := ⟨[(2, .ptr 2 0)], [(2, .box 28 [.own 10, .p (i6 (t5_2.First.N)), .p (sW t5_2.First.Words), .p (i6 (t5_2.Last.N)), .own 7, .p (sB t5_2.Follow), .p (bo (t5_2.Null))]), (7, rW 58 t5_2.Last.Words), (10, rowV 60 (e4 (eI .u64)) t5_2.Classes)], L0, []⟩) (by kernel_rfl) ?_
    exact WC.outO (by rw [← Option.some.inj h]; kernel_rfl)
theorem reverse_may_okP {k : Nat} {a0 : api_Nfa} {r : api_Nfa} (h : reverse_may k a0 = some r) : Ans Tryd.prog 48 [pP1 a0] (pP1 r) := AnsO.ans (args := [pP1 a0]) (reverse_may_ok h) (by kernel_rfl)
def bits_own (a0 : api_Bits) : Option (api_Bits) :=
  (bits_Check a0).bind fun t2_2 => (if (t2_2 != 0) = true then some ((api_Bits.mk 0 (([] : List Int)))) else (slices_Clone_uint64_uint64 a0.Words).bind fun t5_2 => some ((api_Bits.mk a0.N t5_2)))
theorem bits_own_ok {a0 : api_Bits} {r : api_Bits} (h : bits_own a0 = some r) : AnsO Tryd.prog 93 [] [.p (pP4 a0)] [(9, rW 58 r.Words)] (.agg [.p (i6 (r.N)), .own 9]) := by
  refine W_fnO [9] Tryd.func93 rfl (by kernel_rfl) (by kernel_rfl) (by kernel_rfl) (by kernel_rfl) ?_
  intro X hro hn
  unfold bits_own at h
  refine WC.rg hn [] [1, 2] [1, 2] ⟨[(1, .ptr 1 0), (2, .ptr 2 0)], [(1, .box 25 (vV4 a0)), (2, .box 25 [.p (i6 (0)), .p (.sl .nil 0 [])])], L0, []⟩ trivial ?_
  refine WX.seq ?_
  refine WX.seq ?_
  obtain ⟨t2_2, h2_1, h⟩ := bind_some h
  refine WC.r1 hn [(1, .resP (i6 (t2_2)))] [1, 2, 5] [1, 2] ⟨[(1, .ptr 1 0), (2, .ptr 2 0), (5, .p (bo (((t2_2 != 0)))))], [(1, .box 25 (vV4 a0)), (2, .box 25 [.p (i6 (0)), .p (.sl .nil 0 [])])], L0, []⟩ (And.intro ((bits_Check_ok h2_1)) (trivial)) ?_
  rcases if_or h with ⟨c3, h⟩ | ⟨c3, h⟩
  · refine WC.condT c3 (by kernel_rfl) ?_
    refine WC.rg hn [] [2] [2] ⟨[(2, .ptr 2 0)], [(2, .box 25 [.p (i6 (0)), .p (.sl .nil 0 [])])], L0, []⟩ trivial ?_
    refine WX.ret ?_
    refine WC.nil hn [] (some (2, 1)) 9 58 1 (by kernel_rfl) [2] [2, 9] (st' := ⟨[(2, .ptr 2 0)], [(2, .box 25 [.p (i6 (0)), .own 9]), (9, rW 58 (([] : List Int)))], L0, []⟩) (by kernel_rfl) ?_
    exact WC.outO (by rw [← Option.some.inj h]; kernel_rfl)
  · refine WC.condF c3 (by kernel_rfl) ?_
    refine WX.skip ?_
    refine WX.seq ?_
    obtain ⟨t5_2, h5_1, h⟩ := bind_some h
    refine WC.r1 hn [(2, .co [] [] [] [(9, rW 58 t5_2)] (.own 9))] [1, 2] [1, 2, 9] ⟨[(1, .ptr 1 0), (2, .ptr 2 0)], [(1, .box 25 [.p (i6 (a0.N)), .own 9]), (2, .box 25 [.p (i6 (0)), .p (.sl .nil 0 [])]), (9, rW 58 t5_2)], L0, []⟩ (And.intro (And.intro ((slices_Clone_uint64_uint64_ok h5_1).ren 7 9 (by kernel_rfl)) (trivial)) (trivial)) ?_
    refine WC.rg hn [] [2] [2, 9] ⟨[(2, .ptr 2 0)], [(2, .box 25 [.p (i6 (a0.N)), .own 9]), (9, rW 58 t5_2)], L0, []⟩ trivial ?_
    refine WX.ret ?_
    exact WC.outO (by rw [← Option.some.inj h]; kernel_rfl)
theorem bits_own_okP {a0 : api_Bits} {r : api_Bits} (h : bits_own a0 = some r) : Ans Tryd.prog 93 [pP4 a0] (pP4 r) := AnsO.ans (args := [pP4 a0]) (bits_own_ok h) (by kernel_rfl)
def bits_TrailingZeros64 (a0 : Int) : Option (Int) :=
  (if (a0 == 0) = true then some 64 else (at_ tab0 ((((IntKind.u64.wrap ((bits .and .u64 a0 ((IntKind.u64.wrap (0 - a0)))) * 285870213051353865))).fdiv (2 ^ 58)))).bind fun t5_2 => some ((IntKind.i64.wrap t5_2)))
theorem bits_TrailingZeros64_ok {a0 : Int} {r : Int} (h : bits_TrailingZeros64 a0 = some r) : Ans Tryd.prog 105 [u6 (a0)] (i6 (r)) := by
  refine W_fn Tryd.func105 rfl (by kernel_rfl) (by kernel_rfl) ?_
  intro X hro hn
  unfold bits_TrailingZeros64 at h
  refine WC.rg hn [] [0] [] ⟨[(0, .p (u6 (a0)))], [], L0, []⟩ trivial ?_
  refine WX.seq ?_
  refine WC.rg hn [] [0, 4] [] ⟨[(0, .p (u6 (a0))), (4, .p (bo (((a0 == 0)))))], [], L0, []⟩ trivial ?_
  rcases if_or h with ⟨c3, h⟩ | ⟨c3, h⟩
  · refine WC.condT c3 (by kernel_rfl) ?_
    refine WC.rg hn [] [2] [] ⟨[(2, .p (i6 (64)))], [], L0, []⟩ trivial ?_
    refine WX.ret ?_
    exact WC.outP (by rw [← Option.some.inj h]; kernel_rfl)
  · refine WC.condF c3 (by kernel_rfl) ?_
    refine WX.skip ?_
    refine WX.seq ?_
    obtain ⟨t5_2, h5_1, h⟩ := bind_some h
    refine WC.r1 hn [(6, .val (.p (.rop ((eI .u8).cells t5_2 ++ encL (eI .u8) (tab0.drop (((((IntKind.u64.wrap ((bits .and .u64 a0 ((IntKind.u64.wrap (0 - a0)))) * 285870213051353865))).fdiv (2 ^ 58))).toNat + 1))))))] [2] [] ⟨[(2, .p (i6 (((IntKind.i64.wrap t5_2)))))], [], L0, []⟩ (And.intro (IxG (eI .u8) 64 rfl h5_1) (trivial)) ?_
    refine WX.ret ?_
    exact WC.outP (by rw [← Option.some.inj h]; kernel_rfl)
def bits_First_l0 (a0 : api_Bits) (a1 : Int) (J7 : Unit → Option (Int × Bool)) : Nat → Int → Option (Int × Bool)
  | 0, _ => none
  | k + 1, x32_1_1 => (if (decide (x32_1_1 < (a0.Words.length : Int))) = true then (at_ a0.Words x32_1_1).bind fun t57_2 => jn (fun (v59 : Int) => (if (v59 != 0) = true then (bits_TrailingZeros64 v59).bind fun t64_2 => some ((IntKind.i64.wrap ((IntKind.i64.wrap (64 * x32_1_1)) + t64_2)), true) else bits_First_l0 a0 a1 J7 k ((IntKind.i64.wrap (x32_1_1 + 1))))) fun J59 => (if (x32_1_1 == (IntKind.i64.wrap (((maxI a1 0)).tdiv 64))) = true then (if ¬ (((maxI a1 0)).tmod 64) < 0 then J59 ((IntKind.u64.wrap ((t57_2.fdiv (2 ^ (min ((((maxI a1 0)).tmod 64)).toNat IntKind.u64.bits))) * 2 ^ (min ((((maxI a1 0)).tmod 64)).toNat IntKind.u64.bits)))) else none) else J59 t57_2) else J7 ())
def bits_First (k : Nat) (a0 : api_Bits) (a1 : Int) : Option (Int × Bool) :=
  (bits_Check a0).bind fun t2_2 => (if (t2_2 != 0) = true then some (0, false) else jn (fun (v7 : Unit) => some (0, false)) fun J7 => bits_First_l0 a0 a1 J7 k ((IntKind.i64.wrap (((maxI a1 0)).tdiv 64))))
theorem bits_First_ok {k : Nat} {a0 : api_Bits} {a1 : Int} {r : Int × Bool} (h : bits_First k a0 a1 = some r) : Ans Tryd.prog 77 [pP4 a0, i6 (a1)] (.tup [i6 (r.1), bo (r.2)]) := by
  refine W_fn Tryd.func77 rfl (by kernel_rfl) (by kernel_rfl) ?_
  intro X hro hn
  unfold bits_First at h
  refine WC.rg hn [] [1, 2] [2] ⟨[(1, .p (i6 (a1))), (2, .ptr 2 0)], [(2, .box 25 (vV4 a0))], L0, []⟩ trivial ?_
  refine WX.seq ?_
  refine WX.seq ?_
  obtain ⟨t2_2, h2_1, h⟩ := bind_some h
  refine WC.r1 hn [(1, .resP (i6 (t2_2)))] [1, 2, 10] [2] ⟨[(1, .p (i6 (a1))), (2, .ptr 2 0), (10, .p (bo (((t2_2 != 0)))))], [(2, .box 25 (vV4 a0))], L0, []⟩ (And.intro ((bits_Check_ok h2_1)) (trivial)) ?_
  rcases if_or h with ⟨c3, h⟩ | ⟨c3, h⟩
  · refine WC.condT c3 (by kernel_rfl) ?_
    refine WC.rg hn [] [4, 5] [] ⟨[(4, .p (i6 (0))), (5, .p (bo (false)))], [], L0, []⟩ trivial ?_
    refine WX.ret ?_
    exact WC.outP (by rw [← Option.some.inj h]; kernel_rfl)
  · refine WC.condF c3 (by kernel_rfl) ?_
    refine WX.skip ?_
    refine WC.rg hn [] [1, 2] [2] ⟨[(1, .p (i6 (((maxI a1 0))))), (2, .ptr 2 0)], [(2, .box 25 (vV4 a0))], L0, []⟩ trivial ?_
    refine WX.seq ?_
    refine WC.rg hn [] [1, 2, 6] [2] ⟨[(1, .p (i6 (((maxI a1 0))))), (2, .ptr 2 0), (6, .p (i6 (((IntKind.i64.wrap (((maxI a1 0)).tdiv 64))))))], [(2, .box 25 (vV4 a0))], L0, []⟩ trivial ?_
    obtain ⟨J7, eJ7, h⟩ := jn_some h
    try dsimp only at h
    refine WC.join (α := Unit) (fun v7 => ⟨[], [], L0, []⟩) (fun v7 => J7 v7 = some r) ?_ (fun hJ7 => ?_)
    · rintro _ h
      rw [eJ7] at h
      try dsimp only at h
      refine WC.rg hn [] [4, 5] [] ⟨[(4, .p (i6 (0))), (5, .p (bo (false)))], [], L0, []⟩ trivial ?_
      refine WX.ret ?_
      exact WC.outP (by rw [← Option.some.inj h]; kernel_rfl)
    · skip
      refine WX.block ?_
      refine WC.loop (V := Int) (bits_First_l0 a0 a1 J7) r (fun v32 => ⟨[(1, .p (i6 (((maxI a1 0))))), (2, .ptr 2 0), (6, .p (i6 (v32)))], [(2, .box 25 (vV4 a0))], L0, []⟩) _ ((IntKind.i64.wrap (((maxI a1 0)).tdiv 64))) h (fun _ => rfl) [1, 2, 6] [2] (by kernel_rfl) ?_
      clear h; rintro k x32_1_1 h K32 hnext32 hexit32
      rw [bits_First_l0] at h
      refine WX.seq ?_
      refine WC.rg hn [] [1, 2, 6, 19] [2] ⟨[(1, .p (i6 (((maxI a1 0))))), (2, .ptr 2 0), (6, .p (i6 (x32_1_1))), (19, .p (bo (((decide (x32_1_1 < (a0.Words.length : Int)))))))], [(2, .box 25 (vV4 a0))], L0, []⟩ trivial ?_
      rcases if_or h with ⟨c56, h⟩ | ⟨c56, h⟩
      · refine WC.condT c56 (by kernel_rfl) ?_
        refine WX.skip ?_
        refine WX.seq ?_
        refine WX.block ?_
        refine WX.seq ?_
        obtain ⟨t57_2, h57_1, h⟩ := bind_some h
        refine WC.r1 hn [(3, .val (.p (.rop ((eI .u64).cells t57_2 ++ encL (eI .u64) (a0.Words.drop (x32_1_1.toNat + 1))))))] [1, 2, 6, 7] [2] ⟨[(1, .p (i6 (((maxI a1 0))))), (2, .ptr 2 0), (6, .p (i6 (x32_1_1))), (7, .p (u6 (t57_2)))], [(2, .box 25 (vV4 a0))], L0, []⟩ (And.intro (Ix (eI .u64) h57_1) (trivial)) ?_
        refine WX.seq ?_
        refine WC.rg hn [] [1, 2, 6, 7, 30] [2] ⟨[(1, .p (i6 (((maxI a1 0))))), (2, .ptr 2 0), (6, .p (i6 (x32_1_1))), (7, .p (u6 (t57_2))), (30, .p (bo (((x32_1_1 == (IntKind.i64.wrap (((maxI a1 0)).tdiv 64)))))))], [(2, .box 25 (vV4 a0))], L0, []⟩ trivial ?_
        obtain ⟨J59, eJ59, h⟩ := jn_some h
        try dsimp only at h
        refine WC.join (α := Int) (fun v59 => ⟨[(1, .p (i6 (((maxI a1 0))))), (2, .ptr 2 0), (6, .p (i6 (x32_1_1))), (7, .p (u6 (v59)))], [(2, .box 25 (vV4 a0))], L0, []⟩) (fun v59 => J59 v59 = some r) ?_ (fun hJ59 => ?_)
        · rintro y59_1 h
          rw [eJ59] at h
          try dsimp only at h
          refine WC.rg hn [] [1, 2, 6, 7, 39] [2] ⟨[(1, .p (i6 (((maxI a1 0))))), (2, .ptr 2 0), (6, .p (i6 (x32_1_1))), (7, .p (u6 (y59_1))), (39, .p (bo (((y59_1 != 0)))))], [(2, .box 25 (vV4 a0))], L0, []⟩ trivial ?_
          rcases if_or h with ⟨c63, h⟩ | ⟨c63, h⟩
          · refine WC.condT c63 (by kernel_rfl) ?_
            refine WX.seq ?_
            obtain ⟨t64_2, h64_1, h⟩ := bind_some h
            refine WC.r1 hn [(3, .resP (i6 (t64_2)))] [4, 5] [] ⟨[(4, .p (i6 (((IntKind.i64.wrap ((IntKind.i64.wrap (64 * x32_1_1)) + t64_2)))))), (5, .p (bo (true)))], [], L0, []⟩ (And.intro ((bits_TrailingZeros64_ok h64_1)) (trivial)) ?_
            refine WX.ret ?_
            refine WC.ret_all (hexit32 _ _ (by simp) ?_)
            exact WC.outP (by rw [← Option.some.inj h]; kernel_rfl)
          · refine WC.condF c63 (by kernel_rfl) ?_
            refine WX.skip ?_
            refine WX.popBlk ?_
            refine WC.r1 hn [] [1, 2, 6] [2] ⟨[(1, .p (i6 (((maxI a1 0))))), (2, .ptr 2 0), (6, .p (i6 (((IntKind.i64.wrap (x32_1_1 + 1))))))], [(2, .box 25 (vV4 a0))], L0, []⟩ trivial ?_
            exact WC.next [1, 2, 6] [2] (by kernel_rfl) (hnext32 ((IntKind.i64.wrap (x32_1_1 + 1))) h)
        · replace hJ59 := fun y59_1 => hJ59 y59_1
          rcases if_or h with ⟨c66, h⟩ | ⟨c66, h⟩
          · refine WC.condT c66 (by kernel_rfl) ?_
            obtain ⟨c67_1, h⟩ := if_some h
            refine WC.r1 hn [(3, .val (.p (u6 ((t57_2.fdiv (2 ^ (min ((((maxI a1 0)).tmod 64)).toNat IntKind.u64.bits))))))), (6, .val (.p (u6 ((IntKind.u64.wrap ((t57_2.fdiv (2 ^ (min ((((maxI a1 0)).tmod 64)).toNat IntKind.u64.bits))) * 2 ^ (min ((((maxI a1 0)).tmod 64)).toNat IntKind.u64.bits)))))))] [1, 2, 6, 7] [2] ⟨[(1, .p (i6 (((maxI a1 0))))), (2, .ptr 2 0), (6, .p (i6 (x32_1_1))), (7, .p (u6 (((IntKind.u64.wrap ((t57_2.fdiv (2 ^ (min ((((maxI a1 0)).tmod 64)).toNat IntKind.u64.bits))) * 2 ^ (min ((((maxI a1 0)).tmod 64)).toNat IntKind.u64.bits)))))))], [(2, .box 25 (vV4 a0))], L0, []⟩ (And.intro (Shr .u64 t57_2 ((((maxI a1 0)).tmod 64)) c67_1) (And.intro (Shl .u64 ((t57_2.fdiv (2 ^ (min ((((maxI a1 0)).tmod 64)).toNat IntKind.u64.bits)))) ((((maxI a1 0)).tmod 64)) c67_1) (trivial))) ?_
            exact WC.keep [1, 2, 6, 7] [2] (by kernel_rfl) (hJ59 ((IntKind.u64.wrap ((t57_2.fdiv (2 ^ (min ((((maxI a1 0)).tmod 64)).toNat IntKind.u64.bits))) * 2 ^ (min ((((maxI a1 0)).tmod 64)).toNat IntKind.u64.bits)))) h)
          · refine WC.condF c66 (by kernel_rfl) ?_
            refine WX.skip ?_
            exact WC.keep [1, 2, 6, 7] [2] (by kernel_rfl) (hJ59 t57_2 h)
      · refine WC.condF c56 (by kernel_rfl) ?_
        refine WX.exit ?_
        refine WX.popCodeExit ?_
        refine WC.exit_nil (hexit32 _ _ (by simp) ?_)
        refine WX.popBlkHit ?_
        exact WC.keep [] [] (by kernel_rfl) (hJ7 () h)
def bits_All (a0 : api_Bits) : Option ((api_Bits)) :=
  (bits_own a0).bind fun t2_2 => some t2_2
theorem bits_All_ok {a0 : api_Bits} {r : (api_Bits)} (h : bits_All a0 = some r) : Ans Tryd.prog 92 [pP4 a0] (.fn 117 [.rop ([i6 (r.N), sW r.Words])]) := by
  refine W_fn Tryd.func92 rfl (by kernel_rfl) (by kernel_rfl) ?_
  intro X hro hn
  unfold bits_All at h
  refine WC.rg hn [] [1] [1] ⟨[(1, .ptr 1 0)], [(1, .box 25 (vV4 a0))], L0, []⟩ trivial ?_
  refine WX.seq ?_
  obtain ⟨t2_2, h2_1, h⟩ := bind_some h
  refine WC.r1 hn [(1, .co [] [] [] [(4, rW 58 t2_2.Words)] (.agg [.p (i6 (t2_2.N)), .own 4]))] [1] [1, 4] ⟨[(1, .ptr 1 0)], [(1, .box 25 [.p (i6 (t2_2.N)), .own 4]), (4, rW 58 t2_2.Words)], L0, []⟩ (And.intro (And.intro ((bits_own_ok h2_1).ren 9 4 (by kernel_rfl)) (trivial)) (trivial)) ?_
  refine WC.rg hn [] [2] [1, 4] ⟨[(2, .fn 117 [.ptr 1 0])], [(1, .box 25 [.p (i6 (t2_2.N)), .own 4]), (4, rW 58 t2_2.Words)], L0, []⟩ trivial ?_
  refine WX.ret ?_
  exact WC.outP (by rw [← Option.some.inj h]; kernel_rfl)
def glushkov_Edges (a0 : api_Nfa) : Option ((api_Nfa)) :=
  some a0
theorem glushkov_Edges_ok {a0 : api_Nfa} {r : (api_Nfa)} (h : glushkov_Edges a0 = some r) : Ans Tryd.prog 50 [pP1 a0] (.fn 91 [.rop ([sC r.Classes, i6 (r.First.N), sW r.First.Words, i6 (r.Last.N), sW r.Last.Words, sB r.Follow, bo (r.Null)])]) := by
  refine W_fn Tryd.func50 rfl (by kernel_rfl) (by kernel_rfl) ?_
  intro X hro hn
  unfold glushkov_Edges at h
  refine WC.rg hn [] [1] [1] ⟨[(1, .ptr 1 0)], [(1, .box 28 (vV1 a0))], L0, []⟩ trivial ?_
  refine WC.rg hn [] [2] [1] ⟨[(2, .fn 91 [.ptr 1 0])], [(1, .box 28 (vV1 a0))], L0, []⟩ trivial ?_
  refine WX.ret ?_
  exact WC.outP (by rw [← Option.some.inj h]; kernel_rfl)
def bits_With (a0 : api_Bits) (a1 : Int) : Option (api_Bits) :=
  (bits_own a0).bind fun t2_2 => (if (((decide (a1 ≥ 0))) && ((decide (a1 < t2_2.N)))) = true then (at_ t2_2.Words ((IntKind.i64.wrap (a1.tdiv 64)))).bind fun t5_2 => (if ¬ (a1.tmod 64) < 0 then some ((api_Bits.mk t2_2.N (t2_2.Words.set ((IntKind.i64.wrap (a1.tdiv 64))).toNat ((bits .or .u64 t5_2 ((IntKind.u64.wrap (1 * 2 ^ (min ((a1.tmod 64)).toNat IntKind.u64.bits))))))))) else none) else some t2_2)
theorem bits_With_ok {a0 : api_Bits} {a1 : Int} {r : api_Bits} (h : bits_With a0 a1 = some r) : AnsO Tryd.prog 51 [] [.p (pP4 a0), .p (i6 (a1))] [(6, rW 58 r.Words)] (.agg [.p (i6 (r.N)), .own 6]) := by
  refine W_fnO [6] Tryd.func51 rfl (by kernel_rfl) (by kernel_rfl) (by kernel_rfl) (by kernel_rfl) ?_
  intro X hro hn
  unfold bits_With at h
  refine WC.rg hn [] [1, 2, 4] [2, 4] ⟨[(1, .p (i6 (a1))), (2, .ptr 2 0), (4, .ptr 4 0)], [(2, .box 25 (vV4 a0)), (4, .box 25 [.p (i6 (0)), .p (.sl .nil 0 [])])], L0, []⟩ trivial ?_
  refine WX.seq ?_
  obtain ⟨t2_2, h2_1, h⟩ := bind_some h
  refine WC.r1 hn [(1, .co [] [] [] [(6, rW 58 t2_2.Words)] (.agg [.p (i6 (t2_2.N)), .own 6]))] [1, 2, 4] [2, 4, 6] ⟨[(1, .p (i6 (a1))), (2, .ptr 2 0), (4, .ptr 4 0)], [(2, .box 25 [.p (i6 (t2_2.N)), .own 6]), (4, .box 25 [.p (i6 (0)), .p (.sl .nil 0 [])]), (6, rW 58 t2_2.Words)], L0, []⟩ (And.intro (And.intro ((bits_own_ok h2_1).ren 9 6 (by kernel_rfl)) (trivial)) (trivial)) ?_
  refine WX.seq ?_
  refine WX.seq ?_
  refine WC.via (α := Bool) (fun v3 => ⟨[(1, .p (i6 (a1))), (2, .ptr 2 0), (4, .ptr 4 0), (14, .p (bo (v3)))], [(2, .box 25 [.p (i6 (t2_2.N)), .own 6]), (4, .box 25 [.p (i6 (0)), .p (.sl .nil 0 [])]), (6, rW 58 t2_2.Words)], L0, []⟩) ((((decide (a1 ≥ 0))) && ((decide (a1 < t2_2.N))))) (fun hk => ?_) ?_
  · rcases Bool.eq_false_or_eq_true ((decide (a1 ≥ 0))) with b3_2 | b3_2
    · exact WC.reg hn [(2, .val (.p (bo (true))))] [1, 2, 4, 14] [2, 4, 6] ⟨[(1, .p (i6 (a1))), (2, .ptr 2 0), (4, .ptr 4 0), (14, .p (bo (((decide (a1 < t2_2.N))))))], [(2, .box 25 [.p (i6 (t2_2.N)), .own 6]), (4, .box 25 [.p (i6 (0)), .p (.sl .nil 0 [])]), (6, rW 58 t2_2.Words)], L0, []⟩ (And.intro (Bl b3_2) (trivial)) (by kernel_rfl) (hk ((decide (a1 < t2_2.N))) (by first | (rw [b3_2]; rfl) | simp [b3_2]))
    · exact WC.reg hn [(2, .val (.p (bo (false))))] [1, 2, 4, 14] [2, 4, 6] ⟨[(1, .p (i6 (a1))), (2, .ptr 2 0), (4, .ptr 4 0), (14, .p (bo (false)))], [(2, .box 25 [.p (i6 (t2_2.N)), .own 6]), (4, .box 25 [.p (i6 (0)), .p (.sl .nil 0 [])]), (6, rW 58 t2_2.Words)], L0, []⟩ (And.intro (Bl b3_2) (trivial)) (by kernel_rfl) (hk false (by first | (rw [b3_2]; rfl) | simp [b3_2]))
  rcases if_or h with ⟨c4, h⟩ | ⟨c4, h⟩
  · refine WC.condT c4 (by kernel_rfl) ?_
    obtain ⟨t5_2, h5_1, h⟩ := bind_some h
    obtain ⟨c5_3, h⟩ := if_some h
    refine WC.drw hn [(11, [])] [] [(4, .val (.ptr 6 (((IntKind.i64.wrap (a1.tdiv 64))).toNat * 1))), (5, .val (.p (u6 (t5_2)))), (8, .val (.p (u6 ((IntKind.u64.wrap (1 * 2 ^ (min ((a1.tmod 64)).toNat IntKind.u64.bits))))))), (10, .val (.ptr 6 (((IntKind.i64.wrap (a1.tdiv 64))).toNat * 1))), (11, .sto 6 (rW 58 (t2_2.Words.set ((IntKind.i64.wrap (a1.tdiv 64))).toNat ((bits .or .u64 t5_2 ((IntKind.u64.wrap (1 * 2 ^ (min ((a1.tmod 64)).toNat IntKind.u64.bits)))))))))] [2, 4] [2, 4, 6] ⟨[(2, .ptr 2 0), (4, .ptr 4 0)], [(2, .box 25 [.p (i6 (t2_2.N)), .own 6]), (4, .box 25 [.p (i6 (0)), .p (.sl .nil 0 [])]), (6, rW 58 (t2_2.Words.set ((IntKind.i64.wrap (a1.tdiv 64))).toNat ((bits .or .u64 t5_2 ((IntKind.u64.wrap (1 * 2 ^ (min ((a1.tmod 64)).toNat IntKind.u64.bits))))))))], L0, []⟩ (And.intro (IxO 6 1 h5_1) (And.intro (LdO0 Tryd.prog (eI .u64) 58 h5_1) (And.intro (Shl .u64 1 ((a1.tmod 64)) c5_3) (And.intro (IxO 6 1 h5_1) (And.intro (StO0 (eI .u64) 6 58 1 1 [u6 (((bits .or .u64 t5_2 ((IntKind.u64.wrap (1 * 2 ^ (min ((a1.tmod 64)).toNat IntKind.u64.bits)))))))] ((bits .or .u64 t5_2 ((IntKind.u64.wrap (1 * 2 ^ (min ((a1.tmod 64)).toNat IntKind.u64.bits)))))) h5_1 rfl rfl (by decide)) (trivial)))))) (by kernel_rfl) (by kernel_rfl) (by kernel_rfl) (by kernel_rfl) ?_
    refine WC.rg hn [] [4] [4, 6] ⟨[(4, .ptr 4 0)], [(4, .box 25 [.p (i6 (t2_2.N)), .own 6]), (6, rW 58 (t2_2.Words.set ((IntKind.i64.wrap (a1.tdiv 64))).toNat ((bits .or .u64 t5_2 ((IntKind.u64.wrap (1 * 2 ^ (min ((a1.tmod 64)).toNat IntKind.u64.bits))))))))], L0, []⟩ trivial ?_
    refine WX.ret ?_
    exact WC.outO (by rw [← Option.some.inj h]; kernel_rfl)
  · refine WC.condF c4 (by kernel_rfl) ?_
    refine WX.skip ?_
    refine WC.rg hn [] [4] [4, 6] ⟨[(4, .ptr 4 0)], [(4, .box 25 [.p (i6 (t2_2.N)), .own 6]), (6, rW 58 t2_2.Words)], L0, []⟩ trivial ?_
    refine WX.ret ?_
    exact WC.outO (by rw [← Option.some.inj h]; kernel_rfl)
theorem bits_With_okP {a0 : api_Bits} {a1 : Int} {r : api_Bits} (h : bits_With a0 a1 = some r) : Ans Tryd.prog 51 [pP4 a0, i6 (a1)] (pP4 r) := AnsO.ans (args := [pP4 a0, i6 (a1)]) (bits_With_ok h) (by kernel_rfl)
def bits_All_1_v1_l0 (a1 : api_Bits) : Nat → (Int × Bool) → Option (List Int)
  | 0, _ => none
  | k + 1, (x2_1_1, x2_1_2) => (if x2_1_2 = true then ((bits_First k a1 ((IntKind.i64.wrap (x2_1_1 + 1)))).bind fun t14_2 => bits_All_1_v1_l0 a1 k (t14_2.1, t14_2.2)).map (x2_1_1 :: ·) else some [])
def bits_All_1_v1 (k : Nat) (a1 : api_Bits) : Option (List Int) :=
  (bits_First k a1 0).bind fun t1_2 => bits_All_1_v1_l0 a1 k (t1_2.1, t1_2.2)
theorem bits_All_1_v1_it {k : Nat} {a1 : api_Bits} {r : List Int} (h : bits_All_1_v1 k a1 = some r) : Iter Tryd.prog 117 [.rop ([i6 (a1.N), sW a1.Words])] (r.map (fun x : Int => ([i6 (x)] : List PV))) := by
  refine W_it Tryd.func117 rfl (by kernel_rfl) (Nat.le_of_ble_eq_true (by kernel_rfl)) ?_
  intro X hro hn hY
  obtain ⟨L, hLe⟩ : ∃ L, L = r.map (fun x : Int => ([i6 (x)] : List PV)) := ⟨_, rfl⟩
  rw [← hLe] at hY ⊢
  have hL : ([] : List (List PV)) ++ r.map (fun x : Int => ([i6 (x)] : List PV)) = L := by rw [hLe]; rfl
  clear hLe
  unfold bits_All_1_v1 at h
  refine WX.seq ?_
  obtain ⟨t1_2, h1_1, h⟩ := bind_some h
  refine WC.r1 hn [(1, .resP (.tup [i6 (t1_2.1), bo (t1_2.2)]))] [0, 1, 3, 4] [] ⟨[(0, .yield), (1, .p (.rop ([i6 (a1.N), sW a1.Words]))), (3, .p (i6 (t1_2.1))), (4, .p (bo (t1_2.2)))], [], ⟨([] : List (List PV)), false⟩, []⟩ (And.intro ((bits_First_ok h1_1)) (trivial)) ?_
  refine WX.block ?_
  refine WC.loop (V := Int × Bool × List (List PV)) (fun k v2 => (bits_All_1_v1_l0 a1 k (v2.1, v2.2.1)).map fun r => v2.2.2 ++ r.map (fun x : Int => ([i6 (x)] : List PV))) L (fun v2 => ⟨[(0, .yield), (1, .p (.rop ([i6 (a1.N), sW a1.Words]))), (3, .p (i6 (v2.1))), (4, .p (bo (v2.2.1)))], [], ⟨v2.2.2, false⟩, []⟩) _ (t1_2.1, t1_2.2, ([] : List (List PV))) (by rw [h]; exact congrArg some hL) (fun _ => rfl) [0, 1, 3, 4] [] (by kernel_rfl) ?_
  clear h hL; rintro k ⟨x2_1_1, x2_1_2, x2_1_3⟩ h K2 hnext2 hexit2
  obtain ⟨r, h, hL⟩ := mapO_some h
  dsimp only at h hL
  rw [bits_All_1_v1_l0] at h
  refine WX.seq ?_
  refine WC.rg hn [] [0, 1, 3, 10] [] ⟨[(0, .yield), (1, .p (.rop ([i6 (a1.N), sW a1.Words]))), (3, .p (i6 (x2_1_1))), (10, .p (bo (x2_1_2)))], [], ⟨x2_1_3, false⟩, []⟩ trivial ?_
  rcases if_or h with ⟨c12, h⟩ | ⟨c12, h⟩
  · refine WC.condT c12 (by kernel_rfl) ?_
    refine WX.skip ?_
    refine WX.seq ?_
    refine WX.block ?_
    refine WX.seq ?_
    obtain ⟨r13, hh13, hr13⟩ := mapO_some h
    subst hr13
    replace h := hh13
    refine WC.yld hn hY 2 [] [0, 1, 3, 21] [] (⟨[(0, .yield), (1, .p (.rop ([i6 (a1.N), sW a1.Words]))), (3, .p (i6 (x2_1_1))), (21, .p (bo (false)))], [], ⟨(x2_1_3 ++ [[i6 (x2_1_1)]]), false⟩, []⟩) (⟨[(0, .yield), (1, .p (.rop ([i6 (a1.N), sW a1.Words]))), (3, .p (i6 (x2_1_1))), (21, .p (bo (true)))], [], ⟨(x2_1_3 ++ [[i6 (x2_1_1)]]), true⟩, []⟩) x2_1_3 [i6 (x2_1_1)] (And.intro True.intro (And.intro True.intro True.intro)) (by kernel_rfl) (pre_ok (val := (fun x : Int => ([i6 (x)] : List PV))) (x := x2_1_1) (l := r13) hL) ?_ ?_
    · replace hL : (x2_1_3 ++ [[i6 (x2_1_1)]]) ++ r13.map (fun x : Int => ([i6 (x)] : List PV)) = L := by rw [← hL]; simp
      refine WC.condF rfl (by kernel_rfl) ?_
      refine WX.skip ?_
      refine WX.popBlk ?_
      obtain ⟨t14_2, h14_1, h⟩ := bind_some h
      refine WC.r1 hn [(3, .resP (.tup [i6 (t14_2.1), bo (t14_2.2)]))] [0, 1, 3, 4] [] ⟨[(0, .yield), (1, .p (.rop ([i6 (a1.N), sW a1.Words]))), (3, .p (i6 (t14_2.1))), (4, .p (bo (t14_2.2)))], [], ⟨(x2_1_3 ++ [[i6 (x2_1_1)]]), false⟩, []⟩ (And.intro ((bits_First_ok h14_1)) (trivial)) ?_
      exact WC.next [0, 1, 3, 4] [] (by kernel_rfl) (hnext2 (t14_2.1, t14_2.2, (x2_1_3 ++ [[i6 (x2_1_1)]])) (by rw [h]; exact congrArg some hL))
    · refine WC.condT rfl (by kernel_rfl) ?_
      refine WX.ret ?_
      refine WC.ret_all (hexit2 _ _ (by simp) ?_)
      exact WC.ret_all ⟨by kernel_rfl, fun h => by cases h⟩
  · refine WC.condF c12 (by kernel_rfl) ?_
    refine WX.exit ?_
    refine WX.popCodeExit ?_
    refine WC.exit_nil (hexit2 _ _ (by simp) ?_)
    refine WX.popBlkHit ?_
    obtain rfl := Option.some.inj h
    exact WC.exit_nil ⟨by kernel_rfl, fun _ => by simpa using hL⟩
def glushkov_Edges_1_v1_l1 (k : Nat) (x5_1_1 : Int) (J44 : Unit → Option (List (Int × Int))) : List Int → Unit → Option (List (Int × Int))
  | [], _ => J44 ()
  | x50 :: xs50, _ => (glushkov_Edges_1_v1_l1 k x5_1_1 J44 xs50 ()).map ((x5_1_1, x50) :: ·)
def glushkov_Edges_1_v1_l0 (a1 : api_Nfa) : Nat → Int → Option (List (Int × Int))
  | 0, _ => none
  | k + 1, x5_1_1 => (if (decide (x5_1_1 < (a1.Follow.length : Int))) = true then jn (fun (v32 : Unit) => glushkov_Edges_1_v1_l0 a1 k ((IntKind.i64.wrap (x5_1_1 + 1)))) fun J32 => (at_ a1.Follow x5_1_1).bind fun t42_2 => (bits_All t42_2).bind fun t43_2 => jn (fun (v44 : Unit) => J32 ()) fun J44 => (bits_All_1_v1 k t43_2).bind fun l50 => glushkov_Edges_1_v1_l1 k x5_1_1 J44 l50 () else some [])
def glushkov_Edges_1_v1 (k : Nat) (a1 : api_Nfa) : Option (List (Int × Int)) :=
  (glushkov_Check k a1).bind fun t2_2 => (if (t2_2 != 0) = true then some [] else glushkov_Edges_1_v1_l0 a1 k 0)
theorem glushkov_Edges_1_v1_it {k : Nat} {a1 : api_Nfa} {r : List (Int × Int)} (h : glushkov_Edges_1_v1 k a1 = some r) : Iter Tryd.prog 91 [.rop ([sC a1.Classes, i6 (a1.First.N), sW a1.First.Words, i6 (a1.Last.N), sW a1.Last.Words, sB a1.Follow, bo (a1.Null)])] (r.map (fun x : Int × Int => ([i6 (x.1), i6 (x.2)] : List PV))) := by
  refine W_it Tryd.func91 rfl (by kernel_rfl) (Nat.le_of_ble_eq_true (by kernel_rfl)) ?_
  intro X hro hn hY
  obtain ⟨L, hLe⟩ : ∃ L, L = r.map (fun x : Int × Int => ([i6 (x.1), i6 (x.2)] : List PV)) := ⟨_, rfl⟩
  rw [← hLe] at hY ⊢
  have hL : ([] : List (List PV)) ++ r.map (fun x : Int × Int => ([i6 (x.1), i6 (x.2)] : List PV)) = L := by rw [hLe]; rfl
  clear hLe
  unfold glushkov_Edges_1_v1 at h
  refine WC.rg hn [] [1, 2] [2] ⟨[(1, .p (.rop ([sC a1.Classes, i6 (a1.First.N), sW a1.First.Words, i6 (a1.Last.N), sW a1.Last.Words, sB a1.Follow, bo (a1.Null)]))), (2, .ptr 2 0)], [(2, .box 113 [.yield])], ⟨([] : List (List PV)), false⟩, []⟩ trivial ?_
  refine WX.seq ?_
  refine WX.seq ?_
  obtain ⟨t2_2, h2_1, h⟩ := bind_some h
  refine WC.r1 hn [(1, .resP (i6 (t2_2)))] [1, 2, 8] [2] ⟨[(1, .p (.rop ([sC a1.Classes, i6 (a1.First.N), sW a1.First.Words, i6 (a1.Last.N), sW a1.Last.Words, sB a1.Follow, bo (a1.Null)]))), (2, .ptr 2 0), (8, .p (bo (((t2_2 != 0)))))], [(2, .box 113 [.yield])], ⟨([] : List (List PV)), false⟩, []⟩ (And.intro ((glushkov_Check_ok h2_1)) (trivial)) ?_
  rcases if_or h with ⟨c3, h⟩ | ⟨c3, h⟩
  · refine WC.condT c3 (by kernel_rfl) ?_
    refine WX.ret ?_
    obtain rfl := Option.some.inj h
    exact WC.ret_all ⟨by kernel_rfl, fun _ => by simpa using hL⟩
  · refine WC.condF c3 (by kernel_rfl) ?_
    refine WX.skip ?_
    refine WC.rg hn [] [2, 10, 11, 12] [2] ⟨[(2, .ptr 2 0), (10, .p (sB a1.Follow)), (11, .p (i6 (((a1.Follow.length : Int))))), (12, .p (i6 (0)))], [(2, .box 113 [.yield])], ⟨([] : List (List PV)), false⟩, []⟩ trivial ?_
    refine WX.block ?_
    refine WC.loop (V := Int × List (List PV)) (fun k v5 => (glushkov_Edges_1_v1_l0 a1 k v5.1).map fun r => v5.2 ++ r.map (fun x : Int × Int => ([i6 (x.1), i6 (x.2)] : List PV))) L (fun v5 => ⟨[(2, .ptr 2 0), (10, .p (sB a1.Follow)), (11, .p (i6 (((a1.Follow.length : Int))))), (12, .p (i6 (v5.1)))], [(2, .box 113 [.yield])], ⟨v5.2, false⟩, []⟩) _ (0, ([] : List (List PV))) (by rw [h]; exact congrArg some hL) (fun _ => rfl) [2, 10, 11, 12] [2] (by kernel_rfl) ?_
    clear h hL; rintro k ⟨x5_1_1, x5_1_2⟩ h K5 hnext5 hexit5
    obtain ⟨r, h, hL⟩ := mapO_some h
    dsimp only at h hL
    rw [glushkov_Edges_1_v1_l0] at h
    refine WC.rg hn [] [2, 10, 11, 12, 13] [2] ⟨[(2, .ptr 2 0), (10, .p (sB a1.Follow)), (11, .p (i6 (((a1.Follow.length : Int))))), (12, .p (i6 (x5_1_1))), (13, .p (bo (((decide (x5_1_1 < (a1.Follow.length : Int)))))))], [(2, .box 113 [.yield])], ⟨x5_1_2, false⟩, []⟩ trivial ?_
    refine WX.seq ?_
    rcases if_or h with ⟨c31, h⟩ | ⟨c31, h⟩
    · refine WC.condT c31 (by kernel_rfl) ?_
      refine WX.skip ?_
      refine WX.seq ?_
      obtain ⟨J32, eJ32, h⟩ := jn_some h
      try dsimp only at h
      refine WC.join (α := List (List PV)) (fun v32 => ⟨[(2, .ptr 2 0), (10, .p (sB a1.Follow)), (11, .p (i6 (((a1.Follow.length : Int))))), (12, .p (i6 (x5_1_1)))], [(2, .box 113 [.yield])], ⟨v32, false⟩, []⟩) (fun v32 => (J32 ()).map (fun r => v32 ++ r.map (fun x : Int × Int => ([i6 (x.1), i6 (x.2)] : List PV))) = some L) ?_ (fun hJ32 => ?_)
      · rintro y32_1 h
        obtain ⟨r, h, hL⟩ := mapO_some h
        try dsimp only at h hL
        rw [eJ32] at h
        try dsimp only at h
        refine WC.r1 hn [] [2, 10, 11, 12] [2] ⟨[(2, .ptr 2 0), (10, .p (sB a1.Follow)), (11, .p (i6 (((a1.Follow.length : Int))))), (12, .p (i6 (((IntKind.i64.wrap (x5_1_1 + 1))))))], [(2, .box 113 [.yield])], ⟨y32_1, false⟩, []⟩ trivial ?_
        exact WC.next [2, 10, 11, 12] [2] (by kernel_rfl) (hnext5 ((IntKind.i64.wrap (x5_1_1 + 1)), y32_1) (by rw [h]; exact congrArg some hL))
      · replace hJ32 := fun y32_1 => hJ32 y32_1
        refine WX.block ?_
        refine WX.seq ?_
        obtain ⟨t42_2, h42_1, h⟩ := bind_some h
        refine WC.r1 hn [(1, .val (.p (.rop (e_api_Bits.cells t42_2 ++ encL e_api_Bits (a1.Follow.drop (x5_1_1.toNat + 1))))))] [2, 3, 4, 10, 11, 12] [2, 3, 4] ⟨[(2, .ptr 2 0), (3, .ptr 3 0), (4, .ptr 4 0), (10, .p (sB a1.Follow)), (11, .p (i6 (((a1.Follow.length : Int))))), (12, .p (i6 (x5_1_1)))], [(2, .box 113 [.yield]), (3, .box 3 [.p (i6 (x5_1_1))]), (4, .box 25 (vV4 t42_2))], ⟨x5_1_2, false⟩, []⟩ (And.intro (Ix e_api_Bits h42_1) (trivial)) ?_
        refine WX.seq ?_
        obtain ⟨t43_2, h43_1, h⟩ := bind_some h
        refine WC.r1 hn [(1, .resP (.fn 117 [.rop ([i6 (t43_2.N), sW t43_2.Words])]))] [2, 3, 10, 11, 12, 18] [2, 3] ⟨[(2, .ptr 2 0), (3, .ptr 3 0), (10, .p (sB a1.Follow)), (11, .p (i6 (((a1.Follow.length : Int))))), (12, .p (i6 (x5_1_1))), (18, .p (.fn 117 [.rop ([i6 (t43_2.N), sW t43_2.Words])]))], [(2, .box 113 [.yield]), (3, .box 3 [.p (i6 (x5_1_1))])], ⟨x5_1_2, false⟩, []⟩ (And.intro ((bits_All_ok h43_1)) (trivial)) ?_
        obtain ⟨J44, eJ44, h⟩ := jn_some h
        try dsimp only at h
        refine WC.join (α := List (List PV)) (fun v44 => ⟨[(2, .ptr 2 0), (10, .p (sB a1.Follow)), (11, .p (i6 (((a1.Follow.length : Int))))), (12, .p (i6 (x5_1_1)))], [(2, .box 113 [.yield])], ⟨v44, false⟩, []⟩) (fun v44 => (J44 ()).map (fun r => v44 ++ r.map (fun x : Int × Int => ([i6 (x.1), i6 (x.2)] : List PV))) = some L) ?_ (fun hJ44 => ?_)
        · rintro y44_1 h
          obtain ⟨r, h, hL⟩ := mapO_some h
          try dsimp only at h hL
          rw [eJ44] at h
          try dsimp only at h
          refine WX.popBlk ?_
          exact WC.keep [2, 10, 11, 12] [2] (by kernel_rfl) (hJ32 y44_1 (by first | (rw [h]; exact congrArg some hL) | (dsimp only; rw [h]; exact congrArg some hL)))
        · replace hJ44 := fun y44_1 => hJ44 y44_1
          refine WX.block ?_
          obtain ⟨l50, hI50, h⟩ := bind_some h
          refine WC.rangeY (V := List (List PV)) hY hn (fun xs v50 => (glushkov_Edges_1_v1_l1 k x5_1_1 J44 xs ()).map fun r => v50 ++ r.map (fun x : Int × Int => ([i6 (x.1), i6 (x.2)] : List PV))) L (fun v50 => ⟨[(2, .ptr 2 0), (3, .ptr 3 0), (10, .p (sB a1.Follow)), (11, .p (i6 (((a1.Follow.length : Int))))), (12, .p (i6 (x5_1_1))), (18, .p (.fn 117 [.rop ([i6 (t43_2.N), sW t43_2.Words])]))], [(2, .box 113 [.yield]), (3, .box 3 [.p (i6 (x5_1_1))])], ⟨v50, false⟩, []⟩) (fun x50 v50 => ⟨[(2, .ptr 2 0), (3, .ptr 3 0), (5, .p (i6 (x50))), (10, .p (sB a1.Follow)), (11, .p (i6 (((a1.Follow.length : Int))))), (12, .p (i6 (x5_1_1))), (18, .p (.fn 117 [.rop ([i6 (t43_2.N), sW t43_2.Words])])), (19, .p (i6 (x50)))], [(2, .box 113 [.yield]), (3, .box 3 [.p (i6 (x5_1_1))])], ⟨v50, false⟩, [[(2, .ptr 2 0), (3, .ptr 3 0), (10, .p (sB a1.Follow)), (11, .p (i6 (((a1.Follow.length : Int))))), (12, .p (i6 (x5_1_1))), (18, .p (.fn 117 [.rop ([i6 (t43_2.N), sW t43_2.Words])]))]]⟩) (fun x : Int => ([i6 (x)] : List PV)) l50 x5_1_2 (by first | (rw [h]; exact congrArg some hL) | (dsimp only; rw [h]; exact congrArg some hL)) [2, 3, 10, 11, 12, 18] [2, 3] (by kernel_rfl) (fun v50 => .p (.fn 117 [.rop ([i6 (t43_2.N), sW t43_2.Words])])) (fun v50 => by kernel_rfl) (by kernel_rfl) (bits_All_1_v1_it hI50) (by kernel_rfl) (fun v50 => by kernel_rfl) (fun x => rfl) ?_ ?_ ?_
          · clear h hL; rintro x50_1_1 h
            obtain ⟨r, h, hL⟩ := mapO_some h
            try dsimp only at h hL
            rw [glushkov_Edges_1_v1_l1] at h
            refine WX.popBlk ?_
            exact WC.keep [2, 10, 11, 12] [2] (by kernel_rfl) (hJ44 x50_1_1 (by first | (rw [h]; exact congrArg some hL) | (dsimp only; rw [h]; exact congrArg some hL)))
          · clear h hL; intro X hY hn x50; rintro x50_1_1
            refine WC.r1 hn [] [2, 3, 5, 10, 11, 12, 18, 19] [2, 3] ⟨[(2, .ptr 2 0), (3, .ptr 3 0), (5, .p (i6 (x50))), (10, .p (sB a1.Follow)), (11, .p (i6 (((a1.Follow.length : Int))))), (12, .p (i6 (x5_1_1))), (18, .p (.fn 117 [.rop ([i6 (t43_2.N), sW t43_2.Words])])), (19, .p (i6 (x50)))], [(2, .box 113 [.yield]), (3, .box 3 [.p (i6 (x5_1_1))])], ⟨x50_1_1, false⟩, [[(2, .ptr 2 0), (3, .ptr 3 0), (10, .p (sB a1.Follow)), (11, .p (i6 (((a1.Follow.length : Int))))), (12, .p (i6 (x5_1_1))), (18, .p (.fn 117 [.rop ([i6 (t43_2.N), sW t43_2.Words])]))]]⟩ trivial ?_
            exact WC.exit_nil ⟨rfl, rfl⟩
          · clear h hL; intro X hY hn x50 xs50; rintro x50_1_1 h K50 hnext50 hexit50
            obtain ⟨r, h, hL⟩ := mapO_some h
            try dsimp only at h hL
            rw [glushkov_Edges_1_v1_l1] at h
            refine WX.block ?_
            refine WX.seq ?_
            obtain ⟨r56, hh56, hr56⟩ := mapO_some h
            subst hr56
            replace h := hh56
            refine WC.yld hn hY 3 [] [24] [2, 3] (⟨[(24, .p (bo (false)))], [(2, .box 113 [.yield]), (3, .box 3 [.p (i6 (x5_1_1))])], ⟨(x50_1_1 ++ [[i6 (x5_1_1), i6 (x50)]]), false⟩, [[(2, .ptr 2 0), (3, .ptr 3 0), (10, .p (sB a1.Follow)), (11, .p (i6 (((a1.Follow.length : Int))))), (12, .p (i6 (x5_1_1))), (18, .p (.fn 117 [.rop ([i6 (t43_2.N), sW t43_2.Words])]))]]⟩) (⟨[(24, .p (bo (true)))], [(2, .box 113 [.yield]), (3, .box 3 [.p (i6 (x5_1_1))])], ⟨(x50_1_1 ++ [[i6 (x5_1_1), i6 (x50)]]), true⟩, [[(2, .ptr 2 0), (3, .ptr 3 0), (10, .p (sB a1.Follow)), (11, .p (i6 (((a1.Follow.length : Int))))), (12, .p (i6 (x5_1_1))), (18, .p (.fn 117 [.rop ([i6 (t43_2.N), sW t43_2.Words])]))]]⟩) x50_1_1 [i6 (x5_1_1), i6 (x50)] (And.intro True.intro (And.intro True.intro True.intro)) (by kernel_rfl) (pre_ok (val := (fun x : Int × Int => ([i6 (x.1), i6 (x.2)] : List PV))) (x := (x5_1_1, x50)) (l := r56) hL) ?_ ?_
            · replace hL : (x50_1_1 ++ [[i6 (x5_1_1), i6 (x50)]]) ++ r56.map (fun x : Int × Int => ([i6 (x.1), i6 (x.2)] : List PV)) = L := by rw [← hL]; simp
              refine WC.condF rfl (by kernel_rfl) ?_
              refine WX.skip ?_
              refine WX.popBlk ?_
              refine WC.keep [] [2, 3] (st' := ⟨[], [(2, .box 113 [.yield]), (3, .box 3 [.p (i6 (x5_1_1))])], ⟨(x50_1_1 ++ [[i6 (x5_1_1), i6 (x50)]]), false⟩, [[(2, .ptr 2 0), (3, .ptr 3 0), (10, .p (sB a1.Follow)), (11, .p (i6 (((a1.Follow.length : Int))))), (12, .p (i6 (x5_1_1))), (18, .p (.fn 117 [.rop ([i6 (t43_2.N), sW t43_2.Words])]))]]⟩) (by kernel_rfl) ?_
              exact WC.nextR [] [2, 3] (s := ⟨[], [(2, .box 113 [.yield]), (3, .box 3 [.p (i6 (x5_1_1))])], ⟨(x50_1_1 ++ [[i6 (x5_1_1), i6 (x50)]]), false⟩, [[(2, .ptr 2 0), (3, .ptr 3 0), (10, .p (sB a1.Follow)), (11, .p (i6 (((a1.Follow.length : Int))))), (12, .p (i6 (x5_1_1))), (18, .p (.fn 117 [.rop ([i6 (t43_2.N), sW t43_2.Words])]))]]⟩) (by kernel_rfl) rfl (fun s hb => hnext50 ((x50_1_1 ++ [[i6 (x5_1_1), i6 (x50)]])) s (by first | (rw [h]; exact congrArg some hL) | (dsimp only; rw [h]; exact congrArg some hL)) hb)
            · refine WC.condT rfl (by kernel_rfl) ?_
              refine WX.ret ?_
              refine WC.ret_all (hexit50 _ _ (by simp) ?_)
              refine WC.keep [2, 3, 10, 11, 12, 18] [2, 3] (st' := ⟨[(2, .ptr 2 0), (3, .ptr 3 0), (10, .p (sB a1.Follow)), (11, .p (i6 (((a1.Follow.length : Int))))), (12, .p (i6 (x5_1_1))), (18, .p (.fn 117 [.rop ([i6 (t43_2.N), sW t43_2.Words])]))], [(2, .box 113 [.yield]), (3, .box 3 [.p (i6 (x5_1_1))])], ⟨(x50_1_1 ++ [[i6 (x5_1_1), i6 (x50)]]), true⟩, []⟩) (by kernel_rfl) ?_
              refine WC.ret_all (hexit5 _ _ (by simp) ?_)
              exact WC.ret_all ⟨by kernel_rfl, fun h => by cases h⟩
    · refine WC.condF c31 (by kernel_rfl) ?_
      refine WX.exit ?_
      refine WX.popCodeExit ?_
      refine WC.exit_nil (hexit5 _ _ (by simp) ?_)
      refine WX.popBlkHit ?_
      obtain rfl := Option.some.inj h
      exact WC.exit_nil ⟨by kernel_rfl, fun _ => by simpa using hL⟩
end Go.Proofs.YtegjbjnmedgdoaaDoor
