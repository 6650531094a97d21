/- YtpifpjeeijhhdaaDoorGa: a part of the proof; see the last text for what is proved. -/
import Derived.Test.YtpifpjeeijhhdaaDoorAaExp
import Derived.Test.YtpifpjeeijhhdaaDoorAaJump
import Derived.Test.YtpifpjeeijhhdaaDoorAaShort
import Derived.Test.YtpifpjeeijhhdaaDoorProg
import Derived.KernelRfl
set_option maxRecDepth 100000
set_option linter.unusedVariables false
set_option linter.unusedSimpArgs false
namespace Go.Proofs.YtpifpjeeijhhdaaDoor
open Go.AE
def tab0 : List Int := [0, 1, 56, 2, 57, 49, 28, 3, 61, 58, 42, 50, 38, 29, 17, 4, 62, 47, 59, 36, 45, 43, 51, 22, 53, 39, 33, 30, 24, 18, 12, 5, 63, 55, 48, 27, 60, 41, 37, 16, 46, 35, 44, 21, 52, 32, 23, 11, 54, 26, 40, 15, 34, 20, 31, 10, 25, 14, 19, 9, 13, 8, 7, 6]
structure S7 where
  x : Int
  y : Int
  signed : Bool
  code : Int
def e_S7 : Enc S7 := ⟨fun x => [.s (.int .i64 x.x), .s (.int .i64 x.y), .s (.bool x.signed), .s (.int .u8 x.code)], 4, fun _ => rfl, by decide⟩
structure runtime_boundsError where
  x : Int
  y : Int
  signed : Bool
  code : Int
def e_runtime_boundsError : Enc runtime_boundsError := ⟨fun x => [.s (.int .i64 x.x), .s (.int .i64 x.y), .s (.bool x.signed), .s (.int .u8 x.code)], 4, fun _ => rfl, by decide⟩
structure S13 where
  msg : ByteArray
  addr : Int
def e_S13 : Enc S13 := ⟨fun x => [.s (.string x.msg), .s (.int .u64 x.addr)], 2, fun _ => rfl, by decide⟩
structure runtime_errorAddressString where
  msg : ByteArray
  addr : Int
def e_runtime_errorAddressString : Enc runtime_errorAddressString := ⟨fun x => [.s (.string x.msg), .s (.int .u64 x.addr)], 2, fun _ => rfl, by decide⟩
structure S24 where
  N : Int
  Words : (List Int)
def e_S24 : Enc S24 := ⟨fun x => [.s (.int .i64 x.N), slV (eI .u64) x.Words], 2, fun _ => rfl, by decide⟩
structure api_Bits where
  N : Int
  Words : (List Int)
def e_api_Bits : Enc api_Bits := ⟨fun x => [.s (.int .i64 x.N), slV (eI .u64) x.Words], 2, fun _ => rfl, by decide⟩
structure S27 where
  Classes : (List (Arr4 Int))
  First : api_Bits
  Last : api_Bits
  Follow : (List api_Bits)
  Null : Bool
def e_S27 : Enc S27 := ⟨fun x => [slV (e4 (eI .u64)) x.Classes, .s (.int .i64 x.First.N), slV (eI .u64) x.First.Words, .s (.int .i64 x.Last.N), slV (eI .u64) x.Last.Words, slV e_api_Bits x.Follow, .s (.bool x.Null)], 7, fun _ => rfl, by decide⟩
structure api_Nfa where
  Classes : (List (Arr4 Int))
  First : api_Bits
  Last : api_Bits
  Follow : (List api_Bits)
  Null : Bool
def e_api_Nfa : Enc api_Nfa := ⟨fun x => [slV (e4 (eI .u64)) x.Classes, .s (.int .i64 x.First.N), slV (eI .u64) x.First.Words, .s (.int .i64 x.Last.N), slV (eI .u64) x.Last.Words, slV e_api_Bits x.Follow, .s (.bool x.Null)], 7, fun _ => rfl, by decide⟩
structure S31 where
  Nfa : api_Nfa
  State : (List Int)
  Begin : Int
  B : Int
  W : (List Int)
  Hat : Bool
  Multi : Bool
def e_S31 : Enc S31 := ⟨fun x => [slV (e4 (eI .u64)) x.Nfa.Classes, .s (.int .i64 x.Nfa.First.N), slV (eI .u64) x.Nfa.First.Words, .s (.int .i64 x.Nfa.Last.N), slV (eI .u64) x.Nfa.Last.Words, slV e_api_Bits x.Nfa.Follow, .s (.bool x.Nfa.Null), slV (eI .i64) x.State, .s (.int .i64 x.Begin), .s (.int .u8 x.B), slV (eI .u8) x.W, .s (.bool x.Hat), .s (.bool x.Multi)], 13, fun _ => rfl, by decide⟩
structure riddlelaw23_Case where
  Nfa : api_Nfa
  State : (List Int)
  Begin : Int
  B : Int
  W : (List Int)
  Hat : Bool
  Multi : Bool
def e_riddlelaw23_Case : Enc riddlelaw23_Case := ⟨fun x => [slV (e4 (eI .u64)) x.Nfa.Classes, .s (.int .i64 x.Nfa.First.N), slV (eI .u64) x.Nfa.First.Words, .s (.int .i64 x.Nfa.Last.N), slV (eI .u64) x.Nfa.Last.Words, slV e_api_Bits x.Nfa.Follow, .s (.bool x.Nfa.Null), slV (eI .i64) x.State, .s (.int .i64 x.Begin), .s (.int .u8 x.B), slV (eI .u8) x.W, .s (.bool x.Hat), .s (.bool x.Multi)], 13, fun _ => rfl, by decide⟩
structure riddleref23_Event where
  End : Int
  Start : Int
def e_riddleref23_Event : Enc riddleref23_Event := ⟨fun x => [.s (.int .i64 x.End), .s (.int .i64 x.Start)], 2, fun _ => rfl, by decide⟩
structure S37 where
  End : Int
  Start : Int
def e_S37 : Enc S37 := ⟨fun x => [.s (.int .i64 x.End), .s (.int .i64 x.Start)], 2, fun _ => rfl, by decide⟩
structure api_Node where
  Kind : Int
  Class : (Arr4 Int)
  A : Int
  B : Int
  Least : Int
  Most : Int
  Lazy : Bool
def e_api_Node : Enc api_Node := ⟨fun x => [.s (.int .i64 x.Kind), .s (.int .u64 x.Class.a0), .s (.int .u64 x.Class.a1), .s (.int .u64 x.Class.a2), .s (.int .u64 x.Class.a3), .s (.int .i64 x.A), .s (.int .i64 x.B), .s (.int .i64 x.Least), .s (.int .i64 x.Most), .s (.bool x.Lazy)], 10, fun _ => rfl, by decide⟩
structure S44 where
  Nodes : (List api_Node)
def e_S44 : Enc S44 := ⟨fun x => [slV e_api_Node x.Nodes], 1, fun _ => rfl, by decide⟩
structure api_Tree where
  Nodes : (List api_Node)
def e_api_Tree : Enc api_Tree := ⟨fun x => [slV e_api_Node x.Nodes], 1, fun _ => rfl, by decide⟩
structure S76 where
  Kind : Int
  Class : (Arr4 Int)
  A : Int
  B : Int
  Least : Int
  Most : Int
  Lazy : Bool
def e_S76 : Enc S76 := ⟨fun x => [.s (.int .i64 x.Kind), .s (.int .u64 x.Class.a0), .s (.int .u64 x.Class.a1), .s (.int .u64 x.Class.a2), .s (.int .u64 x.Class.a3), .s (.int .i64 x.A), .s (.int .i64 x.B), .s (.int .i64 x.Least), .s (.int .i64 x.Most), .s (.bool x.Lazy)], 10, fun _ => rfl, by decide⟩
abbrev i6 (x : Int) : PV := .s (.int .i64 x)
abbrev u6 (x : Int) : PV := .s (.int .u64 x)
abbrev sI (l : List Int) : PV := slV (eI .i64) l
abbrev rI (E : Nat) (l : List Int) : AE.Obj := rowV E (eI .i64) l
abbrev rW (E : Nat) (l : List Int) : AE.Obj := rowV E (eI .u64) l
abbrev bo (x : Bool) : PV := .s (.bool x)
abbrev sW (l : List Int) : PV := slV (eI .u64) l
abbrev sC (l : List (Arr4 Int)) : PV := slV (e4 (eI .u64)) l
abbrev sB (l : List api_Bits) : PV := slV e_api_Bits l
abbrev L0 : Log := ⟨[], false⟩
abbrev vV0 (x : riddlelaw23_Case) : List AV := [.p (sC x.Nfa.Classes), .p (i6 (x.Nfa.First.N)), .p (sW x.Nfa.First.Words), .p (i6 (x.Nfa.Last.N)), .p (sW x.Nfa.Last.Words), .p (sB x.Nfa.Follow), .p (bo (x.Nfa.Null)), .p (sI x.State), .p (i6 (x.Begin)), .p (.s (.int .u8 x.B)), .p (slV (eI .u8) x.W), .p (bo (x.Hat)), .p (bo (x.Multi))]
abbrev pP0 (x : riddlelaw23_Case) : PV := .agg [sC x.Nfa.Classes, i6 (x.Nfa.First.N), sW x.Nfa.First.Words, i6 (x.Nfa.Last.N), sW x.Nfa.Last.Words, sB x.Nfa.Follow, bo (x.Nfa.Null), sI x.State, i6 (x.Begin), .s (.int .u8 x.B), slV (eI .u8) x.W, bo (x.Hat), bo (x.Multi)]
abbrev vV1 (x : api_Node) : List AV := [.p (i6 (x.Kind)), .p (u6 (x.Class.a0)), .p (u6 (x.Class.a1)), .p (u6 (x.Class.a2)), .p (u6 (x.Class.a3)), .p (i6 (x.A)), .p (i6 (x.B)), .p (i6 (x.Least)), .p (i6 (x.Most)), .p (bo (x.Lazy))]
abbrev pP1 (x : api_Node) : PV := .agg [i6 (x.Kind), u6 (x.Class.a0), u6 (x.Class.a1), u6 (x.Class.a2), u6 (x.Class.a3), i6 (x.A), i6 (x.B), i6 (x.Least), i6 (x.Most), bo (x.Lazy)]
abbrev vV2 (x : api_Nfa) : List AV := [.p (sC x.Classes), .p (i6 (x.First.N)), .p (sW x.First.Words), .p (i6 (x.Last.N)), .p (sW x.Last.Words), .p (sB x.Follow), .p (bo (x.Null))]
abbrev pP2 (x : api_Nfa) : PV := .agg [sC x.Classes, i6 (x.First.N), sW x.First.Words, i6 (x.Last.N), sW x.Last.Words, sB x.Follow, bo (x.Null)]
abbrev vV5 (x : api_Bits) : List AV := [.p (i6 (x.N)), .p (sW x.Words)]
abbrev pP5 (x : api_Bits) : PV := .agg [i6 (x.N), sW x.Words]
abbrev vV6 (x : riddleref23_Event) : List AV := [.p (i6 (x.End)), .p (i6 (x.Start))]
abbrev pP6 (x : riddleref23_Event) : PV := .agg [i6 (x.End), i6 (x.Start)]
abbrev vV7 (x : api_Tree) : List AV := [.p (slV e_api_Node x.Nodes)]
abbrev pP7 (x : api_Tree) : PV := .agg [slV e_api_Node x.Nodes]
def bits_words (a0 : Int) : Option (Int) :=
  some ((IntKind.i64.wrap (((IntKind.i64.wrap (a0 + 63))).tdiv 64)))
theorem bits_words_ok {a0 : Int} {r : Int} (h : bits_words a0 = some r) : Ans Tryd.prog 111 [i6 (a0)] (i6 (r)) := by
  refine W_fn Tryd.func111 rfl (by kernel_rfl) (by kernel_rfl) ?_
  intro X hro hn
  unfold bits_words at h
  refine WC.rg hn [] [0] [] ⟨[(0, .p (i6 (a0)))], [], L0, []⟩ trivial ?_
  refine WC.rg hn [] [2] [] ⟨[(2, .p (i6 (((IntKind.i64.wrap (((IntKind.i64.wrap (a0 + 63))).tdiv 64))))))], [], L0, []⟩ trivial ?_
  refine WX.ret ?_
  exact WC.outP (by rw [← Option.some.inj h]; kernel_rfl)
def bits_Check (a0 : api_Bits) : Option (Int) :=
  ((if (decide (a0.N < 0)) = true then some true else (if (decide (a0.N > 8192)) = true then some true else (bits_words a0.N).bind fun t2_2 => some (((a0.Words.length : Int) != t2_2)))) : Option (Bool)).bind fun v2 => (if v2 = true then some 10 else ((if (decide ((a0.N.tmod 64) > 0)) = true then (at_ a0.Words ((IntKind.i64.wrap ((a0.Words.length : Int) - 1)))).bind fun t6_2 => (if ¬ (a0.N.tmod 64) < 0 then some (((t6_2.fdiv (2 ^ (min ((a0.N.tmod 64)).toNat IntKind.u64.bits))) != 0)) else none) else some false) : Option (Bool)).bind fun v6 => (if v6 = true then some 10 else some 0))
theorem bits_Check_ok {a0 : api_Bits} {r : Int} (h : bits_Check a0 = some r) : Ans Tryd.prog 93 [pP5 a0] (i6 (r)) := by
  refine W_fn Tryd.func93 rfl (by kernel_rfl) (by kernel_rfl) ?_
  intro X hro hn
  unfold bits_Check at h
  refine WC.rg hn [] [1] [1] ⟨[(1, .ptr 1 0)], [(1, .box 25 (vV5 a0))], L0, []⟩ trivial ?_
  refine WX.seq ?_
  refine WX.seq ?_
  obtain ⟨m2_1, g2, h⟩ := bind_some h
  refine WC.via (α := Bool) (fun v2 => ⟨[(1, .ptr 1 0), (20, .p (bo (v2)))], [(1, .box 25 (vV5 a0))], L0, []⟩) m2_1 (fun hk => ?_) ?_
  · rcases if_or g2 with ⟨b2_3, g2⟩ | ⟨b2_3, g2⟩
    · exact WC.drw hn [] [] [(3, .val (.p (bo (true))))] [1, 20] [1] ⟨[(1, .ptr 1 0), (20, .p (bo (true)))], [(1, .box 25 (vV5 a0))], L0, []⟩ (And.intro (Bl b2_3) (trivial)) (by kernel_rfl) (by kernel_rfl) (by kernel_rfl) (by kernel_rfl) (hk true (Option.some.inj g2))
    · rcases if_or g2 with ⟨b2_8, g2⟩ | ⟨b2_8, g2⟩
      · exact WC.drw hn [] [] [(3, .val (.p (bo (false)))), (8, .val (.p (bo (true))))] [1, 20] [1] ⟨[(1, .ptr 1 0), (20, .p (bo (true)))], [(1, .box 25 (vV5 a0))], L0, []⟩ (And.intro (Bl b2_3) (And.intro (Bl b2_8) (trivial))) (by kernel_rfl) (by kernel_rfl) (by kernel_rfl) (by kernel_rfl) (hk true (Option.some.inj g2))
      · obtain ⟨t2_2, h2_1, g2⟩ := bind_some g2
        exact WC.drw hn [] [] [(3, .val (.p (bo (false)))), (8, .val (.p (bo (false)))), (14, .resP (i6 (t2_2)))] [1, 20] [1] ⟨[(1, .ptr 1 0), (20, .p (bo ((((a0.Words.length : Int) != t2_2)))))], [(1, .box 25 (vV5 a0))], L0, []⟩ (And.intro (Bl b2_3) (And.intro (Bl b2_8) (And.intro ((bits_words_ok h2_1)) (trivial)))) (by kernel_rfl) (by kernel_rfl) (by kernel_rfl) (by kernel_rfl) (hk (((a0.Words.length : Int) != t2_2)) (Option.some.inj g2))
  rcases if_or h with ⟨c3, h⟩ | ⟨c3, h⟩
  · refine WC.condT c3 (by kernel_rfl) ?_
    refine WC.rg hn [] [2] [] ⟨[(2, .p (i6 (10)))], [], L0, []⟩ trivial ?_
    refine WX.ret ?_
    exact WC.outP (by rw [← Option.some.inj h]; kernel_rfl)
  · refine WC.condF c3 (by kernel_rfl) ?_
    refine WX.skip ?_
    refine WX.seq ?_
    refine WC.rg hn [] [1, 3] [1] ⟨[(1, .ptr 1 0), (3, .p (i6 (((a0.N.tmod 64)))))], [(1, .box 25 (vV5 a0))], L0, []⟩ trivial ?_
    refine WX.seq ?_
    obtain ⟨m6_1, g6, h⟩ := bind_some h
    refine WC.via (α := Bool) (fun v6 => ⟨[(38, .p (bo (v6)))], [], L0, []⟩) m6_1 (fun hk => ?_) ?_
    · rcases if_or g6 with ⟨b6_2, g6⟩ | ⟨b6_2, g6⟩
      · obtain ⟨t6_2, h6_1, g6⟩ := bind_some g6
        obtain ⟨c6_3, g6⟩ := if_some g6
        exact WC.reg hn [(2, .val (.p (bo (true)))), (9, .val (.p (.rop ((eI .u64).cells t6_2 ++ encL (eI .u64) (a0.Words.drop (((IntKind.i64.wrap ((a0.Words.length : Int) - 1))).toNat + 1)))))), (12, .val (.p (u6 ((t6_2.fdiv (2 ^ (min ((a0.N.tmod 64)).toNat IntKind.u64.bits)))))))] [38] [] ⟨[(38, .p (bo ((((t6_2.fdiv (2 ^ (min ((a0.N.tmod 64)).toNat IntKind.u64.bits))) != 0)))))], [], L0, []⟩ (And.intro (Bl b6_2) (And.intro (Ix (eI .u64) h6_1) (And.intro (Shr .u64 t6_2 ((a0.N.tmod 64)) c6_3) (trivial)))) (by kernel_rfl) (hk (((t6_2.fdiv (2 ^ (min ((a0.N.tmod 64)).toNat IntKind.u64.bits))) != 0)) (Option.some.inj g6))
      · exact WC.reg hn [(2, .val (.p (bo (false))))] [38] [] ⟨[(38, .p (bo (false)))], [], L0, []⟩ (And.intro (Bl b6_2) (trivial)) (by kernel_rfl) (hk false (Option.some.inj g6))
    rcases if_or h with ⟨c7, h⟩ | ⟨c7, h⟩
    · refine WC.condT c7 (by kernel_rfl) ?_
      refine WC.rg hn [] [2] [] ⟨[(2, .p (i6 (10)))], [], L0, []⟩ trivial ?_
      refine WX.ret ?_
      exact WC.outP (by rw [← Option.some.inj h]; kernel_rfl)
    · refine WC.condF c7 (by kernel_rfl) ?_
      refine WX.skip ?_
      refine WC.rg hn [] [2] [] ⟨[(2, .p (i6 (0)))], [], L0, []⟩ trivial ?_
      refine WX.ret ?_
      exact WC.outP (by rw [← Option.some.inj h]; kernel_rfl)
def glushkov_Check_1_v1 (a0 : api_Bits) (a1 : Int) : Option (Bool) :=
  (bits_Check a0).bind fun t2_2 => some ((((t2_2 != 0)) || ((a0.N != a1))))
theorem glushkov_Check_1_v1_ok {a0 : api_Bits} {a1 : Int} {r : Bool} (h : glushkov_Check_1_v1 a0 a1 = some r) : Ans Tryd.prog 104 [pP5 a0, .rop ([i6 (a1)])] (bo (r)) := by
  refine W_fn Tryd.func104 rfl (by kernel_rfl) (by kernel_rfl) ?_
  intro X hro hn
  unfold glushkov_Check_1_v1 at h
  refine WC.rg hn [] [1, 2] [2] ⟨[(1, .p (.rop ([i6 (a1)]))), (2, .ptr 2 0)], [(2, .box 25 (vV5 a0))], L0, []⟩ trivial ?_
  refine WX.seq ?_
  obtain ⟨t2_2, h2_1, h⟩ := bind_some h
  refine WC.via (α := Bool) (fun v2 => ⟨[(3, .p (bo (v2)))], [], L0, []⟩) ((((t2_2 != 0)) || ((a0.N != a1)))) (fun hk => ?_) ?_
  · rcases Bool.eq_false_or_eq_true ((t2_2 != 0)) with b2_3 | b2_3
    · exact WC.reg hn [(1, .resP (i6 (t2_2))), (3, .val (.p (bo (true))))] [3] [] ⟨[(3, .p (bo (true)))], [], L0, []⟩ (And.intro ((bits_Check_ok h2_1)) (And.intro (Bl b2_3) (trivial))) (by kernel_rfl) (hk true (by first | (rw [b2_3]; rfl) | simp [b2_3]))
    · exact WC.reg hn [(1, .resP (i6 (t2_2))), (3, .val (.p (bo (false))))] [3] [] ⟨[(3, .p (bo (((a0.N != a1)))))], [], L0, []⟩ (And.intro ((bits_Check_ok h2_1)) (And.intro (Bl b2_3) (trivial))) (by kernel_rfl) (hk ((a0.N != a1)) (by first | (rw [b2_3]; rfl) | simp [b2_3]))
  refine WX.ret ?_
  exact WC.outP (by rw [← Option.some.inj h]; kernel_rfl)
def slices_IndexFunc_riddle_api_Bits_riddle_api_Bits_v1_l0 (a0 : (List api_Bits)) (a1 : (Int)) (J3 : Unit → Option (Int)) : Nat → Int → Option (Int)
  | 0, _ => none
  | k + 1, x20_1_1 => (if (decide (x20_1_1 < (a0.length : Int))) = true then (at_ a0 x20_1_1).bind fun t38_2 => (glushkov_Check_1_v1 t38_2 a1).bind fun t38_4 => (if t38_4 = true then some x20_1_1 else slices_IndexFunc_riddle_api_Bits_riddle_api_Bits_v1_l0 a0 a1 J3 k ((IntKind.i64.wrap (x20_1_1 + 1)))) else J3 ())
def slices_IndexFunc_riddle_api_Bits_riddle_api_Bits_v1 (k : Nat) (a0 : (List api_Bits)) (a1 : (Int)) : Option (Int) :=
  jn (fun (v3 : Unit) => some ((-1))) fun J3 => slices_IndexFunc_riddle_api_Bits_riddle_api_Bits_v1_l0 a0 a1 J3 k 0
theorem slices_IndexFunc_riddle_api_Bits_riddle_api_Bits_v1_ok {k : Nat} {a0 : (List api_Bits)} {a1 : (Int)} {r : Int} (h : slices_IndexFunc_riddle_api_Bits_riddle_api_Bits_v1 k a0 a1 = some r) : Ans Tryd.prog 113 [sB a0, .fn 104 [.rop ([i6 (a1)])]] (i6 (r)) := by
  refine W_fn Tryd.func113 rfl (by kernel_rfl) (by kernel_rfl) ?_
  intro X hro hn
  unfold slices_IndexFunc_riddle_api_Bits_riddle_api_Bits_v1 at h
  refine WC.rg hn [] [0, 1] [] ⟨[(0, .p (sB a0)), (1, .p (.fn 104 [.rop ([i6 (a1)])]))], [], L0, []⟩ trivial ?_
  refine WX.seq ?_
  refine WC.rg hn [] [0, 1, 7, 8] [] ⟨[(0, .p (sB a0)), (1, .p (.fn 104 [.rop ([i6 (a1)])])), (7, .p (i6 (((a0.length : Int))))), (8, .p (i6 (0)))], [], L0, []⟩ trivial ?_
  obtain ⟨J3, eJ3, h⟩ := jn_some h
  try dsimp only at h
  refine WC.join (α := Unit) (fun v3 => ⟨[], [], L0, []⟩) (fun v3 => J3 v3 = some r) ?_ (fun hJ3 => ?_)
  · rintro _ h
    rw [eJ3] at h
    try dsimp only at h
    refine WC.rg hn [] [4] [] ⟨[(4, .p (i6 (((-1)))))], [], L0, []⟩ trivial ?_
    refine WX.ret ?_
    exact WC.outP (by rw [← Option.some.inj h]; kernel_rfl)
  · skip
    refine WX.block ?_
    refine WC.loop (V := Int) (slices_IndexFunc_riddle_api_Bits_riddle_api_Bits_v1_l0 a0 a1 J3) r (fun v20 => ⟨[(0, .p (sB a0)), (1, .p (.fn 104 [.rop ([i6 (a1)])])), (7, .p (i6 (((a0.length : Int))))), (8, .p (i6 (v20)))], [], L0, []⟩) _ 0 h (fun _ => rfl) [0, 1, 7, 8] [] (by kernel_rfl) ?_
    clear h; rintro k x20_1_1 h K20 hnext20 hexit20
    rw [slices_IndexFunc_riddle_api_Bits_riddle_api_Bits_v1_l0] at h
    refine WC.rg hn [] [0, 1, 7, 8, 9] [] ⟨[(0, .p (sB a0)), (1, .p (.fn 104 [.rop ([i6 (a1)])])), (7, .p (i6 (((a0.length : Int))))), (8, .p (i6 (x20_1_1))), (9, .p (bo (((decide (x20_1_1 < (a0.length : Int)))))))], [], L0, []⟩ trivial ?_
    refine WX.seq ?_
    rcases if_or h with ⟨c36, h⟩ | ⟨c36, h⟩
    · refine WC.condT c36 (by kernel_rfl) ?_
      refine WX.skip ?_
      refine WX.seq ?_
      refine WX.block ?_
      refine WC.rg hn [] [0, 1, 5, 7, 8] [] ⟨[(0, .p (sB a0)), (1, .p (.fn 104 [.rop ([i6 (a1)])])), (5, .p (i6 (x20_1_1))), (7, .p (i6 (((a0.length : Int))))), (8, .p (i6 (x20_1_1)))], [], L0, []⟩ trivial ?_
      refine WX.seq ?_
      obtain ⟨t38_2, h38_1, h⟩ := bind_some h
      obtain ⟨t38_4, h38_3, h⟩ := bind_some h
      refine WC.r1 hn [(3, .val (.p (.rop (e_api_Bits.cells t38_2 ++ encL e_api_Bits (a0.drop (x20_1_1.toNat + 1)))))), (5, .resP (bo (t38_4)))] [0, 1, 5, 7, 8, 16] [] ⟨[(0, .p (sB a0)), (1, .p (.fn 104 [.rop ([i6 (a1)])])), (5, .p (i6 (x20_1_1))), (7, .p (i6 (((a0.length : Int))))), (8, .p (i6 (x20_1_1))), (16, .p (bo (t38_4)))], [], L0, []⟩ (And.intro (Ix e_api_Bits h38_1) (And.intro ((glushkov_Check_1_v1_ok h38_3)) (trivial))) ?_
      rcases if_or h with ⟨c39, h⟩ | ⟨c39, h⟩
      · refine WC.condT c39 (by kernel_rfl) ?_
        refine WC.rg hn [] [4] [] ⟨[(4, .p (i6 (x20_1_1)))], [], L0, []⟩ trivial ?_
        refine WX.ret ?_
        refine WC.ret_all (hexit20 _ _ (by simp) ?_)
        exact WC.outP (by rw [← Option.some.inj h]; kernel_rfl)
      · refine WC.condF c39 (by kernel_rfl) ?_
        refine WX.skip ?_
        refine WX.popBlk ?_
        refine WC.r1 hn [] [0, 1, 7, 8] [] ⟨[(0, .p (sB a0)), (1, .p (.fn 104 [.rop ([i6 (a1)])])), (7, .p (i6 (((a0.length : Int))))), (8, .p (i6 (((IntKind.i64.wrap (x20_1_1 + 1))))))], [], L0, []⟩ trivial ?_
        exact WC.next [0, 1, 7, 8] [] (by kernel_rfl) (hnext20 ((IntKind.i64.wrap (x20_1_1 + 1))) h)
    · refine WC.condF c36 (by kernel_rfl) ?_
      refine WX.exit ?_
      refine WX.popCodeExit ?_
      refine WC.exit_nil (hexit20 _ _ (by simp) ?_)
      refine WX.popBlkHit ?_
      exact WC.keep [] [] (by kernel_rfl) (hJ3 () h)
def slices_ContainsFunc_riddle_api_Bits_riddle_api_Bits_v1 (k : Nat) (a0 : (List api_Bits)) (a1 : (Int)) : Option (Bool) :=
  (slices_IndexFunc_riddle_api_Bits_riddle_api_Bits_v1 k a0 a1).bind fun t2_2 => some ((decide (t2_2 ≥ 0)))
theorem slices_ContainsFunc_riddle_api_Bits_riddle_api_Bits_v1_ok {k : Nat} {a0 : (List api_Bits)} {a1 : (Int)} {r : Bool} (h : slices_ContainsFunc_riddle_api_Bits_riddle_api_Bits_v1 k a0 a1 = some r) : Ans Tryd.prog 105 [sB a0, .fn 104 [.rop ([i6 (a1)])]] (bo (r)) := by
  refine W_fn Tryd.func105 rfl (by kernel_rfl) (by kernel_rfl) ?_
  intro X hro hn
  unfold slices_ContainsFunc_riddle_api_Bits_riddle_api_Bits_v1 at h
  refine WC.rg hn [] [0, 1] [] ⟨[(0, .p (sB a0)), (1, .p (.fn 104 [.rop ([i6 (a1)])]))], [], L0, []⟩ trivial ?_
  refine WX.seq ?_
  obtain ⟨t2_2, h2_1, h⟩ := bind_some h
  refine WC.r1 hn [(2, .resP (i6 (t2_2)))] [4] [] ⟨[(4, .p (bo (((decide (t2_2 ≥ 0))))))], [], L0, []⟩ (And.intro ((slices_IndexFunc_riddle_api_Bits_riddle_api_Bits_v1_ok h2_1)) (trivial)) ?_
  refine WX.ret ?_
  exact WC.outP (by rw [← Option.some.inj h]; kernel_rfl)
def glushkov_Check (k : Nat) (a0 : api_Nfa) : Option (Int) :=
  (if (((decide ((a0.Classes.length : Int) > 512))) || (((a0.Follow.length : Int) != (a0.Classes.length : Int)))) = true then some 100 else (glushkov_Check_1_v1 a0.First ((a0.Classes.length : Int))).bind fun t7_2 => ((if t7_2 = true then some true else (glushkov_Check_1_v1 a0.Last ((a0.Classes.length : Int))).bind fun t7_4 => (if t7_4 = true then some true else (slices_ContainsFunc_riddle_api_Bits_riddle_api_Bits_v1 k a0.Follow ((a0.Classes.length : Int))).bind fun t7_6 => some t7_6)) : Option (Bool)).bind fun v7 => (if v7 = true then some 100 else some 0))
theorem glushkov_Check_ok {k : Nat} {a0 : api_Nfa} {r : Int} (h : glushkov_Check k a0 = some r) : Ans Tryd.prog 84 [pP2 a0] (i6 (r)) := by
  refine W_fn Tryd.func84 rfl (by kernel_rfl) (by kernel_rfl) ?_
  intro X hro hn
  unfold glushkov_Check at h
  refine WC.rg hn [] [1] [1] ⟨[(1, .ptr 1 0)], [(1, .box 28 (vV2 a0))], L0, []⟩ trivial ?_
  refine WC.rg hn [] [1, 3] [1, 3] ⟨[(1, .ptr 1 0), (3, .ptr 3 0)], [(1, .box 28 (vV2 a0)), (3, .box 3 [.p (i6 (((a0.Classes.length : Int))))])], L0, []⟩ trivial ?_
  refine WX.seq ?_
  refine WX.seq ?_
  refine WC.via (α := Bool) (fun v3 => ⟨[(1, .ptr 1 0), (3, .ptr 3 0), (16, .p (bo (v3)))], [(1, .box 28 (vV2 a0)), (3, .box 3 [.p (i6 (((a0.Classes.length : Int))))])], L0, []⟩) ((((decide ((a0.Classes.length : Int) > 512))) || (((a0.Follow.length : Int) != (a0.Classes.length : Int))))) (fun hk => ?_) ?_
  · rcases Bool.eq_false_or_eq_true ((decide ((a0.Classes.length : Int) > 512))) with b3_2 | b3_2
    · exact WC.reg hn [(2, .val (.p (bo (true))))] [1, 3, 16] [1, 3] ⟨[(1, .ptr 1 0), (3, .ptr 3 0), (16, .p (bo (true)))], [(1, .box 28 (vV2 a0)), (3, .box 3 [.p (i6 (((a0.Classes.length : Int))))])], L0, []⟩ (And.intro (Bl b3_2) (trivial)) (by kernel_rfl) (hk true (by first | (rw [b3_2]; rfl) | simp [b3_2]))
    · exact WC.reg hn [(2, .val (.p (bo (false))))] [1, 3, 16] [1, 3] ⟨[(1, .ptr 1 0), (3, .ptr 3 0), (16, .p (bo ((((a0.Follow.length : Int) != (a0.Classes.length : Int))))))], [(1, .box 28 (vV2 a0)), (3, .box 3 [.p (i6 (((a0.Classes.length : Int))))])], L0, []⟩ (And.intro (Bl b3_2) (trivial)) (by kernel_rfl) (hk (((a0.Follow.length : Int) != (a0.Classes.length : Int))) (by first | (rw [b3_2]; rfl) | simp [b3_2]))
  rcases if_or h with ⟨c4, h⟩ | ⟨c4, h⟩
  · refine WC.condT c4 (by kernel_rfl) ?_
    refine WC.rg hn [] [2] [] ⟨[(2, .p (i6 (100)))], [], L0, []⟩ trivial ?_
    refine WX.ret ?_
    exact WC.outP (by rw [← Option.some.inj h]; kernel_rfl)
  · refine WC.condF c4 (by kernel_rfl) ?_
    refine WX.skip ?_
    refine WC.rg hn [] [1, 4] [1, 3] ⟨[(1, .ptr 1 0), (4, .fn 104 [.ptr 3 0])], [(1, .box 28 (vV2 a0)), (3, .box 3 [.p (i6 (((a0.Classes.length : Int))))])], L0, []⟩ trivial ?_
    refine WX.seq ?_
    refine WX.seq ?_
    obtain ⟨t7_2, h7_1, h⟩ := bind_some h
    obtain ⟨m7_1, g7, h⟩ := bind_some h
    refine WC.via (α := Bool) (fun v7 => ⟨[(33, .p (bo (v7)))], [], L0, []⟩) m7_1 (fun hk => ?_) ?_
    · rcases if_or g7 with ⟨b7_4, g7⟩ | ⟨b7_4, g7⟩
      · exact WC.reg hn [(3, .res (bo (t7_2))), (4, .val (.p (bo (true))))] [33] [] ⟨[(33, .p (bo (true)))], [], L0, []⟩ (And.intro (And.intro (glushkov_Check_1_v1_ok h7_1) (rfl : (bo (t7_2) : PV).flat = true)) (And.intro (Bl b7_4) (trivial))) (by kernel_rfl) (hk true (Option.some.inj g7))
      · obtain ⟨t7_4, h7_3, g7⟩ := bind_some g7
        rcases if_or g7 with ⟨b7_10, g7⟩ | ⟨b7_10, g7⟩
        · exact WC.reg hn [(3, .res (bo (t7_2))), (4, .val (.p (bo (false)))), (8, .res (bo (t7_4))), (10, .val (.p (bo (true))))] [33] [] ⟨[(33, .p (bo (true)))], [], L0, []⟩ (And.intro (And.intro (glushkov_Check_1_v1_ok h7_1) (rfl : (bo (t7_2) : PV).flat = true)) (And.intro (Bl b7_4) (And.intro (And.intro (glushkov_Check_1_v1_ok h7_3) (rfl : (bo (t7_4) : PV).flat = true)) (And.intro (Bl b7_10) (trivial))))) (by kernel_rfl) (hk true (Option.some.inj g7))
        · obtain ⟨t7_6, h7_5, g7⟩ := bind_some g7
          exact WC.reg hn [(3, .res (bo (t7_2))), (4, .val (.p (bo (false)))), (8, .res (bo (t7_4))), (10, .val (.p (bo (false)))), (14, .res (bo (t7_6)))] [33] [] ⟨[(33, .p (bo (t7_6)))], [], L0, []⟩ (And.intro (And.intro (glushkov_Check_1_v1_ok h7_1) (rfl : (bo (t7_2) : PV).flat = true)) (And.intro (Bl b7_4) (And.intro (And.intro (glushkov_Check_1_v1_ok h7_3) (rfl : (bo (t7_4) : PV).flat = true)) (And.intro (Bl b7_10) (And.intro (And.intro (slices_ContainsFunc_riddle_api_Bits_riddle_api_Bits_v1_ok h7_5) (rfl : (bo (t7_6) : PV).flat = true)) (trivial)))))) (by kernel_rfl) (hk t7_6 (Option.some.inj g7))
    rcases if_or h with ⟨c8, h⟩ | ⟨c8, h⟩
    · refine WC.condT c8 (by kernel_rfl) ?_
      refine WC.rg hn [] [2] [] ⟨[(2, .p (i6 (100)))], [], L0, []⟩ trivial ?_
      refine WX.ret ?_
      exact WC.outP (by rw [← Option.some.inj h]; kernel_rfl)
    · refine WC.condF c8 (by kernel_rfl) ?_
      refine WX.skip ?_
      refine WC.rg hn [] [2] [] ⟨[(2, .p (i6 (0)))], [], L0, []⟩ trivial ?_
      refine WX.ret ?_
      exact WC.outP (by rw [← Option.some.inj h]; kernel_rfl)
def bits_empty (a0 : Int) : Option (api_Bits) :=
  (bits_words a0).bind fun t2_2 => (if okMake 8 t2_2 then some ((api_Bits.mk a0 (List.replicate t2_2.toNat (0 : Int)))) else none)
theorem bits_empty_ok {a0 : Int} {r : api_Bits} (h : bits_empty a0 = some r) : AnsO Tryd.prog 94 [] [.p (i6 (a0))] [(6, rW 73 r.Words)] (.agg [.p (i6 (r.N)), .own 6]) := by
  refine W_fnO [6] Tryd.func94 rfl (by kernel_rfl) (by kernel_rfl) (by kernel_rfl) (by kernel_rfl) ?_
  intro X hro hn
  unfold bits_empty at h
  refine WC.rg hn [] [0, 2] [2] ⟨[(0, .p (i6 (a0))), (2, .ptr 2 0)], [(2, .box 25 [.p (i6 (0)), .p (.sl .nil 0 [])])], L0, []⟩ trivial ?_
  refine WX.seq ?_
  obtain ⟨t2_2, h2_1, h⟩ := bind_some h
  obtain ⟨c2_3, h⟩ := if_some h
  refine WC.r1 hn [(2, .resP (i6 (t2_2))), (3, .ob (rW 73 (List.replicate t2_2.toNat (0 : Int))))] [2] [2, 6] ⟨[(2, .ptr 2 0)], [(2, .box 25 [.p (i6 (a0)), .own 6]), (6, rW 73 (List.replicate t2_2.toNat (0 : Int)))], L0, []⟩ (And.intro ((bits_words_ok h2_1)) (And.intro (Mk (eI .u64) [.int .u64 0] 0 73 8 t2_2 rfl rfl c2_3) (trivial))) ?_
  refine WX.ret ?_
  exact WC.outO (by rw [← Option.some.inj h]; kernel_rfl)
theorem bits_empty_okP {a0 : Int} {r : api_Bits} (h : bits_empty a0 = some r) : Ans Tryd.prog 94 [i6 (a0)] (pP5 r) := AnsO.ans (args := [i6 (a0)]) (bits_empty_ok h) (by kernel_rfl)
def bits_New_l0 (a0 : Int) (a1 : (List Int)) (J7 : List Int → Option (api_Bits × Int)) : Nat → (Int × List Int) → Option (api_Bits × Int)
  | 0, _ => none
  | k + 1, (x26_1_1, x26_1_2) => (if (decide (x26_1_1 < (a1.length : Int))) = true then (at_ a1 x26_1_1).bind fun t45_2 => (if (((decide (t45_2 ≥ 0))) && ((decide (t45_2 < a0)))) = true then (at_ x26_1_2 ((IntKind.i64.wrap (t45_2.tdiv 64)))).bind fun t48_2 => (if ¬ (t45_2.tmod 64) < 0 then bits_New_l0 a0 a1 J7 k ((IntKind.i64.wrap (x26_1_1 + 1)), x26_1_2.set ((IntKind.i64.wrap (t45_2.tdiv 64))).toNat ((bits .or .u64 t48_2 ((IntKind.u64.wrap (1 * 2 ^ (min ((t45_2.tmod 64)).toNat IntKind.u64.bits))))))) else none) else bits_New_l0 a0 a1 J7 k ((IntKind.i64.wrap (x26_1_1 + 1)), x26_1_2)) else J7 x26_1_2)
def bits_New (k : Nat) (a0 : Int) (a1 : (List Int)) : Option (api_Bits × Int) :=
  (if (((decide (a0 < 0))) || ((decide (a0 > 8192)))) = true then some ((api_Bits.mk 0 (([] : List Int))), 1) else (bits_empty a0).bind fun t5_2 => jn (fun (v7 : List Int) => some ((api_Bits.mk t5_2.N v7), 0)) fun J7 => bits_New_l0 a0 a1 J7 k (0, t5_2.Words))
theorem bits_New_ok {k : Nat} {a0 : Int} {a1 : (List Int)} {r : api_Bits × Int} (h : bits_New k a0 a1 = some r) : AnsO Tryd.prog 59 [] [.p (i6 (a0)), .p (sI a1)] [(17, rW 73 r.1.Words)] (.tup [.agg [.p (i6 (r.1.N)), .own 17], .p (i6 (r.2))]) := by
  refine W_fnO [17] Tryd.func59 rfl (by kernel_rfl) (by kernel_rfl) (by kernel_rfl) (by kernel_rfl) ?_
  intro X hro hn
  unfold bits_New at h
  refine WC.rg hn [] [0, 1, 4] [4] ⟨[(0, .p (i6 (a0))), (1, .p (sI a1)), (4, .ptr 4 0)], [(4, .box 25 [.p (i6 (0)), .p (.sl .nil 0 [])])], L0, []⟩ trivial ?_
  refine WX.seq ?_
  refine WX.seq ?_
  refine WC.via (α := Bool) (fun v2 => ⟨[(0, .p (i6 (a0))), (1, .p (sI a1)), (4, .ptr 4 0), (14, .p (bo (v2)))], [(4, .box 25 [.p (i6 (0)), .p (.sl .nil 0 [])])], L0, []⟩) ((((decide (a0 < 0))) || ((decide (a0 > 8192))))) (fun hk => ?_) ?_
  · rcases Bool.eq_false_or_eq_true ((decide (a0 < 0))) with b2_2 | b2_2
    · exact WC.reg hn [(2, .val (.p (bo (true))))] [0, 1, 4, 14] [4] ⟨[(0, .p (i6 (a0))), (1, .p (sI a1)), (4, .ptr 4 0), (14, .p (bo (true)))], [(4, .box 25 [.p (i6 (0)), .p (.sl .nil 0 [])])], L0, []⟩ (And.intro (Bl b2_2) (trivial)) (by kernel_rfl) (hk true (by first | (rw [b2_2]; rfl) | simp [b2_2]))
    · exact WC.reg hn [(2, .val (.p (bo (false))))] [0, 1, 4, 14] [4] ⟨[(0, .p (i6 (a0))), (1, .p (sI a1)), (4, .ptr 4 0), (14, .p (bo (((decide (a0 > 8192))))))], [(4, .box 25 [.p (i6 (0)), .p (.sl .nil 0 [])])], L0, []⟩ (And.intro (Bl b2_2) (trivial)) (by kernel_rfl) (hk ((decide (a0 > 8192))) (by first | (rw [b2_2]; rfl) | simp [b2_2]))
  rcases if_or h with ⟨c3, h⟩ | ⟨c3, h⟩
  · refine WC.condT c3 (by kernel_rfl) ?_
    refine WC.rg hn [] [4, 5] [4] ⟨[(4, .ptr 4 0), (5, .p (i6 (1)))], [(4, .box 25 [.p (i6 (0)), .p (.sl .nil 0 [])])], L0, []⟩ trivial ?_
    refine WX.ret ?_
    refine WC.nil hn [] (some (4, 1)) 17 73 1 (by kernel_rfl) [4, 5] [4, 17] (st' := ⟨[(4, .ptr 4 0), (5, .p (i6 (1)))], [(4, .box 25 [.p (i6 (0)), .own 17]), (17, rW 73 (([] : List Int)))], L0, []⟩) (by kernel_rfl) ?_
    exact WC.outO (by rw [← Option.some.inj h]; kernel_rfl)
  · refine WC.condF c3 (by kernel_rfl) ?_
    refine WX.skip ?_
    refine WX.seq ?_
    obtain ⟨t5_2, h5_1, h⟩ := bind_some h
    refine WC.r1 hn [(1, .co [] [] [] [(17, rW 73 t5_2.Words)] (.agg [.p (i6 (t5_2.N)), .own 17]))] [0, 1, 4, 6] [4, 6, 17] ⟨[(0, .p (i6 (a0))), (1, .p (sI a1)), (4, .ptr 4 0), (6, .ptr 6 0)], [(4, .box 25 [.p (i6 (0)), .p (.sl .nil 0 [])]), (6, .box 25 [.p (i6 (t5_2.N)), .own 17]), (17, rW 73 t5_2.Words)], L0, []⟩ (And.intro (And.intro ((bits_empty_ok h5_1).ren 6 17 (by kernel_rfl)) (trivial)) (trivial)) ?_
    refine WX.seq ?_
    refine WC.rg hn [] [0, 4, 6, 18, 19, 20] [4, 6, 17] ⟨[(0, .p (i6 (a0))), (4, .ptr 4 0), (6, .ptr 6 0), (18, .p (sI a1)), (19, .p (i6 (((a1.length : Int))))), (20, .p (i6 (0)))], [(4, .box 25 [.p (i6 (0)), .p (.sl .nil 0 [])]), (6, .box 25 [.p (i6 (t5_2.N)), .own 17]), (17, rW 73 t5_2.Words)], L0, []⟩ trivial ?_
    obtain ⟨J7, eJ7, h⟩ := jn_some h
    try dsimp only at h
    refine WC.join (α := List Int) (fun v7 => ⟨[(4, .ptr 4 0), (6, .ptr 6 0)], [(4, .box 25 [.p (i6 (0)), .p (.sl .nil 0 [])]), (6, .box 25 [.p (i6 (t5_2.N)), .own 17]), (17, rW 73 v7)], L0, []⟩) (fun v7 => J7 v7 = some r) ?_ (fun hJ7 => ?_)
    · rintro y7_1 h
      rw [eJ7] at h
      try dsimp only at h
      refine WC.rg hn [] [4, 5] [4, 17] ⟨[(4, .ptr 4 0), (5, .p (i6 (0)))], [(4, .box 25 [.p (i6 (t5_2.N)), .own 17]), (17, rW 73 y7_1)], L0, []⟩ trivial ?_
      refine WX.ret ?_
      exact WC.outO (by rw [← Option.some.inj h]; kernel_rfl)
    · replace hJ7 := fun y7_1 => hJ7 y7_1
      refine WX.block ?_
      refine WC.loop (V := Int × List Int) (bits_New_l0 a0 a1 J7) r (fun v26 => ⟨[(0, .p (i6 (a0))), (4, .ptr 4 0), (6, .ptr 6 0), (18, .p (sI a1)), (19, .p (i6 (((a1.length : Int))))), (20, .p (i6 (v26.1)))], [(4, .box 25 [.p (i6 (0)), .p (.sl .nil 0 [])]), (6, .box 25 [.p (i6 (t5_2.N)), .own 17]), (17, rW 73 v26.2)], L0, []⟩) _ (0, t5_2.Words) h (fun _ => rfl) [0, 4, 6, 18, 19, 20] [4, 6, 17] (by kernel_rfl) ?_
      clear h; rintro k ⟨x26_1_1, x26_1_2⟩ h K26 hnext26 hexit26
      rw [bits_New_l0] at h
      refine WC.rg hn [] [0, 4, 6, 18, 19, 20, 21] [4, 6, 17] ⟨[(0, .p (i6 (a0))), (4, .ptr 4 0), (6, .ptr 6 0), (18, .p (sI a1)), (19, .p (i6 (((a1.length : Int))))), (20, .p (i6 (x26_1_1))), (21, .p (bo (((decide (x26_1_1 < (a1.length : Int)))))))], [(4, .box 25 [.p (i6 (0)), .p (.sl .nil 0 [])]), (6, .box 25 [.p (i6 (t5_2.N)), .own 17]), (17, rW 73 x26_1_2)], L0, []⟩ trivial ?_
      refine WX.seq ?_
      rcases if_or h with ⟨c44, h⟩ | ⟨c44, h⟩
      · refine WC.condT c44 (by kernel_rfl) ?_
        refine WX.skip ?_
        refine WX.seq ?_
        refine WX.block ?_
        refine WX.seq ?_
        obtain ⟨t45_2, h45_1, h⟩ := bind_some h
        refine WC.r1 hn [(0, .val (.p (.rop ((eI .i64).cells t45_2 ++ encL (eI .i64) (a1.drop (x26_1_1.toNat + 1))))))] [0, 4, 6, 8, 18, 19, 20] [4, 6, 17] ⟨[(0, .p (i6 (a0))), (4, .ptr 4 0), (6, .ptr 6 0), (8, .p (i6 (t45_2))), (18, .p (sI a1)), (19, .p (i6 (((a1.length : Int))))), (20, .p (i6 (x26_1_1)))], [(4, .box 25 [.p (i6 (0)), .p (.sl .nil 0 [])]), (6, .box 25 [.p (i6 (t5_2.N)), .own 17]), (17, rW 73 x26_1_2)], L0, []⟩ (And.intro (Ix (eI .i64) h45_1) (trivial)) ?_
        refine WX.seq ?_
        refine WC.via (α := Bool) (fun v46 => ⟨[(0, .p (i6 (a0))), (4, .ptr 4 0), (6, .ptr 6 0), (8, .p (i6 (t45_2))), (18, .p (sI a1)), (19, .p (i6 (((a1.length : Int))))), (20, .p (i6 (x26_1_1))), (30, .p (bo (v46)))], [(4, .box 25 [.p (i6 (0)), .p (.sl .nil 0 [])]), (6, .box 25 [.p (i6 (t5_2.N)), .own 17]), (17, rW 73 x26_1_2)], L0, []⟩) ((((decide (t45_2 ≥ 0))) && ((decide (t45_2 < a0))))) (fun hk => ?_) ?_
        · rcases Bool.eq_false_or_eq_true ((decide (t45_2 ≥ 0))) with b46_2 | b46_2
          · exact WC.reg hn [(2, .val (.p (bo (true))))] [0, 4, 6, 8, 18, 19, 20, 30] [4, 6, 17] ⟨[(0, .p (i6 (a0))), (4, .ptr 4 0), (6, .ptr 6 0), (8, .p (i6 (t45_2))), (18, .p (sI a1)), (19, .p (i6 (((a1.length : Int))))), (20, .p (i6 (x26_1_1))), (30, .p (bo (((decide (t45_2 < a0))))))], [(4, .box 25 [.p (i6 (0)), .p (.sl .nil 0 [])]), (6, .box 25 [.p (i6 (t5_2.N)), .own 17]), (17, rW 73 x26_1_2)], L0, []⟩ (And.intro (Bl b46_2) (trivial)) (by kernel_rfl) (hk ((decide (t45_2 < a0))) (by first | (rw [b46_2]; rfl) | simp [b46_2]))
          · exact WC.reg hn [(2, .val (.p (bo (false))))] [0, 4, 6, 8, 18, 19, 20, 30] [4, 6, 17] ⟨[(0, .p (i6 (a0))), (4, .ptr 4 0), (6, .ptr 6 0), (8, .p (i6 (t45_2))), (18, .p (sI a1)), (19, .p (i6 (((a1.length : Int))))), (20, .p (i6 (x26_1_1))), (30, .p (bo (false)))], [(4, .box 25 [.p (i6 (0)), .p (.sl .nil 0 [])]), (6, .box 25 [.p (i6 (t5_2.N)), .own 17]), (17, rW 73 x26_1_2)], L0, []⟩ (And.intro (Bl b46_2) (trivial)) (by kernel_rfl) (hk false (by first | (rw [b46_2]; rfl) | simp [b46_2]))
        rcases if_or h with ⟨c47, h⟩ | ⟨c47, h⟩
        · refine WC.condT c47 (by kernel_rfl) ?_
          obtain ⟨t48_2, h48_1, h⟩ := bind_some h
          obtain ⟨c48_3, h⟩ := if_some h
          refine WC.drw hn [(11, [])] [] [(4, .val (.ptr 17 (((IntKind.i64.wrap (t45_2.tdiv 64))).toNat * 1))), (5, .val (.p (u6 (t48_2)))), (8, .val (.p (u6 ((IntKind.u64.wrap (1 * 2 ^ (min ((t45_2.tmod 64)).toNat IntKind.u64.bits))))))), (10, .val (.ptr 17 (((IntKind.i64.wrap (t45_2.tdiv 64))).toNat * 1))), (11, .sto 17 (rW 73 (x26_1_2.set ((IntKind.i64.wrap (t45_2.tdiv 64))).toNat ((bits .or .u64 t48_2 ((IntKind.u64.wrap (1 * 2 ^ (min ((t45_2.tmod 64)).toNat IntKind.u64.bits)))))))))] [0, 4, 6, 18, 19, 20] [4, 6, 17] ⟨[(0, .p (i6 (a0))), (4, .ptr 4 0), (6, .ptr 6 0), (18, .p (sI a1)), (19, .p (i6 (((a1.length : Int))))), (20, .p (i6 (x26_1_1)))], [(4, .box 25 [.p (i6 (0)), .p (.sl .nil 0 [])]), (6, .box 25 [.p (i6 (t5_2.N)), .own 17]), (17, rW 73 (x26_1_2.set ((IntKind.i64.wrap (t45_2.tdiv 64))).toNat ((bits .or .u64 t48_2 ((IntKind.u64.wrap (1 * 2 ^ (min ((t45_2.tmod 64)).toNat IntKind.u64.bits))))))))], L0, []⟩ (And.intro (IxO 17 1 h48_1) (And.intro (LdO0 Tryd.prog (eI .u64) 73 h48_1) (And.intro (Shl .u64 1 ((t45_2.tmod 64)) c48_3) (And.intro (IxO 17 1 h48_1) (And.intro (StO0 (eI .u64) 17 73 1 1 [u6 (((bits .or .u64 t48_2 ((IntKind.u64.wrap (1 * 2 ^ (min ((t45_2.tmod 64)).toNat IntKind.u64.bits)))))))] ((bits .or .u64 t48_2 ((IntKind.u64.wrap (1 * 2 ^ (min ((t45_2.tmod 64)).toNat IntKind.u64.bits)))))) h48_1 rfl rfl (by decide)) (trivial)))))) (by kernel_rfl) (by kernel_rfl) (by kernel_rfl) (by kernel_rfl) ?_
          refine WX.popBlk ?_
          refine WC.r1 hn [] [0, 4, 6, 18, 19, 20] [4, 6, 17] ⟨[(0, .p (i6 (a0))), (4, .ptr 4 0), (6, .ptr 6 0), (18, .p (sI a1)), (19, .p (i6 (((a1.length : Int))))), (20, .p (i6 (((IntKind.i64.wrap (x26_1_1 + 1))))))], [(4, .box 25 [.p (i6 (0)), .p (.sl .nil 0 [])]), (6, .box 25 [.p (i6 (t5_2.N)), .own 17]), (17, rW 73 (x26_1_2.set ((IntKind.i64.wrap (t45_2.tdiv 64))).toNat ((bits .or .u64 t48_2 ((IntKind.u64.wrap (1 * 2 ^ (min ((t45_2.tmod 64)).toNat IntKind.u64.bits))))))))], L0, []⟩ trivial ?_
          exact WC.next [0, 4, 6, 18, 19, 20] [4, 6, 17] (by kernel_rfl) (hnext26 ((IntKind.i64.wrap (x26_1_1 + 1)), x26_1_2.set ((IntKind.i64.wrap (t45_2.tdiv 64))).toNat ((bits .or .u64 t48_2 ((IntKind.u64.wrap (1 * 2 ^ (min ((t45_2.tmod 64)).toNat IntKind.u64.bits))))))) h)
        · refine WC.condF c47 (by kernel_rfl) ?_
          refine WX.skip ?_
          refine WX.popBlk ?_
          refine WC.r1 hn [] [0, 4, 6, 18, 19, 20] [4, 6, 17] ⟨[(0, .p (i6 (a0))), (4, .ptr 4 0), (6, .ptr 6 0), (18, .p (sI a1)), (19, .p (i6 (((a1.length : Int))))), (20, .p (i6 (((IntKind.i64.wrap (x26_1_1 + 1))))))], [(4, .box 25 [.p (i6 (0)), .p (.sl .nil 0 [])]), (6, .box 25 [.p (i6 (t5_2.N)), .own 17]), (17, rW 73 x26_1_2)], L0, []⟩ trivial ?_
          exact WC.next [0, 4, 6, 18, 19, 20] [4, 6, 17] (by kernel_rfl) (hnext26 ((IntKind.i64.wrap (x26_1_1 + 1)), x26_1_2) h)
      · refine WC.condF c44 (by kernel_rfl) ?_
        refine WX.exit ?_
        refine WX.popCodeExit ?_
        refine WC.exit_nil (hexit26 _ _ (by simp) ?_)
        refine WX.popBlkHit ?_
        exact WC.keep [4, 6] [4, 6, 17] (by kernel_rfl) (hJ7 x26_1_2 h)
theorem bits_New_okP {k : Nat} {a0 : Int} {a1 : (List Int)} {r : api_Bits × Int} (h : bits_New k a0 a1 = some r) : Ans Tryd.prog 59 [i6 (a0), sI a1] (.tup [pP5 r.1, i6 (r.2)]) := AnsO.ans (args := [i6 (a0), sI a1]) (bits_New_ok h) (by kernel_rfl)
def glushkov_none (k : Nat) (a0 : Int) : Option (api_Bits) :=
  (bits_New k a0 ([])).bind fun t2_2 => some t2_2.1
theorem glushkov_none_ok {k : Nat} {a0 : Int} {r : api_Bits} (h : glushkov_none k a0 = some r) : AnsO Tryd.prog 106 [] [.p (i6 (a0))] [(7, rW 73 r.Words)] (.agg [.p (i6 (r.N)), .own 7]) := by
  refine W_fnO [7] Tryd.func106 rfl (by kernel_rfl) (by kernel_rfl) (by kernel_rfl) (by kernel_rfl) ?_
  intro X hro hn
  unfold glushkov_none at h
  refine WC.rg hn [] [0, 2] [2] ⟨[(0, .p (i6 (a0))), (2, .ptr 2 0)], [(2, .box 25 [.p (i6 (0)), .p (.sl .nil 0 [])])], L0, []⟩ trivial ?_
  refine WX.seq ?_
  obtain ⟨t2_2, h2_1, h⟩ := bind_some h
  refine WC.r1 hn [(1, .co [] [] [] [(7, rW 73 t2_2.1.Words)] (.tup [.agg [.p (i6 (t2_2.1.N)), .own 7], .p (i6 (t2_2.2))]))] [2, 3] [2, 3, 7] ⟨[(2, .ptr 2 0), (3, .ptr 3 0)], [(2, .box 25 [.p (i6 (0)), .p (.sl .nil 0 [])]), (3, .box 25 [.p (i6 (t2_2.1.N)), .own 7]), (7, rW 73 t2_2.1.Words)], L0, []⟩ (And.intro (And.intro ((bits_New_ok h2_1).ren 17 7 (by kernel_rfl)) (trivial)) (trivial)) ?_
  refine WC.rg hn [] [2] [2, 7] ⟨[(2, .ptr 2 0)], [(2, .box 25 [.p (i6 (t2_2.1.N)), .own 7]), (7, rW 73 t2_2.1.Words)], L0, []⟩ trivial ?_
  refine WX.ret ?_
  exact WC.outO (by rw [← Option.some.inj h]; kernel_rfl)
theorem glushkov_none_okP {k : Nat} {a0 : Int} {r : api_Bits} (h : glushkov_none k a0 = some r) : Ans Tryd.prog 106 [i6 (a0)] (pP5 r) := AnsO.ans (args := [i6 (a0)]) (glushkov_none_ok h) (by kernel_rfl)
def glushkov_Empty (k : Nat)  : Option (api_Nfa) :=
  (glushkov_none k 0).bind fun t2_2 => (glushkov_none k 0).bind fun t2_4 => some ((api_Nfa.mk ([]) t2_2 t2_4 ([]) true))
theorem glushkov_Empty_ok {k : Nat}  {r : api_Nfa} (h : glushkov_Empty k = some r) : AnsO Tryd.prog 85 [] [] [(1, rW 73 r.First.Words), (2, rW 73 r.Last.Words)] (.agg [.p (sC r.Classes), .p (i6 (r.First.N)), .own 1, .p (i6 (r.Last.N)), .own 2, .p (sB r.Follow), .p (bo (r.Null))]) := by
  refine W_fnO [1, 2] Tryd.func85 rfl (by kernel_rfl) (by kernel_rfl) (by kernel_rfl) (by kernel_rfl) ?_
  intro X hro hn
  unfold glushkov_Empty at h
  refine WC.rg hn [] [0] [0] ⟨[(0, .ptr 0 0)], [(0, .box 28 [.p (.sl .nil 0 []), .p (i6 (0)), .p (.sl .nil 0 []), .p (i6 (0)), .p (.sl .nil 0 []), .p (.sl .nil 0 []), .p (bo (false))])], L0, []⟩ trivial ?_
  refine WX.seq ?_
  obtain ⟨t2_2, h2_1, h⟩ := bind_some h
  obtain ⟨t2_4, h2_3, h⟩ := bind_some h
  refine WC.r1 hn [(0, .co [] [] [] [(1, rW 73 t2_2.Words)] (.agg [.p (i6 (t2_2.N)), .own 1])), (1, .co [] [] [] [(2, rW 73 t2_4.Words)] (.agg [.p (i6 (t2_4.N)), .own 2]))] [0] [0, 1, 2] ⟨[(0, .ptr 0 0)], [(0, .box 28 [.p (.sl .nil 0 []), .p (i6 (t2_2.N)), .own 1, .p (i6 (t2_4.N)), .own 2, .p (.sl .nil 0 []), .p (bo (true))]), (1, rW 73 t2_2.Words), (2, rW 73 t2_4.Words)], L0, []⟩ (And.intro (And.intro ((glushkov_none_ok h2_1).ren 7 1 (by kernel_rfl)) (trivial)) (And.intro (And.intro ((glushkov_none_ok h2_3).ren 7 2 (by kernel_rfl)) (trivial)) (trivial))) ?_
  refine WX.ret ?_
  exact WC.outO (by rw [← Option.some.inj h]; kernel_rfl)
theorem glushkov_Empty_okP {k : Nat}  {r : api_Nfa} (h : glushkov_Empty k = some r) : Ans Tryd.prog 85 [] (pP2 r) := AnsO.ans (args := []) (glushkov_Empty_ok h) (by kernel_rfl)
def starts_may (k : Nat) (a0 : api_Nfa) : Option (api_Nfa) :=
  (glushkov_Check k a0).bind fun t2_2 => (if (t2_2 != 0) = true then (glushkov_Empty k).bind fun t4_2 => some ((api_Nfa.mk t4_2.Classes t4_2.First t4_2.Last t4_2.Follow false)) else some a0)
theorem starts_may_ok {k : Nat} {a0 : api_Nfa} {r : api_Nfa} (h : starts_may k a0 = some r) : Ans Tryd.prog 46 [pP2 a0] (pP2 r) := by
  refine W_fn Tryd.func46 rfl (by kernel_rfl) (by kernel_rfl) ?_
  intro X hro hn
  unfold starts_may at h
  refine WC.rg hn [] [1, 2] [1, 2] ⟨[(1, .ptr 1 0), (2, .ptr 2 0)], [(1, .box 28 (vV2 a0)), (2, .box 28 [.p (.sl .nil 0 []), .p (i6 (0)), .p (.sl .nil 0 []), .p (i6 (0)), .p (.sl .nil 0 []), .p (.sl .nil 0 []), .p (bo (false))])], L0, []⟩ trivial ?_
  refine WX.seq ?_
  refine WX.seq ?_
  obtain ⟨t2_2, h2_1, h⟩ := bind_some h
  refine WC.r1 hn [(1, .resP (i6 (t2_2)))] [1, 2, 5] [1, 2] ⟨[(1, .ptr 1 0), (2, .ptr 2 0), (5, .p (bo (((t2_2 != 0)))))], [(1, .box 28 (vV2 a0)), (2, .box 28 [.p (.sl .nil 0 []), .p (i6 (0)), .p (.sl .nil 0 []), .p (i6 (0)), .p (.sl .nil 0 []), .p (.sl .nil 0 []), .p (bo (false))])], L0, []⟩ (And.intro ((glushkov_Check_ok h2_1)) (trivial)) ?_
  rcases if_or h with ⟨c3, h⟩ | ⟨c3, h⟩
  · refine WC.condT c3 (by kernel_rfl) ?_
    refine WX.seq ?_
    obtain ⟨t4_2, h4_1, h⟩ := bind_some h
    refine WC.r1 hn [(0, .co [] [] [] [(6, rW 73 t4_2.First.Words), (8, rW 73 t4_2.Last.Words)] (.agg [.p (sC t4_2.Classes), .p (i6 (t4_2.First.N)), .own 6, .p (i6 (t4_2.Last.N)), .own 8, .p (sB t4_2.Follow), .p (bo (t4_2.Null))]))] [1, 2] [1, 2, 6, 8] ⟨[(1, .ptr 1 0), (2, .ptr 2 0)], [(1, .box 28 [.p (sC t4_2.Classes), .p (i6 (t4_2.First.N)), .own 6, .p (i6 (t4_2.Last.N)), .own 8, .p (sB t4_2.Follow), .p (bo (t4_2.Null))]), (2, .box 28 [.p (.sl .nil 0 []), .p (i6 (0)), .p (.sl .nil 0 []), .p (i6 (0)), .p (.sl .nil 0 []), .p (.sl .nil 0 []), .p (bo (false))]), (6, rW 73 t4_2.First.Words), (8, rW 73 t4_2.Last.Words)], L0, []⟩ (And.intro (And.intro (((glushkov_Empty_ok h4_1).ren 1 6 (by kernel_rfl)).ren 2 8 (by kernel_rfl)) (trivial)) (trivial)) ?_
    refine WC.r1 hn [] [1, 2] [1, 2, 6, 8] ⟨[(1, .ptr 1 0), (2, .ptr 2 0)], [(1, .box 28 [.p (sC t4_2.Classes), .p (i6 (t4_2.First.N)), .own 6, .p (i6 (t4_2.Last.N)), .own 8, .p (sB t4_2.Follow), .p (bo (false))]), (2, .box 28 [.p (.sl .nil 0 []), .p (i6 (0)), .p (.sl .nil 0 []), .p (i6 (0)), .p (.sl .nil 0 []), .p (.sl .nil 0 []), .p (bo (false))]), (6, rW 73 t4_2.First.Words), (8, rW 73 t4_2.Last.Words)], L0, []⟩ trivial ?_
    refine WC.rg hn [] [2] [2, 6, 8] ⟨[(2, .ptr 2 0)], [(2, .box 28 [.p (sC t4_2.Classes), .p (i6 (t4_2.First.N)), .own 6, .p (i6 (t4_2.Last.N)), .own 8, .p (sB t4_2.Follow), .p (bo (false))]), (6, rW 73 t4_2.First.Words), (8, rW 73 t4_2.Last.Words)], L0, []⟩ trivial ?_
    refine WX.ret ?_
    exact WC.outP (by rw [← Option.some.inj h]; kernel_rfl)
  · refine WC.condF c3 (by kernel_rfl) ?_
    refine WX.skip ?_
    refine WC.rg hn [] [2] [2] ⟨[(2, .ptr 2 0)], [(2, .box 28 (vV2 a0))], L0, []⟩ trivial ?_
    refine WX.ret ?_
    exact WC.outP (by rw [← Option.some.inj h]; kernel_rfl)
def bits_Mul32 (a0 : Int) (a1 : Int) : Option (Int × Int) :=
  some ((IntKind.u32.wrap ((((IntKind.u64.wrap ((IntKind.u64.wrap a0) * (IntKind.u64.wrap a1)))).fdiv (2 ^ 32)))), (IntKind.u32.wrap ((IntKind.u64.wrap ((IntKind.u64.wrap a0) * (IntKind.u64.wrap a1))))))
theorem bits_Mul32_ok {a0 : Int} {a1 : Int} {r : Int × Int} (h : bits_Mul32 a0 a1 = some r) : Ans Tryd.prog 109 [.s (.int .u32 a0), .s (.int .u32 a1)] (.tup [.s (.int .u32 r.1), .s (.int .u32 r.2)]) := by
  refine W_fn Tryd.func109 rfl (by kernel_rfl) (by kernel_rfl) ?_
  intro X hro hn
  unfold bits_Mul32 at h
  refine WC.rg hn [] [0, 1] [] ⟨[(0, .p (.s (.int .u32 a0))), (1, .p (.s (.int .u32 a1)))], [], L0, []⟩ trivial ?_
  refine WC.rg hn [] [6] [] ⟨[(6, .p (u6 (((IntKind.u64.wrap ((IntKind.u64.wrap a0) * (IntKind.u64.wrap a1)))))))], [], L0, []⟩ trivial ?_
  refine WC.rg hn [] [4, 5] [] ⟨[(4, .p (.s (.int .u32 ((IntKind.u32.wrap ((((IntKind.u64.wrap ((IntKind.u64.wrap a0) * (IntKind.u64.wrap a1)))).fdiv (2 ^ 32)))))))), (5, .p (.s (.int .u32 ((IntKind.u32.wrap ((IntKind.u64.wrap ((IntKind.u64.wrap a0) * (IntKind.u64.wrap a1)))))))))], [], L0, []⟩ trivial ?_
  refine WX.ret ?_
  exact WC.outP (by rw [← Option.some.inj h]; kernel_rfl)
def bits_Mul64 (a0 : Int) (a1 : Int) : Option (Int × Int) :=
  some ((IntKind.u64.wrap ((IntKind.u64.wrap ((IntKind.u64.wrap ((a0.fdiv (2 ^ 32)) * (a1.fdiv (2 ^ 32)))) + (((IntKind.u64.wrap ((IntKind.u64.wrap ((a0.fdiv (2 ^ 32)) * (bits .and .u64 a1 4294967295))) + (((IntKind.u64.wrap ((bits .and .u64 a0 4294967295) * (bits .and .u64 a1 4294967295)))).fdiv (2 ^ 32))))).fdiv (2 ^ 32)))) + (((IntKind.u64.wrap ((bits .and .u64 ((IntKind.u64.wrap ((IntKind.u64.wrap ((a0.fdiv (2 ^ 32)) * (bits .and .u64 a1 4294967295))) + (((IntKind.u64.wrap ((bits .and .u64 a0 4294967295) * (bits .and .u64 a1 4294967295)))).fdiv (2 ^ 32))))) 4294967295) + (IntKind.u64.wrap ((bits .and .u64 a0 4294967295) * (a1.fdiv (2 ^ 32))))))).fdiv (2 ^ 32)))), (IntKind.u64.wrap (a0 * a1)))
theorem bits_Mul64_ok {a0 : Int} {a1 : Int} {r : Int × Int} (h : bits_Mul64 a0 a1 = some r) : Ans Tryd.prog 110 [u6 (a0), u6 (a1)] (.tup [u6 (r.1), u6 (r.2)]) := by
  refine W_fn Tryd.func110 rfl (by kernel_rfl) (by kernel_rfl) ?_
  intro X hro hn
  unfold bits_Mul64 at h
  refine WC.rg hn [] [0, 1] [] ⟨[(0, .p (u6 (a0))), (1, .p (u6 (a1)))], [], L0, []⟩ trivial ?_
  refine WC.rg hn [] [0, 1, 6] [] ⟨[(0, .p (u6 (a0))), (1, .p (u6 (a1))), (6, .p (u6 (((bits .and .u64 a0 4294967295)))))], [], L0, []⟩ trivial ?_
  refine WC.rg hn [] [0, 1, 6, 7] [] ⟨[(0, .p (u6 (a0))), (1, .p (u6 (a1))), (6, .p (u6 (((bits .and .u64 a0 4294967295))))), (7, .p (u6 (((a0.fdiv (2 ^ 32))))))], [], L0, []⟩ trivial ?_
  refine WC.rg hn [] [0, 1, 6, 7, 8] [] ⟨[(0, .p (u6 (a0))), (1, .p (u6 (a1))), (6, .p (u6 (((bits .and .u64 a0 4294967295))))), (7, .p (u6 (((a0.fdiv (2 ^ 32)))))), (8, .p (u6 (((bits .and .u64 a1 4294967295)))))], [], L0, []⟩ trivial ?_
  refine WC.rg hn [] [0, 1, 6, 7, 8, 9] [] ⟨[(0, .p (u6 (a0))), (1, .p (u6 (a1))), (6, .p (u6 (((bits .and .u64 a0 4294967295))))), (7, .p (u6 (((a0.fdiv (2 ^ 32)))))), (8, .p (u6 (((bits .and .u64 a1 4294967295))))), (9, .p (u6 (((a1.fdiv (2 ^ 32))))))], [], L0, []⟩ trivial ?_
  refine WC.rg hn [] [0, 1, 6, 7, 8, 9, 10] [] ⟨[(0, .p (u6 (a0))), (1, .p (u6 (a1))), (6, .p (u6 (((bits .and .u64 a0 4294967295))))), (7, .p (u6 (((a0.fdiv (2 ^ 32)))))), (8, .p (u6 (((bits .and .u64 a1 4294967295))))), (9, .p (u6 (((a1.fdiv (2 ^ 32)))))), (10, .p (u6 (((IntKind.u64.wrap ((bits .and .u64 a0 4294967295) * (bits .and .u64 a1 4294967295)))))))], [], L0, []⟩ trivial ?_
  refine WC.rg hn [] [0, 1, 6, 7, 9, 11] [] ⟨[(0, .p (u6 (a0))), (1, .p (u6 (a1))), (6, .p (u6 (((bits .and .u64 a0 4294967295))))), (7, .p (u6 (((a0.fdiv (2 ^ 32)))))), (9, .p (u6 (((a1.fdiv (2 ^ 32)))))), (11, .p (u6 (((IntKind.u64.wrap ((IntKind.u64.wrap ((a0.fdiv (2 ^ 32)) * (bits .and .u64 a1 4294967295))) + (((IntKind.u64.wrap ((bits .and .u64 a0 4294967295) * (bits .and .u64 a1 4294967295)))).fdiv (2 ^ 32))))))))], [], L0, []⟩ trivial ?_
  refine WC.rg hn [] [0, 1, 6, 7, 9, 11, 12] [] ⟨[(0, .p (u6 (a0))), (1, .p (u6 (a1))), (6, .p (u6 (((bits .and .u64 a0 4294967295))))), (7, .p (u6 (((a0.fdiv (2 ^ 32)))))), (9, .p (u6 (((a1.fdiv (2 ^ 32)))))), (11, .p (u6 (((IntKind.u64.wrap ((IntKind.u64.wrap ((a0.fdiv (2 ^ 32)) * (bits .and .u64 a1 4294967295))) + (((IntKind.u64.wrap ((bits .and .u64 a0 4294967295) * (bits .and .u64 a1 4294967295)))).fdiv (2 ^ 32)))))))), (12, .p (u6 (((bits .and .u64 ((IntKind.u64.wrap ((IntKind.u64.wrap ((a0.fdiv (2 ^ 32)) * (bits .and .u64 a1 4294967295))) + (((IntKind.u64.wrap ((bits .and .u64 a0 4294967295) * (bits .and .u64 a1 4294967295)))).fdiv (2 ^ 32))))) 4294967295)))))], [], L0, []⟩ trivial ?_
  refine WC.rg hn [] [0, 1, 6, 7, 9, 12, 13] [] ⟨[(0, .p (u6 (a0))), (1, .p (u6 (a1))), (6, .p (u6 (((bits .and .u64 a0 4294967295))))), (7, .p (u6 (((a0.fdiv (2 ^ 32)))))), (9, .p (u6 (((a1.fdiv (2 ^ 32)))))), (12, .p (u6 (((bits .and .u64 ((IntKind.u64.wrap ((IntKind.u64.wrap ((a0.fdiv (2 ^ 32)) * (bits .and .u64 a1 4294967295))) + (((IntKind.u64.wrap ((bits .and .u64 a0 4294967295) * (bits .and .u64 a1 4294967295)))).fdiv (2 ^ 32))))) 4294967295))))), (13, .p (u6 (((((IntKind.u64.wrap ((IntKind.u64.wrap ((a0.fdiv (2 ^ 32)) * (bits .and .u64 a1 4294967295))) + (((IntKind.u64.wrap ((bits .and .u64 a0 4294967295) * (bits .and .u64 a1 4294967295)))).fdiv (2 ^ 32))))).fdiv (2 ^ 32))))))], [], L0, []⟩ trivial ?_
  refine WC.rg hn [] [0, 1, 7, 9, 12, 13] [] ⟨[(0, .p (u6 (a0))), (1, .p (u6 (a1))), (7, .p (u6 (((a0.fdiv (2 ^ 32)))))), (9, .p (u6 (((a1.fdiv (2 ^ 32)))))), (12, .p (u6 (((IntKind.u64.wrap ((bits .and .u64 ((IntKind.u64.wrap ((IntKind.u64.wrap ((a0.fdiv (2 ^ 32)) * (bits .and .u64 a1 4294967295))) + (((IntKind.u64.wrap ((bits .and .u64 a0 4294967295) * (bits .and .u64 a1 4294967295)))).fdiv (2 ^ 32))))) 4294967295) + (IntKind.u64.wrap ((bits .and .u64 a0 4294967295) * (a1.fdiv (2 ^ 32)))))))))), (13, .p (u6 (((((IntKind.u64.wrap ((IntKind.u64.wrap ((a0.fdiv (2 ^ 32)) * (bits .and .u64 a1 4294967295))) + (((IntKind.u64.wrap ((bits .and .u64 a0 4294967295) * (bits .and .u64 a1 4294967295)))).fdiv (2 ^ 32))))).fdiv (2 ^ 32))))))], [], L0, []⟩ trivial ?_
  refine WC.rg hn [] [0, 1, 4] [] ⟨[(0, .p (u6 (a0))), (1, .p (u6 (a1))), (4, .p (u6 (((IntKind.u64.wrap ((IntKind.u64.wrap ((IntKind.u64.wrap ((a0.fdiv (2 ^ 32)) * (a1.fdiv (2 ^ 32)))) + (((IntKind.u64.wrap ((IntKind.u64.wrap ((a0.fdiv (2 ^ 32)) * (bits .and .u64 a1 4294967295))) + (((IntKind.u64.wrap ((bits .and .u64 a0 4294967295) * (bits .and .u64 a1 4294967295)))).fdiv (2 ^ 32))))).fdiv (2 ^ 32)))) + (((IntKind.u64.wrap ((bits .and .u64 ((IntKind.u64.wrap ((IntKind.u64.wrap ((a0.fdiv (2 ^ 32)) * (bits .and .u64 a1 4294967295))) + (((IntKind.u64.wrap ((bits .and .u64 a0 4294967295) * (bits .and .u64 a1 4294967295)))).fdiv (2 ^ 32))))) 4294967295) + (IntKind.u64.wrap ((bits .and .u64 a0 4294967295) * (a1.fdiv (2 ^ 32))))))).fdiv (2 ^ 32))))))))], [], L0, []⟩ trivial ?_
  refine WC.rg hn [] [4, 5] [] ⟨[(4, .p (u6 (((IntKind.u64.wrap ((IntKind.u64.wrap ((IntKind.u64.wrap ((a0.fdiv (2 ^ 32)) * (a1.fdiv (2 ^ 32)))) + (((IntKind.u64.wrap ((IntKind.u64.wrap ((a0.fdiv (2 ^ 32)) * (bits .and .u64 a1 4294967295))) + (((IntKind.u64.wrap ((bits .and .u64 a0 4294967295) * (bits .and .u64 a1 4294967295)))).fdiv (2 ^ 32))))).fdiv (2 ^ 32)))) + (((IntKind.u64.wrap ((bits .and .u64 ((IntKind.u64.wrap ((IntKind.u64.wrap ((a0.fdiv (2 ^ 32)) * (bits .and .u64 a1 4294967295))) + (((IntKind.u64.wrap ((bits .and .u64 a0 4294967295) * (bits .and .u64 a1 4294967295)))).fdiv (2 ^ 32))))) 4294967295) + (IntKind.u64.wrap ((bits .and .u64 a0 4294967295) * (a1.fdiv (2 ^ 32))))))).fdiv (2 ^ 32)))))))), (5, .p (u6 (((IntKind.u64.wrap (a0 * a1))))))], [], L0, []⟩ trivial ?_
  refine WX.ret ?_
  exact WC.outP (by rw [← Option.some.inj h]; kernel_rfl)
def bits_Mul (a0 : Int) (a1 : Int) : Option (Int × Int) :=
  (bits_Mul64 a0 a1).bind fun t2_2 => some (t2_2.1, t2_2.2)
theorem bits_Mul_ok {a0 : Int} {a1 : Int} {r : Int × Int} (h : bits_Mul a0 a1 = some r) : Ans Tryd.prog 92 [u6 (a0), u6 (a1)] (.tup [u6 (r.1), u6 (r.2)]) := by
  refine W_fn Tryd.func92 rfl (by kernel_rfl) (by kernel_rfl) ?_
  intro X hro hn
  unfold bits_Mul at h
  refine WC.rg hn [] [0, 1] [] ⟨[(0, .p (u6 (a0))), (1, .p (u6 (a1)))], [], L0, []⟩ trivial ?_
  refine WX.seq ?_
  refine WC.condF rfl (by kernel_rfl) ?_
  refine WX.skip ?_
  refine WX.seq ?_
  obtain ⟨t2_2, h2_1, h⟩ := bind_some h
  refine WC.r1 hn [(2, .resP (.tup [u6 (t2_2.1), u6 (t2_2.2)]))] [8, 9] [] ⟨[(8, .p (u6 (t2_2.1))), (9, .p (u6 (t2_2.2)))], [], L0, []⟩ (And.intro ((bits_Mul64_ok h2_1)) (trivial)) ?_
  refine WC.rg hn [] [4, 5] [] ⟨[(4, .p (u6 (t2_2.1))), (5, .p (u6 (t2_2.2)))], [], L0, []⟩ trivial ?_
  refine WX.ret ?_
  exact WC.outP (by rw [← Option.some.inj h]; kernel_rfl)
def slices_Repeat_int64_int64_l0 (J11 : List Int → Option ((List Int))) : Nat → (List Int × Int) → Option ((List Int))
  | 0, _ => none
  | k + 1, (x20_1_1, x20_1_2) => (if (decide (x20_1_2 < (x20_1_1.length : Int))) = true then (if (0 : Int) ≤ x20_1_2 ∧ x20_1_2 ≤ (x20_1_1.length : Int) ∧ (x20_1_1.length : Int) ≤ (x20_1_1.length : Nat) then (if (0 : Int) ≤ 0 ∧ 0 ≤ x20_1_2 ∧ x20_1_2 ≤ (x20_1_1.length : Nat) then (if (x20_1_2 : Int) < (x20_1_1.length : Int) then slices_Repeat_int64_int64_l0 J11 k (cpyAt x20_1_1 x20_1_2 ((x20_1_1.length : Int)) (sub_ x20_1_1 0 x20_1_2), (IntKind.i64.wrap (x20_1_2 + ((min ((x20_1_2 : Int) - (0 : Int)).toNat (((x20_1_1.length : Int) : Int) - (x20_1_2 : Int)).toNat : Nat) : Int)))) else none) else none) else none) else J11 x20_1_1)
def slices_Repeat_int64_int64 (k : Nat) (a0 : (List Int)) (a1 : Int) : Option ((List Int)) :=
  jn (fun (v3 : Unit) => (bits_Mul ((IntKind.u64.wrap ((a0.length : Int)))) ((IntKind.u64.wrap a1))).bind fun t5_2 => jn (fun (v7 : Unit) => (if okMake 8 ((IntKind.i64.wrap t5_2.2)) then jn (fun (v11 : List Int) => some v11) fun J11 => slices_Repeat_int64_int64_l0 J11 k (cpy (List.replicate ((IntKind.i64.wrap t5_2.2)).toNat (0 : Int)) a0, ((min a0.length (List.replicate ((IntKind.i64.wrap t5_2.2)).toNat (0 : Int)).length : Nat) : Int)) else none)) fun J7 => (if (((decide (t5_2.1 > 0))) || ((decide (t5_2.2 > 9223372036854775807)))) = true then none else J7 ())) fun J3 => (if (decide (a1 < 0)) = true then none else J3 ())
theorem slices_Repeat_int64_int64_ok {k : Nat} {a0 : (List Int)} {a1 : Int} {r : (List Int)} (h : slices_Repeat_int64_int64 k a0 a1 = some r) : AnsO Tryd.prog 57 [] [.p (sI a0), .p (i6 (a1))] [(30, rI 2 r)] (.own 30) := by
  refine W_fnO [30] Tryd.func57 rfl (by kernel_rfl) (by kernel_rfl) (by kernel_rfl) (by kernel_rfl) ?_
  intro X hro hn
  unfold slices_Repeat_int64_int64 at h
  refine WC.rg hn [] [0, 1] [] ⟨[(0, .p (sI a0)), (1, .p (i6 (a1)))], [], L0, []⟩ trivial ?_
  refine WX.seq ?_
  refine WC.rg hn [] [0, 1, 10] [] ⟨[(0, .p (sI a0)), (1, .p (i6 (a1))), (10, .p (bo (((decide (a1 < 0))))))], [], L0, []⟩ trivial ?_
  obtain ⟨J3, eJ3, h⟩ := jn_some h
  try dsimp only at h
  refine WC.join (α := Unit) (fun v3 => ⟨[(0, .p (sI a0)), (1, .p (i6 (a1)))], [], L0, []⟩) (fun v3 => J3 v3 = some r) ?_ (fun hJ3 => ?_)
  · rintro _ h
    rw [eJ3] at h
    try dsimp only at h
    refine WX.seq ?_
    obtain ⟨t5_2, h5_1, h⟩ := bind_some h
    refine WC.r1 hn [(5, .resP (.tup [u6 (t5_2.1), u6 (t5_2.2)]))] [0, 5, 6] [] ⟨[(0, .p (sI a0)), (5, .p (u6 (t5_2.1))), (6, .p (u6 (t5_2.2)))], [], L0, []⟩ (And.intro ((bits_Mul_ok h5_1)) (trivial)) ?_
    refine WX.seq ?_
    refine WX.seq ?_
    refine WC.via (α := Bool) (fun v6 => ⟨[(0, .p (sI a0)), (6, .p (u6 (t5_2.2))), (26, .p (bo (v6)))], [], L0, []⟩) ((((decide (t5_2.1 > 0))) || ((decide (t5_2.2 > 9223372036854775807))))) (fun hk => ?_) ?_
    · rcases Bool.eq_false_or_eq_true ((decide (t5_2.1 > 0))) with b6_2 | b6_2
      · exact WC.reg hn [(2, .val (.p (bo (true))))] [0, 6, 26] [] ⟨[(0, .p (sI a0)), (6, .p (u6 (t5_2.2))), (26, .p (bo (true)))], [], L0, []⟩ (And.intro (Bl b6_2) (trivial)) (by kernel_rfl) (hk true (by first | (rw [b6_2]; rfl) | simp [b6_2]))
      · exact WC.reg hn [(2, .val (.p (bo (false))))] [0, 6, 26] [] ⟨[(0, .p (sI a0)), (6, .p (u6 (t5_2.2))), (26, .p (bo (((decide (t5_2.2 > 9223372036854775807))))))], [], L0, []⟩ (And.intro (Bl b6_2) (trivial)) (by kernel_rfl) (hk ((decide (t5_2.2 > 9223372036854775807))) (by first | (rw [b6_2]; rfl) | simp [b6_2]))
    obtain ⟨J7, eJ7, h⟩ := jn_some h
    try dsimp only at h
    refine WC.join (α := Unit) (fun v7 => ⟨[(0, .p (sI a0)), (6, .p (u6 (t5_2.2)))], [], L0, []⟩) (fun v7 => J7 v7 = some r) ?_ (fun hJ7 => ?_)
    · rintro _ h
      rw [eJ7] at h
      try dsimp only at h
      refine WX.seq ?_
      obtain ⟨c9_1, h⟩ := if_some h
      refine WC.r1 hn [(2, .ob (rI 2 (List.replicate ((IntKind.i64.wrap t5_2.2)).toNat (0 : Int))))] [0, 7] [30] ⟨[(0, .p (sI a0)), (7, .own 30)], [(30, rI 2 (List.replicate ((IntKind.i64.wrap t5_2.2)).toNat (0 : Int)))], L0, []⟩ (And.intro (Mk (eI .i64) [.int .i64 0] 0 2 8 ((IntKind.i64.wrap t5_2.2)) rfl rfl c9_1) (trivial)) ?_
      refine WC.rg hn [(2, .cpy 30 (rI 2 (cpy (List.replicate ((IntKind.i64.wrap t5_2.2)).toNat (0 : Int)) a0)) (min a0.length (List.replicate ((IntKind.i64.wrap t5_2.2)).toNat (0 : Int)).length))] [7, 8] [30] ⟨[(7, .own 30), (8, .p (i6 ((((min a0.length (List.replicate ((IntKind.i64.wrap t5_2.2)).toNat (0 : Int)).length : Nat) : Int)))))], [(30, rI 2 (cpy (List.replicate ((IntKind.i64.wrap t5_2.2)).toNat (0 : Int)) a0))], L0, []⟩ (And.intro (Cp (eI .i64) 30 2 (List.replicate ((IntKind.i64.wrap t5_2.2)).toNat (0 : Int)) a0) (trivial)) ?_
      refine WX.seq ?_
      obtain ⟨J11, eJ11, h⟩ := jn_some h
      try dsimp only at h
      refine WC.join (α := List Int) (fun v11 => ⟨[(7, .own 30)], [(30, rI 2 v11)], L0, []⟩) (fun v11 => J11 v11 = some r) ?_ (fun hJ11 => ?_)
      · rintro y11_1 h
        rw [eJ11] at h
        try dsimp only at h
        refine WC.rg hn [] [4] [30] ⟨[(4, .own 30)], [(30, rI 2 y11_1)], L0, []⟩ trivial ?_
        refine WX.ret ?_
        exact WC.outO (by rw [← Option.some.inj h]; kernel_rfl)
      · replace hJ11 := fun y11_1 => hJ11 y11_1
        refine WX.block ?_
        refine WC.loop (V := List Int × Int) (slices_Repeat_int64_int64_l0 J11) r (fun v20 => ⟨[(7, .own 30), (8, .p (i6 (v20.2)))], [(30, rI 2 v20.1)], L0, []⟩) _ (cpy (List.replicate ((IntKind.i64.wrap t5_2.2)).toNat (0 : Int)) a0, ((min a0.length (List.replicate ((IntKind.i64.wrap t5_2.2)).toNat (0 : Int)).length : Nat) : Int)) h (fun _ => rfl) [7, 8] [30] (by kernel_rfl) ?_
        clear h; rintro k ⟨x20_1_1, x20_1_2⟩ h K20 hnext20 hexit20
        rw [slices_Repeat_int64_int64_l0] at h
        refine WX.seq ?_
        refine WC.rg hn [] [7, 8, 37] [30] ⟨[(7, .own 30), (8, .p (i6 (x20_1_2))), (37, .p (bo (((decide (x20_1_2 < (x20_1_1.length : Int)))))))], [(30, rI 2 x20_1_1)], L0, []⟩ trivial ?_
        rcases if_or h with ⟨c28, h⟩ | ⟨c28, h⟩
        · refine WC.condT c28 (by kernel_rfl) ?_
          refine WX.skip ?_
          refine WX.block ?_
          obtain ⟨c29_1, h⟩ := if_some h
          obtain ⟨c29_2, h⟩ := if_some h
          obtain ⟨c29_3, h⟩ := if_some h
          have q29_3 := SlO (eI .i64) 30 x20_1_1 x20_1_2 ((x20_1_1.length : Int)) c29_1
          have q29_6 := SlO (eI .i64) 30 x20_1_1 0 x20_1_2 c29_2
          have q29_7 := CpSS (eI .i64) 30 2 x20_1_1 x20_1_2 ((x20_1_1.length : Int)) 0 x20_1_2 c29_1 c29_2 c29_3
          refine WC.exp hn (by kernel_rfl) [(3, .val (.sub 30 ((x20_1_2 : Int).toNat * 1) (((x20_1_1.length : Int) : Int) - (x20_1_2 : Int)).toNat)), (6, .val (.sub 30 ((0 : Int).toNat * 1) ((x20_1_2 : Int) - (0 : Int)).toNat)), (7, .cpy 30 (rI 2 (cpyAt x20_1_1 x20_1_2 ((x20_1_1.length : Int)) (sub_ x20_1_1 0 x20_1_2))) (min ((x20_1_2 : Int) - (0 : Int)).toNat (((x20_1_1.length : Int) : Int) - (x20_1_2 : Int)).toNat))] [7, 8] [30] ⟨[(7, .own 30), (8, .p (i6 (((IntKind.i64.wrap (x20_1_2 + ((min ((x20_1_2 : Int) - (0 : Int)).toNat (((x20_1_1.length : Int) : Int) - (x20_1_2 : Int)).toNat : Nat) : Int)))))))], [(30, rI 2 (cpyAt x20_1_1 x20_1_2 ((x20_1_1.length : Int)) (sub_ x20_1_1 0 x20_1_2)))], L0, []⟩ [0, 1, 2, 3, 4, 5, 6, 7, 14, 15, 16, 17, 18, 19, 20, 21, 22, 23, 30, 31, 32, 33, 34, 35, 36, 37, 38, 39, 46, 47, 48, 49, 50, 51, 52, 53, 54, 55, 62, 63, 112, 113, 114, 115, 116, 117, 118, 119, 126, 127, 254, 255, 511, 1023] 1023 (by kernel_rfl) (by kernel_rfl) (by kernel_rfl) (And.intro q29_3 (And.intro q29_3 (And.intro q29_3 (And.intro q29_3 (And.intro q29_3 (And.intro q29_3 (And.intro q29_6 (And.intro q29_6 (And.intro q29_6 (And.intro q29_6 (And.intro q29_6 (And.intro q29_6 (And.intro q29_3 (And.intro q29_6 (And.intro q29_3 (And.intro q29_6 (And.intro q29_6 (And.intro q29_6 (And.intro q29_3 (And.intro q29_3 (And.intro q29_7 (And.intro q29_7 (trivial))))))))))))))))))))))) (by kernel_rfl) (by kernel_rfl) ?_
          refine WX.popBlk ?_
          exact WC.next [7, 8] [30] (by kernel_rfl) (hnext20 (cpyAt x20_1_1 x20_1_2 ((x20_1_1.length : Int)) (sub_ x20_1_1 0 x20_1_2), (IntKind.i64.wrap (x20_1_2 + ((min ((x20_1_2 : Int) - (0 : Int)).toNat (((x20_1_1.length : Int) : Int) - (x20_1_2 : Int)).toNat : Nat) : Int)))) h)
        · refine WC.condF c28 (by kernel_rfl) ?_
          refine WX.exit ?_
          refine WX.popCodeExit ?_
          refine WC.exit_nil (hexit20 _ _ (by simp) ?_)
          refine WX.popBlkHit ?_
          exact WC.keep [7] [30] (by kernel_rfl) (hJ11 x20_1_1 h)
    · skip
      rcases if_or h with ⟨c30, h⟩ | ⟨c30, h⟩
      · refine WC.condT c30 (by kernel_rfl) ?_
        cases h
      · refine WC.condF c30 (by kernel_rfl) ?_
        refine WX.skip ?_
        exact WC.keep [0, 6] [] (by kernel_rfl) (hJ7 () h)
  · skip
    rcases if_or h with ⟨c31, h⟩ | ⟨c31, h⟩
    · refine WC.condT c31 (by kernel_rfl) ?_
      cases h
    · refine WC.condF c31 (by kernel_rfl) ?_
      refine WX.skip ?_
      exact WC.keep [0, 1] [] (by kernel_rfl) (hJ3 () h)
theorem slices_Repeat_int64_int64_okP {k : Nat} {a0 : (List Int)} {a1 : Int} {r : (List Int)} (h : slices_Repeat_int64_int64 k a0 a1 = some r) : Ans Tryd.prog 57 [sI a0, i6 (a1)] (sI r) := AnsO.ans (args := [sI a0, i6 (a1)]) (slices_Repeat_int64_int64_ok h) (by kernel_rfl)
def starts_None (k : Nat) (a0 : api_Nfa) : Option ((List Int)) :=
  (starts_may k a0).bind fun t2_2 => (slices_Repeat_int64_int64 k ([(-1)]) ((t2_2.Classes.length : Int))).bind fun t2_4 => some t2_4
theorem starts_None_ok {k : Nat} {a0 : api_Nfa} {r : (List Int)} (h : starts_None k a0 = some r) : AnsO Tryd.prog 21 [] [.p (pP2 a0)] [(8, rI 2 r)] (.own 8) := by
  refine W_fnO [8] Tryd.func21 rfl (by kernel_rfl) (by kernel_rfl) (by kernel_rfl) (by kernel_rfl) ?_
  intro X hro hn
  unfold starts_None at h
  refine WC.rg hn [] [1] [1] ⟨[(1, .ptr 1 0)], [(1, .box 28 (vV2 a0))], L0, []⟩ trivial ?_
  refine WX.seq ?_
  obtain ⟨t2_2, h2_1, h⟩ := bind_some h
  obtain ⟨t2_4, h2_3, h⟩ := bind_some h
  refine WC.r1 hn [(2, .resP (pP2 t2_2)), (5, .co [] [] [3] [(8, rI 2 t2_4)] (.own 8))] [2] [8] ⟨[(2, .own 8)], [(8, rI 2 t2_4)], L0, []⟩ (And.intro ((starts_may_ok h2_1)) (And.intro (And.intro ((slices_Repeat_int64_int64_ok h2_3).ren 30 8 (by kernel_rfl)) (And.intro (rfl : (.own 8 : AV).flat = true) (And.intro (flats_encL (eI .i64) (fun _ => rfl) t2_4) (trivial)))) (trivial))) ?_
  refine WX.ret ?_
  exact WC.outO (by rw [← Option.some.inj h]; kernel_rfl)
theorem starts_None_okP {k : Nat} {a0 : api_Nfa} {r : (List Int)} (h : starts_None k a0 = some r) : Ans Tryd.prog 21 [pP2 a0] (sI r) := AnsO.ans (args := [pP2 a0]) (starts_None_ok h) (by kernel_rfl)
def starts_Check_1 (a0 : Int) : Option (Bool) :=
  some ((((decide (a0 < (-1)))) || ((decide (a0 > 4611686018427387904)))))
theorem starts_Check_1_ok {a0 : Int} {r : Bool} (h : starts_Check_1 a0 = some r) : Ans Tryd.prog 56 [i6 (a0)] (bo (r)) := by
  refine W_fn Tryd.func56 rfl (by kernel_rfl) (by kernel_rfl) ?_
  intro X hro hn
  unfold starts_Check_1 at h
  refine WC.rg hn [] [0] [] ⟨[(0, .p (i6 (a0)))], [], L0, []⟩ trivial ?_
  refine WX.seq ?_
  refine WC.via (α := Bool) (fun v2 => ⟨[(2, .p (bo (v2)))], [], L0, []⟩) ((((decide (a0 < (-1)))) || ((decide (a0 > 4611686018427387904))))) (fun hk => ?_) ?_
  · rcases Bool.eq_false_or_eq_true ((decide (a0 < (-1)))) with b2_2 | b2_2
    · exact WC.reg hn [(2, .val (.p (bo (true))))] [2] [] ⟨[(2, .p (bo (true)))], [], L0, []⟩ (And.intro (Bl b2_2) (trivial)) (by kernel_rfl) (hk true (by first | (rw [b2_2]; rfl) | simp [b2_2]))
    · exact WC.reg hn [(2, .val (.p (bo (false))))] [2] [] ⟨[(2, .p (bo (((decide (a0 > 4611686018427387904))))))], [], L0, []⟩ (And.intro (Bl b2_2) (trivial)) (by kernel_rfl) (hk ((decide (a0 > 4611686018427387904))) (by first | (rw [b2_2]; rfl) | simp [b2_2]))
  refine WX.ret ?_
  exact WC.outP (by rw [← Option.some.inj h]; kernel_rfl)
def slices_IndexFunc_int64_int64_v1_l0 (a0 : (List Int)) (J3 : Unit → Option (Int)) : Nat → Int → Option (Int)
  | 0, _ => none
  | k + 1, x20_1_1 => (if (decide (x20_1_1 < (a0.length : Int))) = true then (at_ a0 x20_1_1).bind fun t38_2 => (starts_Check_1 t38_2).bind fun t38_4 => (if t38_4 = true then some x20_1_1 else slices_IndexFunc_int64_int64_v1_l0 a0 J3 k ((IntKind.i64.wrap (x20_1_1 + 1)))) else J3 ())
def slices_IndexFunc_int64_int64_v1 (k : Nat) (a0 : (List Int)) (a1 : (Unit)) : Option (Int) :=
  jn (fun (v3 : Unit) => some ((-1))) fun J3 => slices_IndexFunc_int64_int64_v1_l0 a0 J3 k 0
theorem slices_IndexFunc_int64_int64_v1_ok {k : Nat} {a0 : (List Int)} {a1 : (Unit)} {r : Int} (h : slices_IndexFunc_int64_int64_v1 k a0 a1 = some r) : Ans Tryd.prog 91 [sI a0, .fn 56 []] (i6 (r)) := by
  refine W_fn Tryd.func91 rfl (by kernel_rfl) (by kernel_rfl) ?_
  intro X hro hn
  unfold slices_IndexFunc_int64_int64_v1 at h
  refine WC.rg hn [] [0, 1] [] ⟨[(0, .p (sI a0)), (1, .p (.fn 56 []))], [], L0, []⟩ trivial ?_
  refine WX.seq ?_
  refine WC.rg hn [] [0, 1, 7, 8] [] ⟨[(0, .p (sI a0)), (1, .p (.fn 56 [])), (7, .p (i6 (((a0.length : Int))))), (8, .p (i6 (0)))], [], L0, []⟩ trivial ?_
  obtain ⟨J3, eJ3, h⟩ := jn_some h
  try dsimp only at h
  refine WC.join (α := Unit) (fun v3 => ⟨[], [], L0, []⟩) (fun v3 => J3 v3 = some r) ?_ (fun hJ3 => ?_)
  · rintro _ h
    rw [eJ3] at h
    try dsimp only at h
    refine WC.rg hn [] [4] [] ⟨[(4, .p (i6 (((-1)))))], [], L0, []⟩ trivial ?_
    refine WX.ret ?_
    exact WC.outP (by rw [← Option.some.inj h]; kernel_rfl)
  · skip
    refine WX.block ?_
    refine WC.loop (V := Int) (slices_IndexFunc_int64_int64_v1_l0 a0 J3) r (fun v20 => ⟨[(0, .p (sI a0)), (1, .p (.fn 56 [])), (7, .p (i6 (((a0.length : Int))))), (8, .p (i6 (v20)))], [], L0, []⟩) _ 0 h (fun _ => rfl) [0, 1, 7, 8] [] (by kernel_rfl) ?_
    clear h; rintro k x20_1_1 h K20 hnext20 hexit20
    rw [slices_IndexFunc_int64_int64_v1_l0] at h
    refine WC.rg hn [] [0, 1, 7, 8, 9] [] ⟨[(0, .p (sI a0)), (1, .p (.fn 56 [])), (7, .p (i6 (((a0.length : Int))))), (8, .p (i6 (x20_1_1))), (9, .p (bo (((decide (x20_1_1 < (a0.length : Int)))))))], [], L0, []⟩ trivial ?_
    refine WX.seq ?_
    rcases if_or h with ⟨c36, h⟩ | ⟨c36, h⟩
    · refine WC.condT c36 (by kernel_rfl) ?_
      refine WX.skip ?_
      refine WX.seq ?_
      refine WX.block ?_
      refine WC.rg hn [] [0, 1, 5, 7, 8] [] ⟨[(0, .p (sI a0)), (1, .p (.fn 56 [])), (5, .p (i6 (x20_1_1))), (7, .p (i6 (((a0.length : Int))))), (8, .p (i6 (x20_1_1)))], [], L0, []⟩ trivial ?_
      refine WX.seq ?_
      obtain ⟨t38_2, h38_1, h⟩ := bind_some h
      obtain ⟨t38_4, h38_3, h⟩ := bind_some h
      refine WC.r1 hn [(3, .val (.p (.rop ((eI .i64).cells t38_2 ++ encL (eI .i64) (a0.drop (x20_1_1.toNat + 1)))))), (5, .resP (bo (t38_4)))] [0, 1, 5, 7, 8, 16] [] ⟨[(0, .p (sI a0)), (1, .p (.fn 56 [])), (5, .p (i6 (x20_1_1))), (7, .p (i6 (((a0.length : Int))))), (8, .p (i6 (x20_1_1))), (16, .p (bo (t38_4)))], [], L0, []⟩ (And.intro (Ix (eI .i64) h38_1) (And.intro ((starts_Check_1_ok h38_3)) (trivial))) ?_
      rcases if_or h with ⟨c39, h⟩ | ⟨c39, h⟩
      · refine WC.condT c39 (by kernel_rfl) ?_
        refine WC.rg hn [] [4] [] ⟨[(4, .p (i6 (x20_1_1)))], [], L0, []⟩ trivial ?_
        refine WX.ret ?_
        refine WC.ret_all (hexit20 _ _ (by simp) ?_)
        exact WC.outP (by rw [← Option.some.inj h]; kernel_rfl)
      · refine WC.condF c39 (by kernel_rfl) ?_
        refine WX.skip ?_
        refine WX.popBlk ?_
        refine WC.r1 hn [] [0, 1, 7, 8] [] ⟨[(0, .p (sI a0)), (1, .p (.fn 56 [])), (7, .p (i6 (((a0.length : Int))))), (8, .p (i6 (((IntKind.i64.wrap (x20_1_1 + 1))))))], [], L0, []⟩ trivial ?_
        exact WC.next [0, 1, 7, 8] [] (by kernel_rfl) (hnext20 ((IntKind.i64.wrap (x20_1_1 + 1))) h)
    · refine WC.condF c36 (by kernel_rfl) ?_
      refine WX.exit ?_
      refine WX.popCodeExit ?_
      refine WC.exit_nil (hexit20 _ _ (by simp) ?_)
      refine WX.popBlkHit ?_
      exact WC.keep [] [] (by kernel_rfl) (hJ3 () h)
def slices_ContainsFunc_int64_int64_v1 (k : Nat) (a0 : (List Int)) (a1 : (Unit)) : Option (Bool) :=
  (slices_IndexFunc_int64_int64_v1 k a0 (())).bind fun t2_2 => some ((decide (t2_2 ≥ 0)))
theorem slices_ContainsFunc_int64_int64_v1_ok {k : Nat} {a0 : (List Int)} {a1 : (Unit)} {r : Bool} (h : slices_ContainsFunc_int64_int64_v1 k a0 a1 = some r) : Ans Tryd.prog 55 [sI a0, .fn 56 []] (bo (r)) := by
  refine W_fn Tryd.func55 rfl (by kernel_rfl) (by kernel_rfl) ?_
  intro X hro hn
  unfold slices_ContainsFunc_int64_int64_v1 at h
  refine WC.rg hn [] [0, 1] [] ⟨[(0, .p (sI a0)), (1, .p (.fn 56 []))], [], L0, []⟩ trivial ?_
  refine WX.seq ?_
  obtain ⟨t2_2, h2_1, h⟩ := bind_some h
  refine WC.r1 hn [(2, .resP (i6 (t2_2)))] [4] [] ⟨[(4, .p (bo (((decide (t2_2 ≥ 0))))))], [], L0, []⟩ (And.intro ((slices_IndexFunc_int64_int64_v1_ok h2_1)) (trivial)) ?_
  refine WX.ret ?_
  exact WC.outP (by rw [← Option.some.inj h]; kernel_rfl)
def starts_Check (k : Nat) (a0 : api_Nfa) (a1 : (List Int)) : Option (Int) :=
  (starts_may k a0).bind fun t2_2 => ((if ((a1.length : Int) != (t2_2.Classes.length : Int)) = true then some true else (slices_ContainsFunc_int64_int64_v1 k a1 (())).bind fun t2_4 => some t2_4) : Option (Bool)).bind fun v2 => (if v2 = true then some 1 else some 0)
theorem starts_Check_ok {k : Nat} {a0 : api_Nfa} {a1 : (List Int)} {r : Int} (h : starts_Check k a0 a1 = some r) : Ans Tryd.prog 19 [pP2 a0, sI a1] (i6 (r)) := by
  refine W_fn Tryd.func19 rfl (by kernel_rfl) (by kernel_rfl) ?_
  intro X hro hn
  unfold starts_Check at h
  refine WC.rg hn [] [1, 2] [2] ⟨[(1, .p (sI a1)), (2, .ptr 2 0)], [(2, .box 28 (vV2 a0))], L0, []⟩ trivial ?_
  refine WX.seq ?_
  refine WX.seq ?_
  obtain ⟨t2_2, h2_1, h⟩ := bind_some h
  obtain ⟨m2_1, g2, h⟩ := bind_some h
  refine WC.via (α := Bool) (fun v2 => ⟨[(15, .p (bo (v2)))], [], L0, []⟩) m2_1 (fun hk => ?_) ?_
  · rcases if_or g2 with ⟨b2_7, g2⟩ | ⟨b2_7, g2⟩
    · exact WC.reg hn [(3, .resP (pP2 t2_2)), (7, .val (.p (bo (true))))] [15] [] ⟨[(15, .p (bo (true)))], [], L0, []⟩ (And.intro ((starts_may_ok h2_1)) (And.intro (Bl b2_7) (trivial))) (by kernel_rfl) (hk true (Option.some.inj g2))
    · obtain ⟨t2_4, h2_3, g2⟩ := bind_some g2
      exact WC.reg hn [(3, .resP (pP2 t2_2)), (7, .val (.p (bo (false)))), (9, .resP (bo (t2_4)))] [15] [] ⟨[(15, .p (bo (t2_4)))], [], L0, []⟩ (And.intro ((starts_may_ok h2_1)) (And.intro (Bl b2_7) (And.intro ((slices_ContainsFunc_int64_int64_v1_ok h2_3)) (trivial)))) (by kernel_rfl) (hk t2_4 (Option.some.inj g2))
  rcases if_or h with ⟨c3, h⟩ | ⟨c3, h⟩
  · refine WC.condT c3 (by kernel_rfl) ?_
    refine WC.rg hn [] [4] [] ⟨[(4, .p (i6 (1)))], [], L0, []⟩ trivial ?_
    refine WX.ret ?_
    exact WC.outP (by rw [← Option.some.inj h]; kernel_rfl)
  · refine WC.condF c3 (by kernel_rfl) ?_
    refine WX.skip ?_
    refine WC.rg hn [] [4] [] ⟨[(4, .p (i6 (0)))], [], L0, []⟩ trivial ?_
    refine WX.ret ?_
    exact WC.outP (by rw [← Option.some.inj h]; kernel_rfl)
def starts_state (k : Nat) (a0 : api_Nfa) (a1 : (List Int)) : Option ((List Int)) :=
  (starts_Check k a0 a1).bind fun t2_2 => (if (t2_2 != 0) = true then (starts_None k a0).bind fun t4_2 => some t4_2 else some a1)
theorem starts_state_ok {k : Nat} {a0 : api_Nfa} {a1 : (List Int)} {r : (List Int)} (h : starts_state k a0 a1 = some r) : Ans Tryd.prog 47 [pP2 a0, sI a1] (sI r) := by
  refine W_fn Tryd.func47 rfl (by kernel_rfl) (by kernel_rfl) ?_
  intro X hro hn
  unfold starts_state at h
  refine WC.rg hn [] [1, 2] [2] ⟨[(1, .p (sI a1)), (2, .ptr 2 0)], [(2, .box 28 (vV2 a0))], L0, []⟩ trivial ?_
  refine WX.seq ?_
  refine WX.seq ?_
  obtain ⟨t2_2, h2_1, h⟩ := bind_some h
  refine WC.r1 hn [(2, .resP (i6 (t2_2)))] [1, 2, 8] [2] ⟨[(1, .p (sI a1)), (2, .ptr 2 0), (8, .p (bo (((t2_2 != 0)))))], [(2, .box 28 (vV2 a0))], L0, []⟩ (And.intro ((starts_Check_ok h2_1)) (trivial)) ?_
  rcases if_or h with ⟨c3, h⟩ | ⟨c3, h⟩
  · refine WC.condT c3 (by kernel_rfl) ?_
    refine WX.seq ?_
    obtain ⟨t4_2, h4_1, h⟩ := bind_some h
    refine WC.r1 hn [(1, .co [] [] [] [(10, rI 2 t4_2)] (.own 10))] [4] [10] ⟨[(4, .own 10)], [(10, rI 2 t4_2)], L0, []⟩ (And.intro (And.intro ((starts_None_ok h4_1).ren 8 10 (by kernel_rfl)) (trivial)) (trivial)) ?_
    refine WX.ret ?_
    exact WC.outP (by rw [← Option.some.inj h]; kernel_rfl)
  · refine WC.condF c3 (by kernel_rfl) ?_
    refine WX.skip ?_
    refine WC.rg hn [] [4] [] ⟨[(4, .p (sI a1))], [], L0, []⟩ trivial ?_
    refine WX.ret ?_
    exact WC.outP (by rw [← Option.some.inj h]; kernel_rfl)
def slices_Clone_uint64_uint64 (a0 : (List Int)) : Option ((List Int)) :=
  (if okApp 8 (([] : List Int).length + a0.length) then some (([] : List Int) ++ a0) else none)
theorem slices_Clone_uint64_uint64_ok {a0 : (List Int)} {r : (List Int)} (h : slices_Clone_uint64_uint64 a0 = some r) : AnsO Tryd.prog 107 [] [.p (sW a0)] [(7, rW 73 r)] (.own 7) := by
  refine W_fnO [7] Tryd.func107 rfl (by kernel_rfl) (by kernel_rfl) (by kernel_rfl) (by kernel_rfl) ?_
  intro X hro hn
  unfold slices_Clone_uint64_uint64 at h
  refine WC.rg hn [] [0] [] ⟨[(0, .p (sW a0))], [], L0, []⟩ trivial ?_
  refine WX.seq ?_
  refine WX.seq ?_
  refine WC.nilCase (E := (eI .u64)) (l := a0) 0 (by kernel_rfl) (fun hnil => ?_) ?_
  · have h1 : (some (([] : List Int))) = some r := by rw [hnil] at h; clear hnil; simp at h ⊢; first | exact h.2 | exact h | simp_all
    replace h := h1
    refine WC.keep [0] [] (st' := ⟨[(0, .p (.sl .isnil a0.length (encL (eI .u64) a0)))], [], L0, []⟩) (by kernel_rfl) ?_
    refine WC.r1 hn [] [0, 4] [] ⟨[(0, .p (.sl .isnil a0.length (encL (eI .u64) a0))), (4, .p (bo (true)))], [], L0, []⟩ trivial ?_
    refine WC.tag [0] [] [0, 4] [] (st' := ⟨[(0, .p (sW a0)), (4, .p (bo (true)))], [], L0, []⟩) (by kernel_rfl) ?_
    refine WC.condT rfl (by kernel_rfl) ?_
    refine WC.rg hn [] [2] [] ⟨[(2, .p (.sl .nil 0 []))], [], L0, []⟩ trivial ?_
    refine WX.ret ?_
    refine WC.nil hn [2] none 7 73 1 (by kernel_rfl) [2] [7] (st' := ⟨[(2, .own 7)], [(7, rW 73 (([] : List Int)))], L0, []⟩) (by kernel_rfl) ?_
    exact WC.outO (by rw [← Option.some.inj h]; kernel_rfl)
  · refine WC.keep [0] [] (st' := ⟨[(0, .p (.sl .nn a0.length (encL (eI .u64) a0)))], [], L0, []⟩) (by kernel_rfl) ?_
    refine WC.r1 hn [] [0, 4] [] ⟨[(0, .p (.sl .nn a0.length (encL (eI .u64) a0))), (4, .p (bo (false)))], [], L0, []⟩ trivial ?_
    refine WC.tag [0] [] [0, 4] [] (st' := ⟨[(0, .p (sW a0)), (4, .p (bo (false)))], [], L0, []⟩) (by kernel_rfl) ?_
    refine WC.condF rfl (by kernel_rfl) ?_
    refine WX.skip ?_
    refine WX.seq ?_
    obtain ⟨c6_1, h⟩ := if_some h
    refine WC.r1 hn [(2, .app (some 5) (rW 73 (([] : List Int) ++ a0)))] [2] [7] ⟨[(2, .own 7)], [(7, rW 73 (([] : List Int) ++ a0))], L0, []⟩ (And.intro (ApS (eI .u64) (some 5) 73 8 ([] : List Int) a0 c6_1) (trivial)) ?_
    refine WX.ret ?_
    exact WC.outO (by rw [← Option.some.inj h]; kernel_rfl)
theorem slices_Clone_uint64_uint64_okP {a0 : (List Int)} {r : (List Int)} (h : slices_Clone_uint64_uint64 a0 = some r) : Ans Tryd.prog 107 [sW a0] (sW r) := AnsO.ans (args := [sW a0]) (slices_Clone_uint64_uint64_ok h) (by kernel_rfl)
def bits_own (a0 : api_Bits) : Option (api_Bits) :=
  (bits_Check a0).bind fun t2_2 => (if (t2_2 != 0) = true then some ((api_Bits.mk 0 (([] : List Int)))) else (slices_Clone_uint64_uint64 a0.Words).bind fun t5_2 => some ((api_Bits.mk a0.N t5_2)))
theorem bits_own_ok {a0 : api_Bits} {r : api_Bits} (h : bits_own a0 = some r) : AnsO Tryd.prog 86 [] [.p (pP5 a0)] [(9, rW 73 r.Words)] (.agg [.p (i6 (r.N)), .own 9]) := by
  refine W_fnO [9] Tryd.func86 rfl (by kernel_rfl) (by kernel_rfl) (by kernel_rfl) (by kernel_rfl) ?_
  intro X hro hn
  unfold bits_own at h
  refine WC.rg hn [] [1, 2] [1, 2] ⟨[(1, .ptr 1 0), (2, .ptr 2 0)], [(1, .box 25 (vV5 a0)), (2, .box 25 [.p (i6 (0)), .p (.sl .nil 0 [])])], L0, []⟩ trivial ?_
  refine WX.seq ?_
  refine WX.seq ?_
  obtain ⟨t2_2, h2_1, h⟩ := bind_some h
  refine WC.r1 hn [(1, .resP (i6 (t2_2)))] [1, 2, 5] [1, 2] ⟨[(1, .ptr 1 0), (2, .ptr 2 0), (5, .p (bo (((t2_2 != 0)))))], [(1, .box 25 (vV5 a0)), (2, .box 25 [.p (i6 (0)), .p (.sl .nil 0 [])])], L0, []⟩ (And.intro ((bits_Check_ok h2_1)) (trivial)) ?_
  rcases if_or h with ⟨c3, h⟩ | ⟨c3, h⟩
  · refine WC.condT c3 (by kernel_rfl) ?_
    refine WC.rg hn [] [2] [2] ⟨[(2, .ptr 2 0)], [(2, .box 25 [.p (i6 (0)), .p (.sl .nil 0 [])])], L0, []⟩ trivial ?_
    refine WX.ret ?_
    refine WC.nil hn [] (some (2, 1)) 9 73 1 (by kernel_rfl) [2] [2, 9] (st' := ⟨[(2, .ptr 2 0)], [(2, .box 25 [.p (i6 (0)), .own 9]), (9, rW 73 (([] : List Int)))], L0, []⟩) (by kernel_rfl) ?_
    exact WC.outO (by rw [← Option.some.inj h]; kernel_rfl)
  · refine WC.condF c3 (by kernel_rfl) ?_
    refine WX.skip ?_
    refine WX.seq ?_
    obtain ⟨t5_2, h5_1, h⟩ := bind_some h
    refine WC.r1 hn [(2, .co [] [] [] [(9, rW 73 t5_2)] (.own 9))] [1, 2] [1, 2, 9] ⟨[(1, .ptr 1 0), (2, .ptr 2 0)], [(1, .box 25 [.p (i6 (a0.N)), .own 9]), (2, .box 25 [.p (i6 (0)), .p (.sl .nil 0 [])]), (9, rW 73 t5_2)], L0, []⟩ (And.intro (And.intro ((slices_Clone_uint64_uint64_ok h5_1).ren 7 9 (by kernel_rfl)) (trivial)) (trivial)) ?_
    refine WC.rg hn [] [2] [2, 9] ⟨[(2, .ptr 2 0)], [(2, .box 25 [.p (i6 (a0.N)), .own 9]), (9, rW 73 t5_2)], L0, []⟩ trivial ?_
    refine WX.ret ?_
    exact WC.outO (by rw [← Option.some.inj h]; kernel_rfl)
theorem bits_own_okP {a0 : api_Bits} {r : api_Bits} (h : bits_own a0 = some r) : Ans Tryd.prog 86 [pP5 a0] (pP5 r) := AnsO.ans (args := [pP5 a0]) (bits_own_ok h) (by kernel_rfl)
def bits_TrailingZeros64 (a0 : Int) : Option (Int) :=
  (if (a0 == 0) = true then some 64 else (at_ tab0 ((((IntKind.u64.wrap ((bits .and .u64 a0 ((IntKind.u64.wrap (0 - a0)))) * 285870213051353865))).fdiv (2 ^ 58)))).bind fun t5_2 => some ((IntKind.i64.wrap t5_2)))
theorem bits_TrailingZeros64_ok {a0 : Int} {r : Int} (h : bits_TrailingZeros64 a0 = some r) : Ans Tryd.prog 108 [u6 (a0)] (i6 (r)) := by
  refine W_fn Tryd.func108 rfl (by kernel_rfl) (by kernel_rfl) ?_
  intro X hro hn
  unfold bits_TrailingZeros64 at h
  refine WC.rg hn [] [0] [] ⟨[(0, .p (u6 (a0)))], [], L0, []⟩ trivial ?_
  refine WX.seq ?_
  refine WC.rg hn [] [0, 4] [] ⟨[(0, .p (u6 (a0))), (4, .p (bo (((a0 == 0)))))], [], L0, []⟩ trivial ?_
  rcases if_or h with ⟨c3, h⟩ | ⟨c3, h⟩
  · refine WC.condT c3 (by kernel_rfl) ?_
    refine WC.rg hn [] [2] [] ⟨[(2, .p (i6 (64)))], [], L0, []⟩ trivial ?_
    refine WX.ret ?_
    exact WC.outP (by rw [← Option.some.inj h]; kernel_rfl)
  · refine WC.condF c3 (by kernel_rfl) ?_
    refine WX.skip ?_
    refine WX.seq ?_
    obtain ⟨t5_2, h5_1, h⟩ := bind_some h
    refine WC.r1 hn [(6, .val (.p (.rop ((eI .u8).cells t5_2 ++ encL (eI .u8) (tab0.drop (((((IntKind.u64.wrap ((bits .and .u64 a0 ((IntKind.u64.wrap (0 - a0)))) * 285870213051353865))).fdiv (2 ^ 58))).toNat + 1))))))] [2] [] ⟨[(2, .p (i6 (((IntKind.i64.wrap t5_2)))))], [], L0, []⟩ (And.intro (IxG (eI .u8) 64 rfl h5_1) (trivial)) ?_
    refine WX.ret ?_
    exact WC.outP (by rw [← Option.some.inj h]; kernel_rfl)
def bits_First_l0 (a0 : api_Bits) (a1 : Int) (J7 : Unit → Option (Int × Bool)) : Nat → Int → Option (Int × Bool)
  | 0, _ => none
  | k + 1, x32_1_1 => (if (decide (x32_1_1 < (a0.Words.length : Int))) = true then (at_ a0.Words x32_1_1).bind fun t57_2 => jn (fun (v59 : Int) => (if (v59 != 0) = true then (bits_TrailingZeros64 v59).bind fun t64_2 => some ((IntKind.i64.wrap ((IntKind.i64.wrap (64 * x32_1_1)) + t64_2)), true) else bits_First_l0 a0 a1 J7 k ((IntKind.i64.wrap (x32_1_1 + 1))))) fun J59 => (if (x32_1_1 == (IntKind.i64.wrap (((maxI a1 0)).tdiv 64))) = true then (if ¬ (((maxI a1 0)).tmod 64) < 0 then J59 ((IntKind.u64.wrap ((t57_2.fdiv (2 ^ (min ((((maxI a1 0)).tmod 64)).toNat IntKind.u64.bits))) * 2 ^ (min ((((maxI a1 0)).tmod 64)).toNat IntKind.u64.bits)))) else none) else J59 t57_2) else J7 ())
def bits_First (k : Nat) (a0 : api_Bits) (a1 : Int) : Option (Int × Bool) :=
  (bits_Check a0).bind fun t2_2 => (if (t2_2 != 0) = true then some (0, false) else jn (fun (v7 : Unit) => some (0, false)) fun J7 => bits_First_l0 a0 a1 J7 k ((IntKind.i64.wrap (((maxI a1 0)).tdiv 64))))
theorem bits_First_ok {k : Nat} {a0 : api_Bits} {a1 : Int} {r : Int × Bool} (h : bits_First k a0 a1 = some r) : Ans Tryd.prog 88 [pP5 a0, i6 (a1)] (.tup [i6 (r.1), bo (r.2)]) := by
  refine W_fn Tryd.func88 rfl (by kernel_rfl) (by kernel_rfl) ?_
  intro X hro hn
  unfold bits_First at h
  refine WC.rg hn [] [1, 2] [2] ⟨[(1, .p (i6 (a1))), (2, .ptr 2 0)], [(2, .box 25 (vV5 a0))], L0, []⟩ trivial ?_
  refine WX.seq ?_
  refine WX.seq ?_
  obtain ⟨t2_2, h2_1, h⟩ := bind_some h
  refine WC.r1 hn [(1, .resP (i6 (t2_2)))] [1, 2, 10] [2] ⟨[(1, .p (i6 (a1))), (2, .ptr 2 0), (10, .p (bo (((t2_2 != 0)))))], [(2, .box 25 (vV5 a0))], L0, []⟩ (And.intro ((bits_Check_ok h2_1)) (trivial)) ?_
  rcases if_or h with ⟨c3, h⟩ | ⟨c3, h⟩
  · refine WC.condT c3 (by kernel_rfl) ?_
    refine WC.rg hn [] [4, 5] [] ⟨[(4, .p (i6 (0))), (5, .p (bo (false)))], [], L0, []⟩ trivial ?_
    refine WX.ret ?_
    exact WC.outP (by rw [← Option.some.inj h]; kernel_rfl)
  · refine WC.condF c3 (by kernel_rfl) ?_
    refine WX.skip ?_
    refine WC.rg hn [] [1, 2] [2] ⟨[(1, .p (i6 (((maxI a1 0))))), (2, .ptr 2 0)], [(2, .box 25 (vV5 a0))], L0, []⟩ trivial ?_
    refine WX.seq ?_
    refine WC.rg hn [] [1, 2, 6] [2] ⟨[(1, .p (i6 (((maxI a1 0))))), (2, .ptr 2 0), (6, .p (i6 (((IntKind.i64.wrap (((maxI a1 0)).tdiv 64))))))], [(2, .box 25 (vV5 a0))], L0, []⟩ trivial ?_
    obtain ⟨J7, eJ7, h⟩ := jn_some h
    try dsimp only at h
    refine WC.join (α := Unit) (fun v7 => ⟨[], [], L0, []⟩) (fun v7 => J7 v7 = some r) ?_ (fun hJ7 => ?_)
    · rintro _ h
      rw [eJ7] at h
      try dsimp only at h
      refine WC.rg hn [] [4, 5] [] ⟨[(4, .p (i6 (0))), (5, .p (bo (false)))], [], L0, []⟩ trivial ?_
      refine WX.ret ?_
      exact WC.outP (by rw [← Option.some.inj h]; kernel_rfl)
    · skip
      refine WX.block ?_
      refine WC.loop (V := Int) (bits_First_l0 a0 a1 J7) r (fun v32 => ⟨[(1, .p (i6 (((maxI a1 0))))), (2, .ptr 2 0), (6, .p (i6 (v32)))], [(2, .box 25 (vV5 a0))], L0, []⟩) _ ((IntKind.i64.wrap (((maxI a1 0)).tdiv 64))) h (fun _ => rfl) [1, 2, 6] [2] (by kernel_rfl) ?_
      clear h; rintro k x32_1_1 h K32 hnext32 hexit32
      rw [bits_First_l0] at h
      refine WX.seq ?_
      refine WC.rg hn [] [1, 2, 6, 19] [2] ⟨[(1, .p (i6 (((maxI a1 0))))), (2, .ptr 2 0), (6, .p (i6 (x32_1_1))), (19, .p (bo (((decide (x32_1_1 < (a0.Words.length : Int)))))))], [(2, .box 25 (vV5 a0))], L0, []⟩ trivial ?_
      rcases if_or h with ⟨c56, h⟩ | ⟨c56, h⟩
      · refine WC.condT c56 (by kernel_rfl) ?_
        refine WX.skip ?_
        refine WX.seq ?_
        refine WX.block ?_
        refine WX.seq ?_
        obtain ⟨t57_2, h57_1, h⟩ := bind_some h
        refine WC.r1 hn [(3, .val (.p (.rop ((eI .u64).cells t57_2 ++ encL (eI .u64) (a0.Words.drop (x32_1_1.toNat + 1))))))] [1, 2, 6, 7] [2] ⟨[(1, .p (i6 (((maxI a1 0))))), (2, .ptr 2 0), (6, .p (i6 (x32_1_1))), (7, .p (u6 (t57_2)))], [(2, .box 25 (vV5 a0))], L0, []⟩ (And.intro (Ix (eI .u64) h57_1) (trivial)) ?_
        refine WX.seq ?_
        refine WC.rg hn [] [1, 2, 6, 7, 30] [2] ⟨[(1, .p (i6 (((maxI a1 0))))), (2, .ptr 2 0), (6, .p (i6 (x32_1_1))), (7, .p (u6 (t57_2))), (30, .p (bo (((x32_1_1 == (IntKind.i64.wrap (((maxI a1 0)).tdiv 64)))))))], [(2, .box 25 (vV5 a0))], L0, []⟩ trivial ?_
        obtain ⟨J59, eJ59, h⟩ := jn_some h
        try dsimp only at h
        refine WC.join (α := Int) (fun v59 => ⟨[(1, .p (i6 (((maxI a1 0))))), (2, .ptr 2 0), (6, .p (i6 (x32_1_1))), (7, .p (u6 (v59)))], [(2, .box 25 (vV5 a0))], L0, []⟩) (fun v59 => J59 v59 = some r) ?_ (fun hJ59 => ?_)
        · rintro y59_1 h
          rw [eJ59] at h
          try dsimp only at h
          refine WC.rg hn [] [1, 2, 6, 7, 39] [2] ⟨[(1, .p (i6 (((maxI a1 0))))), (2, .ptr 2 0), (6, .p (i6 (x32_1_1))), (7, .p (u6 (y59_1))), (39, .p (bo (((y59_1 != 0)))))], [(2, .box 25 (vV5 a0))], L0, []⟩ trivial ?_
          rcases if_or h with ⟨c63, h⟩ | ⟨c63, h⟩
          · refine WC.condT c63 (by kernel_rfl) ?_
            refine WX.seq ?_
            obtain ⟨t64_2, h64_1, h⟩ := bind_some h
            refine WC.r1 hn [(3, .resP (i6 (t64_2)))] [4, 5] [] ⟨[(4, .p (i6 (((IntKind.i64.wrap ((IntKind.i64.wrap (64 * x32_1_1)) + t64_2)))))), (5, .p (bo (true)))], [], L0, []⟩ (And.intro ((bits_TrailingZeros64_ok h64_1)) (trivial)) ?_
            refine WX.ret ?_
            refine WC.ret_all (hexit32 _ _ (by simp) ?_)
            exact WC.outP (by rw [← Option.some.inj h]; kernel_rfl)
          · refine WC.condF c63 (by kernel_rfl) ?_
            refine WX.skip ?_
            refine WX.popBlk ?_
            refine WC.r1 hn [] [1, 2, 6] [2] ⟨[(1, .p (i6 (((maxI a1 0))))), (2, .ptr 2 0), (6, .p (i6 (((IntKind.i64.wrap (x32_1_1 + 1))))))], [(2, .box 25 (vV5 a0))], L0, []⟩ trivial ?_
            exact WC.next [1, 2, 6] [2] (by kernel_rfl) (hnext32 ((IntKind.i64.wrap (x32_1_1 + 1))) h)
        · replace hJ59 := fun y59_1 => hJ59 y59_1
          rcases if_or h with ⟨c66, h⟩ | ⟨c66, h⟩
          · refine WC.condT c66 (by kernel_rfl) ?_
            obtain ⟨c67_1, h⟩ := if_some h
            refine WC.r1 hn [(3, .val (.p (u6 ((t57_2.fdiv (2 ^ (min ((((maxI a1 0)).tmod 64)).toNat IntKind.u64.bits))))))), (6, .val (.p (u6 ((IntKind.u64.wrap ((t57_2.fdiv (2 ^ (min ((((maxI a1 0)).tmod 64)).toNat IntKind.u64.bits))) * 2 ^ (min ((((maxI a1 0)).tmod 64)).toNat IntKind.u64.bits)))))))] [1, 2, 6, 7] [2] ⟨[(1, .p (i6 (((maxI a1 0))))), (2, .ptr 2 0), (6, .p (i6 (x32_1_1))), (7, .p (u6 (((IntKind.u64.wrap ((t57_2.fdiv (2 ^ (min ((((maxI a1 0)).tmod 64)).toNat IntKind.u64.bits))) * 2 ^ (min ((((maxI a1 0)).tmod 64)).toNat IntKind.u64.bits)))))))], [(2, .box 25 (vV5 a0))], L0, []⟩ (And.intro (Shr .u64 t57_2 ((((maxI a1 0)).tmod 64)) c67_1) (And.intro (Shl .u64 ((t57_2.fdiv (2 ^ (min ((((maxI a1 0)).tmod 64)).toNat IntKind.u64.bits)))) ((((maxI a1 0)).tmod 64)) c67_1) (trivial))) ?_
            exact WC.keep [1, 2, 6, 7] [2] (by kernel_rfl) (hJ59 ((IntKind.u64.wrap ((t57_2.fdiv (2 ^ (min ((((maxI a1 0)).tmod 64)).toNat IntKind.u64.bits))) * 2 ^ (min ((((maxI a1 0)).tmod 64)).toNat IntKind.u64.bits)))) h)
          · refine WC.condF c66 (by kernel_rfl) ?_
            refine WX.skip ?_
            exact WC.keep [1, 2, 6, 7] [2] (by kernel_rfl) (hJ59 t57_2 h)
      · refine WC.condF c56 (by kernel_rfl) ?_
        refine WX.exit ?_
        refine WX.popCodeExit ?_
        refine WC.exit_nil (hexit32 _ _ (by simp) ?_)
        refine WX.popBlkHit ?_
        exact WC.keep [] [] (by kernel_rfl) (hJ7 () h)
def bits_All (a0 : api_Bits) : Option ((api_Bits)) :=
  (bits_own a0).bind fun t2_2 => some t2_2
theorem bits_All_ok {a0 : api_Bits} {r : (api_Bits)} (h : bits_All a0 = some r) : Ans Tryd.prog 48 [pP5 a0] (.fn 87 [.rop ([i6 (r.N), sW r.Words])]) := by
  refine W_fn Tryd.func48 rfl (by kernel_rfl) (by kernel_rfl) ?_
  intro X hro hn
  unfold bits_All at h
  refine WC.rg hn [] [1] [1] ⟨[(1, .ptr 1 0)], [(1, .box 25 (vV5 a0))], L0, []⟩ trivial ?_
  refine WX.seq ?_
  obtain ⟨t2_2, h2_1, h⟩ := bind_some h
  refine WC.r1 hn [(1, .co [] [] [] [(4, rW 73 t2_2.Words)] (.agg [.p (i6 (t2_2.N)), .own 4]))] [1] [1, 4] ⟨[(1, .ptr 1 0)], [(1, .box 25 [.p (i6 (t2_2.N)), .own 4]), (4, rW 73 t2_2.Words)], L0, []⟩ (And.intro (And.intro ((bits_own_ok h2_1).ren 9 4 (by kernel_rfl)) (trivial)) (trivial)) ?_
  refine WC.rg hn [] [2] [1, 4] ⟨[(2, .fn 87 [.ptr 1 0])], [(1, .box 25 [.p (i6 (t2_2.N)), .own 4]), (4, rW 73 t2_2.Words)], L0, []⟩ trivial ?_
  refine WX.ret ?_
  exact WC.outP (by rw [← Option.some.inj h]; kernel_rfl)
def starts_lesser (a0 : Int) (a1 : Int) : Option (Int) :=
  (if (decide (a1 < 0)) = true then some a0 else (if (decide (a0 < 0)) = true then some a1 else some ((minI a0 a1))))
theorem starts_lesser_ok {a0 : Int} {a1 : Int} {r : Int} (h : starts_lesser a0 a1 = some r) : Ans Tryd.prog 49 [i6 (a0), i6 (a1)] (i6 (r)) := by
  refine W_fn Tryd.func49 rfl (by kernel_rfl) (by kernel_rfl) ?_
  intro X hro hn
  unfold starts_lesser at h
  refine WC.rg hn [] [0, 1] [] ⟨[(0, .p (i6 (a0))), (1, .p (i6 (a1)))], [], L0, []⟩ trivial ?_
  refine WX.seq ?_
  refine WX.block ?_
  refine WC.rg hn [] [0, 1, 5] [] ⟨[(0, .p (i6 (a0))), (1, .p (i6 (a1))), (5, .p (bo (((decide (a1 < 0))))))], [], L0, []⟩ trivial ?_
  rcases if_or h with ⟨c3, h⟩ | ⟨c3, h⟩
  · refine WC.condT c3 (by kernel_rfl) ?_
    refine WC.rg hn [] [4] [] ⟨[(4, .p (i6 (a0)))], [], L0, []⟩ trivial ?_
    refine WX.ret ?_
    exact WC.outP (by rw [← Option.some.inj h]; kernel_rfl)
  · refine WC.condF c3 (by kernel_rfl) ?_
    refine WC.rg hn [] [0, 1, 9] [] ⟨[(0, .p (i6 (a0))), (1, .p (i6 (a1))), (9, .p (bo (((decide (a0 < 0))))))], [], L0, []⟩ trivial ?_
    rcases if_or h with ⟨c6, h⟩ | ⟨c6, h⟩
    · refine WC.condT c6 (by kernel_rfl) ?_
      refine WC.rg hn [] [4] [] ⟨[(4, .p (i6 (a1)))], [], L0, []⟩ trivial ?_
      refine WX.ret ?_
      exact WC.outP (by rw [← Option.some.inj h]; kernel_rfl)
    · refine WC.condF c6 (by kernel_rfl) ?_
      refine WX.skip ?_
      refine WX.popBlk ?_
      refine WC.rg hn [] [4] [] ⟨[(4, .p (i6 (((minI a0 a1)))))], [], L0, []⟩ trivial ?_
      refine WX.ret ?_
      exact WC.outP (by rw [← Option.some.inj h]; kernel_rfl)
def class_Has (a0 : (Arr4 Int)) (a1 : Int) : Option (Bool) :=
  (if 0 ≤ (a1.fdiv (2 ^ 6)) ∧ (a1.fdiv (2 ^ 6)) < 4 then (if ¬ (bits .and .u8 a1 63) < 0 then some (((bits .and .u64 ((((get4 a0.a0 a0.a1 a0.a2 a0.a3 ((a1.fdiv (2 ^ 6))))).fdiv (2 ^ (min ((bits .and .u8 a1 63)).toNat IntKind.u64.bits)))) 1) == 1)) else none) else none)
theorem class_Has_ok {a0 : (Arr4 Int)} {a1 : Int} {r : Bool} (h : class_Has a0 a1 = some r) : Ans Tryd.prog 50 [.agg [u6 (a0.a0), u6 (a0.a1), u6 (a0.a2), u6 (a0.a3)], .s (.int .u8 a1)] (bo (r)) := by
  refine W_fn Tryd.func50 rfl (by kernel_rfl) (by kernel_rfl) ?_
  intro X hro hn
  unfold class_Has at h
  refine WC.rg hn [] [1, 2] [2] ⟨[(1, .p (.s (.int .u8 a1))), (2, .ptr 2 0)], [(2, .box 75 [.p (u6 (a0.a0)), .p (u6 (a0.a1)), .p (u6 (a0.a2)), .p (u6 (a0.a3))])], L0, []⟩ trivial ?_
  refine WX.seq ?_
  obtain ⟨c2_1, h⟩ := if_some h
  obtain ⟨c2_2, h⟩ := if_some h
  refine WC.r1 hn [(2, .val (.ptr 2 (0 + ((a1.fdiv (2 ^ 6))).toNat * 1))), (3, .val (.p (u6 (((get4 a0.a0 a0.a1 a0.a2 a0.a3 ((a1.fdiv (2 ^ 6))))))))), (6, .val (.p (u6 ((((get4 a0.a0 a0.a1 a0.a2 a0.a3 ((a1.fdiv (2 ^ 6))))).fdiv (2 ^ (min ((bits .and .u8 a1 63)).toNat IntKind.u64.bits)))))))] [4] [] ⟨[(4, .p (bo ((((bits .and .u64 ((((get4 a0.a0 a0.a1 a0.a2 a0.a3 ((a1.fdiv (2 ^ 6))))).fdiv (2 ^ (min ((bits .and .u8 a1 63)).toNat IntKind.u64.bits)))) 1) == 1)))))], [], L0, []⟩ (And.intro (IxA4 2 0 ((a1.fdiv (2 ^ 6))) c2_1) (And.intro (LdA4 Tryd.prog 73 [] .u64 a0.a0 a0.a1 a0.a2 a0.a3 [] ((a1.fdiv (2 ^ 6))) c2_1 rfl rfl) (And.intro (Shr .u64 ((get4 a0.a0 a0.a1 a0.a2 a0.a3 ((a1.fdiv (2 ^ 6))))) ((bits .and .u8 a1 63)) c2_2) (trivial)))) ?_
  refine WX.ret ?_
  exact WC.outP (by rw [← Option.some.inj h]; kernel_rfl)
def bits_All_1_v1_l0 (a1 : api_Bits) : Nat → (Int × Bool) → Option (List Int)
  | 0, _ => none
  | k + 1, (x2_1_1, x2_1_2) => (if x2_1_2 = true then ((bits_First k a1 ((IntKind.i64.wrap (x2_1_1 + 1)))).bind fun t14_2 => bits_All_1_v1_l0 a1 k (t14_2.1, t14_2.2)).map (x2_1_1 :: ·) else some [])
def bits_All_1_v1 (k : Nat) (a1 : api_Bits) : Option (List Int) :=
  (bits_First k a1 0).bind fun t1_2 => bits_All_1_v1_l0 a1 k (t1_2.1, t1_2.2)
theorem bits_All_1_v1_it {k : Nat} {a1 : api_Bits} {r : List Int} (h : bits_All_1_v1 k a1 = some r) : Iter Tryd.prog 87 [.rop ([i6 (a1.N), sW a1.Words])] (r.map (fun x : Int => ([.int .i64 x] : List Value))) := by
  refine W_it Tryd.func87 rfl (by kernel_rfl) (Nat.le_of_ble_eq_true (by kernel_rfl)) ?_
  intro X hro hn hY
  obtain ⟨L, hLe⟩ : ∃ L, L = r.map (fun x : Int => ([.int .i64 x] : List Value)) := ⟨_, rfl⟩
  rw [← hLe] at hY ⊢
  have hL : ([] : List (List Value)) ++ r.map (fun x : Int => ([.int .i64 x] : List Value)) = L := by rw [hLe]; rfl
  clear hLe
  unfold bits_All_1_v1 at h
  refine WX.seq ?_
  obtain ⟨t1_2, h1_1, h⟩ := bind_some h
  refine WC.r1 hn [(1, .resP (.tup [i6 (t1_2.1), bo (t1_2.2)]))] [0, 1, 3, 4] [] ⟨[(0, .yield), (1, .p (.rop ([i6 (a1.N), sW a1.Words]))), (3, .p (i6 (t1_2.1))), (4, .p (bo (t1_2.2)))], [], ⟨([] : List (List Value)), false⟩, []⟩ (And.intro ((bits_First_ok h1_1)) (trivial)) ?_
  refine WX.block ?_
  refine WC.loop (V := Int × Bool × List (List Value)) (fun k v2 => (bits_All_1_v1_l0 a1 k (v2.1, v2.2.1)).map fun r => v2.2.2 ++ r.map (fun x : Int => ([.int .i64 x] : List Value))) L (fun v2 => ⟨[(0, .yield), (1, .p (.rop ([i6 (a1.N), sW a1.Words]))), (3, .p (i6 (v2.1))), (4, .p (bo (v2.2.1)))], [], ⟨v2.2.2, false⟩, []⟩) _ (t1_2.1, t1_2.2, ([] : List (List Value))) (by rw [h]; exact congrArg some hL) (fun _ => rfl) [0, 1, 3, 4] [] (by kernel_rfl) ?_
  clear h hL; rintro k ⟨x2_1_1, x2_1_2, x2_1_3⟩ h K2 hnext2 hexit2
  obtain ⟨r, h, hL⟩ := mapO_some h
  dsimp only at h hL
  rw [bits_All_1_v1_l0] at h
  refine WX.seq ?_
  refine WC.rg hn [] [0, 1, 3, 10] [] ⟨[(0, .yield), (1, .p (.rop ([i6 (a1.N), sW a1.Words]))), (3, .p (i6 (x2_1_1))), (10, .p (bo (x2_1_2)))], [], ⟨x2_1_3, false⟩, []⟩ trivial ?_
  rcases if_or h with ⟨c12, h⟩ | ⟨c12, h⟩
  · refine WC.condT c12 (by kernel_rfl) ?_
    refine WX.skip ?_
    refine WX.seq ?_
    refine WX.block ?_
    refine WX.seq ?_
    obtain ⟨r13, hh13, hr13⟩ := mapO_some h
    subst hr13
    replace h := hh13
    refine WC.yld hn hY 2 [] [0, 1, 3, 21] [] (⟨[(0, .yield), (1, .p (.rop ([i6 (a1.N), sW a1.Words]))), (3, .p (i6 (x2_1_1))), (21, .p (bo (false)))], [], ⟨(x2_1_3 ++ [[.int .i64 x2_1_1]]), false⟩, []⟩) (⟨[(0, .yield), (1, .p (.rop ([i6 (a1.N), sW a1.Words]))), (3, .p (i6 (x2_1_1))), (21, .p (bo (true)))], [], ⟨(x2_1_3 ++ [[.int .i64 x2_1_1]]), true⟩, []⟩) x2_1_3 [.int .i64 x2_1_1] (And.intro True.intro (And.intro True.intro True.intro)) (by kernel_rfl) (pre_ok (val := (fun x : Int => ([.int .i64 x] : List Value))) (x := x2_1_1) (l := r13) hL) ?_ ?_
    · replace hL : (x2_1_3 ++ [[.int .i64 x2_1_1]]) ++ r13.map (fun x : Int => ([.int .i64 x] : List Value)) = L := by rw [← hL]; simp
      refine WC.condF rfl (by kernel_rfl) ?_
      refine WX.skip ?_
      refine WX.popBlk ?_
      obtain ⟨t14_2, h14_1, h⟩ := bind_some h
      refine WC.r1 hn [(3, .resP (.tup [i6 (t14_2.1), bo (t14_2.2)]))] [0, 1, 3, 4] [] ⟨[(0, .yield), (1, .p (.rop ([i6 (a1.N), sW a1.Words]))), (3, .p (i6 (t14_2.1))), (4, .p (bo (t14_2.2)))], [], ⟨(x2_1_3 ++ [[.int .i64 x2_1_1]]), false⟩, []⟩ (And.intro ((bits_First_ok h14_1)) (trivial)) ?_
      exact WC.next [0, 1, 3, 4] [] (by kernel_rfl) (hnext2 (t14_2.1, t14_2.2, (x2_1_3 ++ [[.int .i64 x2_1_1]])) (by rw [h]; exact congrArg some hL))
    · refine WC.condT rfl (by kernel_rfl) ?_
      refine WX.ret ?_
      refine WC.ret_all (hexit2 _ _ (by simp) ?_)
      exact WC.ret_all ⟨by kernel_rfl, fun h => by cases h⟩
  · refine WC.condF c12 (by kernel_rfl) ?_
    refine WX.exit ?_
    refine WX.popCodeExit ?_
    refine WC.exit_nil (hexit2 _ _ (by simp) ?_)
    refine WX.popBlkHit ?_
    obtain rfl := Option.some.inj h
    exact WC.exit_nil ⟨by kernel_rfl, fun _ => by simpa using hL⟩
def starts_Next_l1 (a3 : Int) (t2_2 : api_Nfa) (J147 : List Int → Option ((List Int))) : Nat → (Int × List Int) → Option ((List Int))
  | 0, _ => none
  | k + 1, (x166_1_1, x166_1_2) => (if (decide (x166_1_1 < (t2_2.Classes.length : Int))) = true then (at_ t2_2.Classes x166_1_1).bind fun t185_2 => (class_Has t185_2 a3).bind fun t186_2 => (if (!t186_2) = true then (at_ x166_1_2 x166_1_1).bind fun t188_2 => starts_Next_l1 a3 t2_2 J147 k ((IntKind.i64.wrap (x166_1_1 + 1)), x166_1_2.set x166_1_1.toNat ((-1))) else starts_Next_l1 a3 t2_2 J147 k ((IntKind.i64.wrap (x166_1_1 + 1)), x166_1_2)) else J147 x166_1_2)
def starts_Next_l3 (k : Nat) (J220 : List Int → Option ((List Int))) (t231_2 : Int) : List Int → List Int → Option ((List Int))
  | [], x235_1_1 => J220 x235_1_1
  | x235 :: xs235, x235_1_1 => (at_ x235_1_1 x235).bind fun t241_2 => (starts_lesser t241_2 t231_2).bind fun t241_4 => starts_Next_l3 k J220 t231_2 xs235 (x235_1_1.set x235.toNat t241_4)
def starts_Next_l2 (t2_2 : api_Nfa) (t3_2 : (List Int)) (J118 : List Int → Option ((List Int))) : Nat → (Int × List Int) → Option ((List Int))
  | 0, _ => none
  | k + 1, (x191_1_1, x191_1_2) => (if (decide (x191_1_1 < (t3_2.length : Int))) = true then jn (fun (v220 : List Int) => starts_Next_l2 t2_2 t3_2 J118 k ((IntKind.i64.wrap (x191_1_1 + 1)), v220)) fun J220 => (at_ t3_2 x191_1_1).bind fun t231_2 => (if (decide (t231_2 < 0)) = true then J220 x191_1_2 else (at_ t2_2.Follow x191_1_1).bind fun t234_2 => (bits_All t234_2).bind fun t234_4 => (bits_All_1_v1 k t234_4).bind fun l235 => starts_Next_l3 k J220 t231_2 l235 x191_1_2) else J118 x191_1_2)
def starts_Next_l0 (k : Nat) (a2 : Int) (a3 : Int) (t2_2 : api_Nfa) (t3_2 : (List Int)) : List Int → List Int → Option ((List Int))
  | [], x6_1_1 => jn (fun (v118 : List Int) => jn (fun (v147 : List Int) => some v147) fun J147 => starts_Next_l1 a3 t2_2 J147 k (0, v118)) fun J118 => starts_Next_l2 t2_2 t3_2 J118 k (0, x6_1_1)
  | x6 :: xs6, x6_1_1 => jn (fun (v243 : List Int) => starts_Next_l0 k a2 a3 t2_2 t3_2 xs6 v243) fun J243 => (at_ x6_1_1 x6).bind fun t248_2 => (if (((decide (a2 ≥ 0))) && ((decide (a2 ≤ 4611686018427387904)))) = true then (at_ (x6_1_1.set x6.toNat ((-1))) x6).bind fun t251_2 => J243 ((x6_1_1.set x6.toNat ((-1))).set x6.toNat a2) else J243 (x6_1_1.set x6.toNat ((-1))))
def starts_Next (k : Nat) (a0 : api_Nfa) (a1 : (List Int)) (a2 : Int) (a3 : Int) : Option ((List Int)) :=
  (starts_may k a0).bind fun t2_2 => (starts_state k t2_2 a1).bind fun t3_2 => (starts_None k t2_2).bind fun t4_2 => (bits_All t2_2.First).bind fun t5_2 => (bits_All_1_v1 k t5_2).bind fun l6 => starts_Next_l0 k a2 a3 t2_2 t3_2 l6 t4_2
theorem starts_Next_ok {k : Nat} {a0 : api_Nfa} {a1 : (List Int)} {a2 : Int} {a3 : Int} {r : (List Int)} (h : starts_Next k a0 a1 a2 a3 = some r) : AnsO Tryd.prog 16 [] [.p (pP2 a0), .p (sI a1), .p (i6 (a2)), .p (.s (.int .u8 a3))] [(22, rI 2 r)] (.own 22) := by
  refine W_fnO [22] Tryd.func16 rfl (by kernel_rfl) (by kernel_rfl) (by kernel_rfl) (by kernel_rfl) ?_
  intro X hro hn
  unfold starts_Next at h
  refine WC.rg hn [] [1, 3, 4, 6] [4, 6] ⟨[(1, .p (sI a1)), (3, .p (.s (.int .u8 a3))), (4, .ptr 4 0), (6, .ptr 6 0)], [(4, .box 28 (vV2 a0)), (6, .box 2 [.p (i6 (a2))])], L0, []⟩ trivial ?_
  refine WX.seq ?_
  obtain ⟨t2_2, h2_1, h⟩ := bind_some h
  refine WC.r1 hn [(1, .resP (pP2 t2_2))] [1, 3, 4, 6] [4, 6] ⟨[(1, .p (sI a1)), (3, .p (.s (.int .u8 a3))), (4, .ptr 4 0), (6, .ptr 6 0)], [(4, .box 28 (vV2 t2_2)), (6, .box 2 [.p (i6 (a2))])], L0, []⟩ (And.intro ((starts_may_ok h2_1)) (trivial)) ?_
  refine WX.seq ?_
  obtain ⟨t3_2, h3_1, h⟩ := bind_some h
  refine WC.r1 hn [(2, .resP (sI t3_2))] [1, 3, 4, 6] [4, 6] ⟨[(1, .p (sI t3_2)), (3, .p (.s (.int .u8 a3))), (4, .ptr 4 0), (6, .ptr 6 0)], [(4, .box 28 (vV2 t2_2)), (6, .box 2 [.p (i6 (a2))])], L0, []⟩ (And.intro ((starts_state_ok h3_1)) (trivial)) ?_
  refine WX.seq ?_
  obtain ⟨t4_2, h4_1, h⟩ := bind_some h
  refine WC.r1 hn [(1, .co [] [] [] [(22, rI 2 t4_2)] (.own 22))] [1, 3, 4, 6, 9] [4, 6, 9, 22] ⟨[(1, .p (sI t3_2)), (3, .p (.s (.int .u8 a3))), (4, .ptr 4 0), (6, .ptr 6 0), (9, .ptr 9 0)], [(4, .box 28 (vV2 t2_2)), (6, .box 2 [.p (i6 (a2))]), (9, .box 29 [.own 22]), (22, rI 2 t4_2)], L0, []⟩ (And.intro (And.intro ((starts_None_ok h4_1).ren 8 22 (by kernel_rfl)) (trivial)) (trivial)) ?_
  refine WX.seq ?_
  refine WX.seq ?_
  obtain ⟨t5_2, h5_1, h⟩ := bind_some h
  refine WC.r1 hn [(2, .resP (.fn 87 [.rop ([i6 (t5_2.N), sW t5_2.Words])]))] [1, 3, 4, 6, 9, 25] [4, 6, 9, 22] ⟨[(1, .p (sI t3_2)), (3, .p (.s (.int .u8 a3))), (4, .ptr 4 0), (6, .ptr 6 0), (9, .ptr 9 0), (25, .p (.fn 87 [.rop ([i6 (t5_2.N), sW t5_2.Words])]))], [(4, .box 28 (vV2 t2_2)), (6, .box 2 [.p (i6 (a2))]), (9, .box 29 [.own 22]), (22, rI 2 t4_2)], L0, []⟩ (And.intro ((bits_All_ok h5_1)) (trivial)) ?_
  refine WX.block ?_
  obtain ⟨l6, hI6, h⟩ := bind_some h
  refine WC.range (V := List Int) hn (starts_Next_l0 k a2 a3 t2_2 t3_2) r (fun v6 => ⟨[(1, .p (sI t3_2)), (3, .p (.s (.int .u8 a3))), (4, .ptr 4 0), (6, .ptr 6 0), (9, .ptr 9 0), (25, .p (.fn 87 [.rop ([i6 (t5_2.N), sW t5_2.Words])]))], [(4, .box 28 (vV2 t2_2)), (6, .box 2 [.p (i6 (a2))]), (9, .box 29 [.own 22]), (22, rI 2 v6)], L0, []⟩) (fun x6 v6 => ⟨[(1, .p (sI t3_2)), (3, .p (.s (.int .u8 a3))), (4, .ptr 4 0), (6, .ptr 6 0), (9, .ptr 9 0), (10, .p (i6 (x6))), (25, .p (.fn 87 [.rop ([i6 (t5_2.N), sW t5_2.Words])])), (26, .p (i6 (x6)))], [(4, .box 28 (vV2 t2_2)), (6, .box 2 [.p (i6 (a2))]), (9, .box 29 [.own 22]), (22, rI 2 v6)], ⟨[], false⟩, [[(1, .p (sI t3_2)), (3, .p (.s (.int .u8 a3))), (4, .ptr 4 0), (6, .ptr 6 0), (9, .ptr 9 0), (25, .p (.fn 87 [.rop ([i6 (t5_2.N), sW t5_2.Words])]))]]⟩) (fun x : Int => ([.int .i64 x] : List Value)) l6 t4_2 h [1, 3, 4, 6, 9, 25] [4, 6, 9, 22] (by kernel_rfl) (fun v6 => .p (.fn 87 [.rop ([i6 (t5_2.N), sW t5_2.Words])])) (fun v6 => by kernel_rfl) (by kernel_rfl) (bits_All_1_v1_it hI6) (by kernel_rfl) (fun v6 => by kernel_rfl) (fun x => ⟨rfl, rfl⟩) ?_ ?_ ?_
  · clear h; rintro x6_1_1 h
    rw [starts_Next_l0] at h
    refine WX.popBlk ?_
    refine WX.seq ?_
    refine WC.rg hn [] [3, 4, 9, 40, 41, 42] [4, 9, 22] ⟨[(3, .p (.s (.int .u8 a3))), (4, .ptr 4 0), (9, .ptr 9 0), (40, .p (sI t3_2)), (41, .p (i6 (((t3_2.length : Int))))), (42, .p (i6 (0)))], [(4, .box 28 (vV2 t2_2)), (9, .box 29 [.own 22]), (22, rI 2 x6_1_1)], L0, []⟩ trivial ?_
    obtain ⟨J118, eJ118, h⟩ := jn_some h
    try dsimp only at h
    refine WC.join (α := List Int) (fun v118 => ⟨[(3, .p (.s (.int .u8 a3))), (4, .ptr 4 0), (9, .ptr 9 0)], [(4, .box 28 (vV2 t2_2)), (9, .box 29 [.own 22]), (22, rI 2 v118)], L0, []⟩) (fun v118 => J118 v118 = some r) ?_ (fun hJ118 => ?_)
    · rintro y118_1 h
      rw [eJ118] at h
      try dsimp only at h
      refine WX.seq ?_
      refine WC.rg hn [] [3, 9, 67, 68, 69] [9, 22] ⟨[(3, .p (.s (.int .u8 a3))), (9, .ptr 9 0), (67, .p (sC t2_2.Classes)), (68, .p (i6 (((t2_2.Classes.length : Int))))), (69, .p (i6 (0)))], [(9, .box 29 [.own 22]), (22, rI 2 y118_1)], L0, []⟩ trivial ?_
      obtain ⟨J147, eJ147, h⟩ := jn_some h
      try dsimp only at h
      refine WC.join (α := List Int) (fun v147 => ⟨[(9, .ptr 9 0)], [(9, .box 29 [.own 22]), (22, rI 2 v147)], L0, []⟩) (fun v147 => J147 v147 = some r) ?_ (fun hJ147 => ?_)
      · rintro y147_1 h
        rw [eJ147] at h
        try dsimp only at h
        refine WC.rg hn [] [8] [22] ⟨[(8, .own 22)], [(22, rI 2 y147_1)], L0, []⟩ trivial ?_
        refine WX.ret ?_
        exact WC.outO (by rw [← Option.some.inj h]; kernel_rfl)
      · replace hJ147 := fun y147_1 => hJ147 y147_1
        refine WX.block ?_
        refine WC.loop (V := Int × List Int) (starts_Next_l1 a3 t2_2 J147) r (fun v166 => ⟨[(3, .p (.s (.int .u8 a3))), (9, .ptr 9 0), (67, .p (sC t2_2.Classes)), (68, .p (i6 (((t2_2.Classes.length : Int))))), (69, .p (i6 (v166.1)))], [(9, .box 29 [.own 22]), (22, rI 2 v166.2)], L0, []⟩) _ (0, y118_1) h (fun _ => rfl) [3, 9, 67, 68, 69] [9, 22] (by kernel_rfl) ?_
        clear h; rintro k ⟨x166_1_1, x166_1_2⟩ h K166 hnext166 hexit166
        rw [starts_Next_l1] at h
        refine WC.rg hn [] [3, 9, 67, 68, 69, 70] [9, 22] ⟨[(3, .p (.s (.int .u8 a3))), (9, .ptr 9 0), (67, .p (sC t2_2.Classes)), (68, .p (i6 (((t2_2.Classes.length : Int))))), (69, .p (i6 (x166_1_1))), (70, .p (bo (((decide (x166_1_1 < (t2_2.Classes.length : Int)))))))], [(9, .box 29 [.own 22]), (22, rI 2 x166_1_2)], L0, []⟩ trivial ?_
        refine WX.seq ?_
        rcases if_or h with ⟨c184, h⟩ | ⟨c184, h⟩
        · refine WC.condT c184 (by kernel_rfl) ?_
          refine WX.skip ?_
          refine WX.seq ?_
          refine WX.block ?_
          refine WX.seq ?_
          obtain ⟨t185_2, h185_1, h⟩ := bind_some h
          refine WC.r1 hn [(1, .val (.p (.rop ((e4 (eI .u64)).cells t185_2 ++ encL (e4 (eI .u64)) (t2_2.Classes.drop (x166_1_1.toNat + 1))))))] [3, 9, 14, 15, 67, 68, 69] [9, 15, 22] ⟨[(3, .p (.s (.int .u8 a3))), (9, .ptr 9 0), (14, .p (i6 (x166_1_1))), (15, .ptr 15 0), (67, .p (sC t2_2.Classes)), (68, .p (i6 (((t2_2.Classes.length : Int))))), (69, .p (i6 (x166_1_1)))], [(9, .box 29 [.own 22]), (15, .box 75 [.p (u6 (t185_2.a0)), .p (u6 (t185_2.a1)), .p (u6 (t185_2.a2)), .p (u6 (t185_2.a3))]), (22, rI 2 x166_1_2)], L0, []⟩ (And.intro (Ix (e4 (eI .u64)) h185_1) (trivial)) ?_
          refine WX.seq ?_
          obtain ⟨t186_2, h186_1, h⟩ := bind_some h
          refine WC.r1 hn [(2, .resP (bo (t186_2)))] [3, 9, 14, 67, 68, 69, 77] [9, 22] ⟨[(3, .p (.s (.int .u8 a3))), (9, .ptr 9 0), (14, .p (i6 (x166_1_1))), (67, .p (sC t2_2.Classes)), (68, .p (i6 (((t2_2.Classes.length : Int))))), (69, .p (i6 (x166_1_1))), (77, .p (bo (((!t186_2)))))], [(9, .box 29 [.own 22]), (22, rI 2 x166_1_2)], L0, []⟩ (And.intro ((class_Has_ok h186_1)) (trivial)) ?_
          rcases if_or h with ⟨c187, h⟩ | ⟨c187, h⟩
          · refine WC.condT c187 (by kernel_rfl) ?_
            obtain ⟨t188_2, h188_1, h⟩ := bind_some h
            refine WC.r1 hn [(2, .val (.ptr 22 (x166_1_1.toNat * 1))), (3, .sto 22 (rI 2 (x166_1_2.set x166_1_1.toNat ((-1)))))] [3, 9, 67, 68, 69] [9, 22] ⟨[(3, .p (.s (.int .u8 a3))), (9, .ptr 9 0), (67, .p (sC t2_2.Classes)), (68, .p (i6 (((t2_2.Classes.length : Int))))), (69, .p (i6 (x166_1_1)))], [(9, .box 29 [.own 22]), (22, rI 2 (x166_1_2.set x166_1_1.toNat ((-1))))], L0, []⟩ (And.intro (IxO 22 1 h188_1) (And.intro (StO0 (eI .i64) 22 2 1 1 [i6 (((-1)))] ((-1)) h188_1 rfl rfl (by decide)) (trivial))) ?_
            refine WX.popBlk ?_
            refine WC.r1 hn [] [3, 9, 67, 68, 69] [9, 22] ⟨[(3, .p (.s (.int .u8 a3))), (9, .ptr 9 0), (67, .p (sC t2_2.Classes)), (68, .p (i6 (((t2_2.Classes.length : Int))))), (69, .p (i6 (((IntKind.i64.wrap (x166_1_1 + 1))))))], [(9, .box 29 [.own 22]), (22, rI 2 (x166_1_2.set x166_1_1.toNat ((-1))))], L0, []⟩ trivial ?_
            exact WC.next [3, 9, 67, 68, 69] [9, 22] (by kernel_rfl) (hnext166 ((IntKind.i64.wrap (x166_1_1 + 1)), x166_1_2.set x166_1_1.toNat ((-1))) h)
          · refine WC.condF c187 (by kernel_rfl) ?_
            refine WX.skip ?_
            refine WX.popBlk ?_
            refine WC.r1 hn [] [3, 9, 67, 68, 69] [9, 22] ⟨[(3, .p (.s (.int .u8 a3))), (9, .ptr 9 0), (67, .p (sC t2_2.Classes)), (68, .p (i6 (((t2_2.Classes.length : Int))))), (69, .p (i6 (((IntKind.i64.wrap (x166_1_1 + 1))))))], [(9, .box 29 [.own 22]), (22, rI 2 x166_1_2)], L0, []⟩ trivial ?_
            exact WC.next [3, 9, 67, 68, 69] [9, 22] (by kernel_rfl) (hnext166 ((IntKind.i64.wrap (x166_1_1 + 1)), x166_1_2) h)
        · refine WC.condF c184 (by kernel_rfl) ?_
          refine WX.exit ?_
          refine WX.popCodeExit ?_
          refine WC.exit_nil (hexit166 _ _ (by simp) ?_)
          refine WX.popBlkHit ?_
          exact WC.keep [9] [9, 22] (by kernel_rfl) (hJ147 x166_1_2 h)
    · replace hJ118 := fun y118_1 => hJ118 y118_1
      refine WX.block ?_
      refine WC.loop (V := Int × List Int) (starts_Next_l2 t2_2 t3_2 J118) r (fun v191 => ⟨[(3, .p (.s (.int .u8 a3))), (4, .ptr 4 0), (9, .ptr 9 0), (40, .p (sI t3_2)), (41, .p (i6 (((t3_2.length : Int))))), (42, .p (i6 (v191.1)))], [(4, .box 28 (vV2 t2_2)), (9, .box 29 [.own 22]), (22, rI 2 v191.2)], L0, []⟩) _ (0, x6_1_1) h (fun _ => rfl) [3, 4, 9, 40, 41, 42] [4, 9, 22] (by kernel_rfl) ?_
      clear h; rintro k ⟨x191_1_1, x191_1_2⟩ h K191 hnext191 hexit191
      rw [starts_Next_l2] at h
      refine WC.rg hn [] [3, 4, 9, 40, 41, 42, 43] [4, 9, 22] ⟨[(3, .p (.s (.int .u8 a3))), (4, .ptr 4 0), (9, .ptr 9 0), (40, .p (sI t3_2)), (41, .p (i6 (((t3_2.length : Int))))), (42, .p (i6 (x191_1_1))), (43, .p (bo (((decide (x191_1_1 < (t3_2.length : Int)))))))], [(4, .box 28 (vV2 t2_2)), (9, .box 29 [.own 22]), (22, rI 2 x191_1_2)], L0, []⟩ trivial ?_
      refine WX.seq ?_
      rcases if_or h with ⟨c219, h⟩ | ⟨c219, h⟩
      · refine WC.condT c219 (by kernel_rfl) ?_
        refine WX.skip ?_
        refine WX.seq ?_
        obtain ⟨J220, eJ220, h⟩ := jn_some h
        try dsimp only at h
        refine WC.join (α := List Int) (fun v220 => ⟨[(3, .p (.s (.int .u8 a3))), (4, .ptr 4 0), (9, .ptr 9 0), (40, .p (sI t3_2)), (41, .p (i6 (((t3_2.length : Int))))), (42, .p (i6 (x191_1_1)))], [(4, .box 28 (vV2 t2_2)), (9, .box 29 [.own 22]), (22, rI 2 v220)], L0, []⟩) (fun v220 => J220 v220 = some r) ?_ (fun hJ220 => ?_)
        · rintro y220_1 h
          rw [eJ220] at h
          try dsimp only at h
          refine WC.r1 hn [] [3, 4, 9, 40, 41, 42] [4, 9, 22] ⟨[(3, .p (.s (.int .u8 a3))), (4, .ptr 4 0), (9, .ptr 9 0), (40, .p (sI t3_2)), (41, .p (i6 (((t3_2.length : Int))))), (42, .p (i6 (((IntKind.i64.wrap (x191_1_1 + 1))))))], [(4, .box 28 (vV2 t2_2)), (9, .box 29 [.own 22]), (22, rI 2 y220_1)], L0, []⟩ trivial ?_
          exact WC.next [3, 4, 9, 40, 41, 42] [4, 9, 22] (by kernel_rfl) (hnext191 ((IntKind.i64.wrap (x191_1_1 + 1)), y220_1) h)
        · replace hJ220 := fun y220_1 => hJ220 y220_1
          refine WX.block ?_
          refine WX.seq ?_
          obtain ⟨t231_2, h231_1, h⟩ := bind_some h
          refine WC.r1 hn [(1, .val (.p (.rop ((eI .i64).cells t231_2 ++ encL (eI .i64) (t3_2.drop (x191_1_1.toNat + 1))))))] [3, 4, 9, 11, 12, 40, 41, 42] [4, 9, 12, 22] ⟨[(3, .p (.s (.int .u8 a3))), (4, .ptr 4 0), (9, .ptr 9 0), (11, .p (i6 (x191_1_1))), (12, .ptr 12 0), (40, .p (sI t3_2)), (41, .p (i6 (((t3_2.length : Int))))), (42, .p (i6 (x191_1_1)))], [(4, .box 28 (vV2 t2_2)), (9, .box 29 [.own 22]), (12, .box 2 [.p (i6 (t231_2))]), (22, rI 2 x191_1_2)], L0, []⟩ (And.intro (Ix (eI .i64) h231_1) (trivial)) ?_
          refine WX.seq ?_
          refine WC.rg hn [] [3, 4, 9, 11, 12, 40, 41, 42, 48] [4, 9, 12, 22] ⟨[(3, .p (.s (.int .u8 a3))), (4, .ptr 4 0), (9, .ptr 9 0), (11, .p (i6 (x191_1_1))), (12, .ptr 12 0), (40, .p (sI t3_2)), (41, .p (i6 (((t3_2.length : Int))))), (42, .p (i6 (x191_1_1))), (48, .p (bo (((decide (t231_2 < 0))))))], [(4, .box 28 (vV2 t2_2)), (9, .box 29 [.own 22]), (12, .box 2 [.p (i6 (t231_2))]), (22, rI 2 x191_1_2)], L0, []⟩ trivial ?_
          rcases if_or h with ⟨c233, h⟩ | ⟨c233, h⟩
          · refine WC.condT c233 (by kernel_rfl) ?_
            refine WX.exit ?_
            refine WX.popCodeExit ?_
            refine WX.popBlkHit ?_
            exact WC.keep [3, 4, 9, 40, 41, 42] [4, 9, 22] (by kernel_rfl) (hJ220 x191_1_2 h)
          · refine WC.condF c233 (by kernel_rfl) ?_
            refine WX.skip ?_
            refine WX.seq ?_
            obtain ⟨t234_2, h234_1, h⟩ := bind_some h
            obtain ⟨t234_4, h234_3, h⟩ := bind_some h
            refine WC.r1 hn [(3, .val (.p (.rop (e_api_Bits.cells t234_2 ++ encL e_api_Bits (t2_2.Follow.drop (x191_1_1.toNat + 1)))))), (5, .resP (.fn 87 [.rop ([i6 (t234_4.N), sW t234_4.Words])]))] [3, 4, 9, 12, 40, 41, 42, 54] [4, 9, 12, 22] ⟨[(3, .p (.s (.int .u8 a3))), (4, .ptr 4 0), (9, .ptr 9 0), (12, .ptr 12 0), (40, .p (sI t3_2)), (41, .p (i6 (((t3_2.length : Int))))), (42, .p (i6 (x191_1_1))), (54, .p (.fn 87 [.rop ([i6 (t234_4.N), sW t234_4.Words])]))], [(4, .box 28 (vV2 t2_2)), (9, .box 29 [.own 22]), (12, .box 2 [.p (i6 (t231_2))]), (22, rI 2 x191_1_2)], L0, []⟩ (And.intro (Ix e_api_Bits h234_1) (And.intro ((bits_All_ok h234_3)) (trivial))) ?_
            refine WX.block ?_
            obtain ⟨l235, hI235, h⟩ := bind_some h
            refine WC.range (V := List Int) hn (starts_Next_l3 k J220 t231_2) r (fun v235 => ⟨[(3, .p (.s (.int .u8 a3))), (4, .ptr 4 0), (9, .ptr 9 0), (12, .ptr 12 0), (40, .p (sI t3_2)), (41, .p (i6 (((t3_2.length : Int))))), (42, .p (i6 (x191_1_1))), (54, .p (.fn 87 [.rop ([i6 (t234_4.N), sW t234_4.Words])]))], [(4, .box 28 (vV2 t2_2)), (9, .box 29 [.own 22]), (12, .box 2 [.p (i6 (t231_2))]), (22, rI 2 v235)], L0, []⟩) (fun x235 v235 => ⟨[(3, .p (.s (.int .u8 a3))), (4, .ptr 4 0), (9, .ptr 9 0), (12, .ptr 12 0), (13, .p (i6 (x235))), (40, .p (sI t3_2)), (41, .p (i6 (((t3_2.length : Int))))), (42, .p (i6 (x191_1_1))), (54, .p (.fn 87 [.rop ([i6 (t234_4.N), sW t234_4.Words])])), (55, .p (i6 (x235)))], [(4, .box 28 (vV2 t2_2)), (9, .box 29 [.own 22]), (12, .box 2 [.p (i6 (t231_2))]), (22, rI 2 v235)], ⟨[], false⟩, [[(3, .p (.s (.int .u8 a3))), (4, .ptr 4 0), (9, .ptr 9 0), (12, .ptr 12 0), (40, .p (sI t3_2)), (41, .p (i6 (((t3_2.length : Int))))), (42, .p (i6 (x191_1_1))), (54, .p (.fn 87 [.rop ([i6 (t234_4.N), sW t234_4.Words])]))]]⟩) (fun x : Int => ([.int .i64 x] : List Value)) l235 x191_1_2 h [3, 4, 9, 12, 40, 41, 42, 54] [4, 9, 12, 22] (by kernel_rfl) (fun v235 => .p (.fn 87 [.rop ([i6 (t234_4.N), sW t234_4.Words])])) (fun v235 => by kernel_rfl) (by kernel_rfl) (bits_All_1_v1_it hI235) (by kernel_rfl) (fun v235 => by kernel_rfl) (fun x => ⟨rfl, rfl⟩) ?_ ?_ ?_
            · clear h; rintro x235_1_1 h
              rw [starts_Next_l3] at h
              refine WX.popBlk ?_
              refine WX.popBlk ?_
              exact WC.keep [3, 4, 9, 40, 41, 42] [4, 9, 22] (by kernel_rfl) (hJ220 x235_1_1 h)
            · clear h; intro X hn x235; rintro x235_1_1
              refine WC.r1 hn [] [3, 4, 9, 12, 13, 40, 41, 42, 54, 55] [4, 9, 12, 22] ⟨[(3, .p (.s (.int .u8 a3))), (4, .ptr 4 0), (9, .ptr 9 0), (12, .ptr 12 0), (13, .p (i6 (x235))), (40, .p (sI t3_2)), (41, .p (i6 (((t3_2.length : Int))))), (42, .p (i6 (x191_1_1))), (54, .p (.fn 87 [.rop ([i6 (t234_4.N), sW t234_4.Words])])), (55, .p (i6 (x235)))], [(4, .box 28 (vV2 t2_2)), (9, .box 29 [.own 22]), (12, .box 2 [.p (i6 (t231_2))]), (22, rI 2 x235_1_1)], ⟨[], false⟩, [[(3, .p (.s (.int .u8 a3))), (4, .ptr 4 0), (9, .ptr 9 0), (12, .ptr 12 0), (40, .p (sI t3_2)), (41, .p (i6 (((t3_2.length : Int))))), (42, .p (i6 (x191_1_1))), (54, .p (.fn 87 [.rop ([i6 (t234_4.N), sW t234_4.Words])]))]]⟩ trivial ?_
              exact WC.exit_nil ⟨rfl, rfl⟩
            · clear h; intro X hn x235 xs235; rintro x235_1_1 h K235 hnext235 hexit235
              rw [starts_Next_l3] at h
              refine WX.block ?_
              obtain ⟨t241_2, h241_1, h⟩ := bind_some h
              obtain ⟨t241_4, h241_3, h⟩ := bind_some h
              refine WC.drw hn [(9, [])] [] [(4, .val (.ptr 22 (x235.toNat * 1))), (5, .val (.p (i6 (t241_2)))), (7, .resP (i6 (t241_4))), (8, .val (.ptr 22 (x235.toNat * 1))), (9, .sto 22 (rI 2 (x235_1_1.set x235.toNat t241_4)))] [] [4, 9, 12, 22] ⟨[], [(4, .box 28 (vV2 t2_2)), (9, .box 29 [.own 22]), (12, .box 2 [.p (i6 (t231_2))]), (22, rI 2 (x235_1_1.set x235.toNat t241_4))], ⟨[], false⟩, [[(3, .p (.s (.int .u8 a3))), (4, .ptr 4 0), (9, .ptr 9 0), (12, .ptr 12 0), (40, .p (sI t3_2)), (41, .p (i6 (((t3_2.length : Int))))), (42, .p (i6 (x191_1_1))), (54, .p (.fn 87 [.rop ([i6 (t234_4.N), sW t234_4.Words])]))]]⟩ (And.intro (IxO 22 1 h241_1) (And.intro (LdO0 Tryd.prog (eI .i64) 2 h241_1) (And.intro ((starts_lesser_ok h241_3)) (And.intro (IxO 22 1 h241_1) (And.intro (StO0 (eI .i64) 22 2 1 1 [i6 (t241_4)] t241_4 h241_1 rfl rfl (by decide)) (trivial)))))) (by kernel_rfl) (by kernel_rfl) (by kernel_rfl) (by kernel_rfl) ?_
              refine WX.popBlk ?_
              refine WC.keep [] [4, 9, 12, 22] (st' := ⟨[], [(4, .box 28 (vV2 t2_2)), (9, .box 29 [.own 22]), (12, .box 2 [.p (i6 (t231_2))]), (22, rI 2 (x235_1_1.set x235.toNat t241_4))], ⟨[], false⟩, [[(3, .p (.s (.int .u8 a3))), (4, .ptr 4 0), (9, .ptr 9 0), (12, .ptr 12 0), (40, .p (sI t3_2)), (41, .p (i6 (((t3_2.length : Int))))), (42, .p (i6 (x191_1_1))), (54, .p (.fn 87 [.rop ([i6 (t234_4.N), sW t234_4.Words])]))]]⟩) (by kernel_rfl) ?_
              exact WC.nextR [] [4, 9, 12, 22] (s := ⟨[], [(4, .box 28 (vV2 t2_2)), (9, .box 29 [.own 22]), (12, .box 2 [.p (i6 (t231_2))]), (22, rI 2 (x235_1_1.set x235.toNat t241_4))], ⟨[], false⟩, [[(3, .p (.s (.int .u8 a3))), (4, .ptr 4 0), (9, .ptr 9 0), (12, .ptr 12 0), (40, .p (sI t3_2)), (41, .p (i6 (((t3_2.length : Int))))), (42, .p (i6 (x191_1_1))), (54, .p (.fn 87 [.rop ([i6 (t234_4.N), sW t234_4.Words])]))]]⟩) (by kernel_rfl) rfl (fun s hb => hnext235 (x235_1_1.set x235.toNat t241_4) s h hb)
      · refine WC.condF c219 (by kernel_rfl) ?_
        refine WX.exit ?_
        refine WX.popCodeExit ?_
        refine WC.exit_nil (hexit191 _ _ (by simp) ?_)
        refine WX.popBlkHit ?_
        exact WC.keep [3, 4, 9] [4, 9, 22] (by kernel_rfl) (hJ118 x191_1_2 h)
  · clear h; intro X hn x6; rintro x6_1_1
    refine WC.r1 hn [] [1, 3, 4, 6, 9, 10, 25, 26] [4, 6, 9, 22] ⟨[(1, .p (sI t3_2)), (3, .p (.s (.int .u8 a3))), (4, .ptr 4 0), (6, .ptr 6 0), (9, .ptr 9 0), (10, .p (i6 (x6))), (25, .p (.fn 87 [.rop ([i6 (t5_2.N), sW t5_2.Words])])), (26, .p (i6 (x6)))], [(4, .box 28 (vV2 t2_2)), (6, .box 2 [.p (i6 (a2))]), (9, .box 29 [.own 22]), (22, rI 2 x6_1_1)], ⟨[], false⟩, [[(1, .p (sI t3_2)), (3, .p (.s (.int .u8 a3))), (4, .ptr 4 0), (6, .ptr 6 0), (9, .ptr 9 0), (25, .p (.fn 87 [.rop ([i6 (t5_2.N), sW t5_2.Words])]))]]⟩ trivial ?_
    exact WC.exit_nil ⟨rfl, rfl⟩
  · clear h; intro X hn x6 xs6; rintro x6_1_1 h K6 hnext6 hexit6
    rw [starts_Next_l0] at h
    obtain ⟨J243, eJ243, h⟩ := jn_some h
    try dsimp only at h
    refine WC.join (α := List Int) (fun v243 => ⟨[], [(4, .box 28 (vV2 t2_2)), (6, .box 2 [.p (i6 (a2))]), (9, .box 29 [.own 22]), (22, rI 2 v243)], ⟨[], false⟩, [[(1, .p (sI t3_2)), (3, .p (.s (.int .u8 a3))), (4, .ptr 4 0), (6, .ptr 6 0), (9, .ptr 9 0), (25, .p (.fn 87 [.rop ([i6 (t5_2.N), sW t5_2.Words])]))]]⟩) (fun v243 => J243 v243 = some r) ?_ (fun hJ243 => ?_)
    · rintro y243_1 h
      rw [eJ243] at h
      try dsimp only at h
      refine WC.keep [] [4, 6, 9, 22] (st' := ⟨[], [(4, .box 28 (vV2 t2_2)), (6, .box 2 [.p (i6 (a2))]), (9, .box 29 [.own 22]), (22, rI 2 y243_1)], ⟨[], false⟩, [[(1, .p (sI t3_2)), (3, .p (.s (.int .u8 a3))), (4, .ptr 4 0), (6, .ptr 6 0), (9, .ptr 9 0), (25, .p (.fn 87 [.rop ([i6 (t5_2.N), sW t5_2.Words])]))]]⟩) (by kernel_rfl) ?_
      exact WC.nextR [] [4, 6, 9, 22] (s := ⟨[], [(4, .box 28 (vV2 t2_2)), (6, .box 2 [.p (i6 (a2))]), (9, .box 29 [.own 22]), (22, rI 2 y243_1)], ⟨[], false⟩, [[(1, .p (sI t3_2)), (3, .p (.s (.int .u8 a3))), (4, .ptr 4 0), (6, .ptr 6 0), (9, .ptr 9 0), (25, .p (.fn 87 [.rop ([i6 (t5_2.N), sW t5_2.Words])]))]]⟩) (by kernel_rfl) rfl (fun s hb => hnext6 y243_1 s h hb)
    · replace hJ243 := fun y243_1 => hJ243 y243_1
      refine WX.block ?_
      refine WX.seq ?_
      obtain ⟨t248_2, h248_1, h⟩ := bind_some h
      refine WC.r1 hn [(2, .val (.ptr 22 (x6.toNat * 1))), (3, .sto 22 (rI 2 (x6_1_1.set x6.toNat ((-1)))))] [6, 9, 10] [4, 6, 9, 22] ⟨[(6, .ptr 6 0), (9, .ptr 9 0), (10, .p (i6 (x6)))], [(4, .box 28 (vV2 t2_2)), (6, .box 2 [.p (i6 (a2))]), (9, .box 29 [.own 22]), (22, rI 2 (x6_1_1.set x6.toNat ((-1))))], ⟨[], false⟩, [[(1, .p (sI t3_2)), (3, .p (.s (.int .u8 a3))), (4, .ptr 4 0), (6, .ptr 6 0), (9, .ptr 9 0), (25, .p (.fn 87 [.rop ([i6 (t5_2.N), sW t5_2.Words])]))]]⟩ (And.intro (IxO 22 1 h248_1) (And.intro (StO0 (eI .i64) 22 2 1 1 [i6 (((-1)))] ((-1)) h248_1 rfl rfl (by decide)) (trivial))) ?_
      refine WX.seq ?_
      refine WC.via (α := Bool) (fun v249 => ⟨[(6, .ptr 6 0), (9, .ptr 9 0), (10, .p (i6 (x6))), (35, .p (bo (v249)))], [(4, .box 28 (vV2 t2_2)), (6, .box 2 [.p (i6 (a2))]), (9, .box 29 [.own 22]), (22, rI 2 (x6_1_1.set x6.toNat ((-1))))], ⟨[], false⟩, [[(1, .p (sI t3_2)), (3, .p (.s (.int .u8 a3))), (4, .ptr 4 0), (6, .ptr 6 0), (9, .ptr 9 0), (25, .p (.fn 87 [.rop ([i6 (t5_2.N), sW t5_2.Words])]))]]⟩) ((((decide (a2 ≥ 0))) && ((decide (a2 ≤ 4611686018427387904))))) (fun hk => ?_) ?_
      · rcases Bool.eq_false_or_eq_true ((decide (a2 ≥ 0))) with b249_2 | b249_2
        · exact WC.reg hn [(2, .val (.p (bo (true))))] [6, 9, 10, 35] [4, 6, 9, 22] ⟨[(6, .ptr 6 0), (9, .ptr 9 0), (10, .p (i6 (x6))), (35, .p (bo (((decide (a2 ≤ 4611686018427387904))))))], [(4, .box 28 (vV2 t2_2)), (6, .box 2 [.p (i6 (a2))]), (9, .box 29 [.own 22]), (22, rI 2 (x6_1_1.set x6.toNat ((-1))))], ⟨[], false⟩, [[(1, .p (sI t3_2)), (3, .p (.s (.int .u8 a3))), (4, .ptr 4 0), (6, .ptr 6 0), (9, .ptr 9 0), (25, .p (.fn 87 [.rop ([i6 (t5_2.N), sW t5_2.Words])]))]]⟩ (And.intro (Bl b249_2) (trivial)) (by kernel_rfl) (hk ((decide (a2 ≤ 4611686018427387904))) (by first | (rw [b249_2]; rfl) | simp [b249_2]))
        · exact WC.reg hn [(2, .val (.p (bo (false))))] [6, 9, 10, 35] [4, 6, 9, 22] ⟨[(6, .ptr 6 0), (9, .ptr 9 0), (10, .p (i6 (x6))), (35, .p (bo (false)))], [(4, .box 28 (vV2 t2_2)), (6, .box 2 [.p (i6 (a2))]), (9, .box 29 [.own 22]), (22, rI 2 (x6_1_1.set x6.toNat ((-1))))], ⟨[], false⟩, [[(1, .p (sI t3_2)), (3, .p (.s (.int .u8 a3))), (4, .ptr 4 0), (6, .ptr 6 0), (9, .ptr 9 0), (25, .p (.fn 87 [.rop ([i6 (t5_2.N), sW t5_2.Words])]))]]⟩ (And.intro (Bl b249_2) (trivial)) (by kernel_rfl) (hk false (by first | (rw [b249_2]; rfl) | simp [b249_2]))
      rcases if_or h with ⟨c250, h⟩ | ⟨c250, h⟩
      · refine WC.condT c250 (by kernel_rfl) ?_
        obtain ⟨t251_2, h251_1, h⟩ := bind_some h
        refine WC.r1 hn [(3, .val (.ptr 22 (x6.toNat * 1))), (4, .sto 22 (rI 2 ((x6_1_1.set x6.toNat ((-1))).set x6.toNat a2)))] [] [4, 6, 9, 22] ⟨[], [(4, .box 28 (vV2 t2_2)), (6, .box 2 [.p (i6 (a2))]), (9, .box 29 [.own 22]), (22, rI 2 ((x6_1_1.set x6.toNat ((-1))).set x6.toNat a2))], ⟨[], false⟩, [[(1, .p (sI t3_2)), (3, .p (.s (.int .u8 a3))), (4, .ptr 4 0), (6, .ptr 6 0), (9, .ptr 9 0), (25, .p (.fn 87 [.rop ([i6 (t5_2.N), sW t5_2.Words])]))]]⟩ (And.intro (IxO 22 1 h251_1) (And.intro (StO0 (eI .i64) 22 2 1 1 [i6 (a2)] a2 h251_1 rfl rfl (by decide)) (trivial))) ?_
        refine WX.popBlk ?_
        exact WC.keep [] [4, 6, 9, 22] (by kernel_rfl) (hJ243 ((x6_1_1.set x6.toNat ((-1))).set x6.toNat a2) h)
      · refine WC.condF c250 (by kernel_rfl) ?_
        refine WX.skip ?_
        refine WX.popBlk ?_
        exact WC.keep [] [4, 6, 9, 22] (by kernel_rfl) (hJ243 (x6_1_1.set x6.toNat ((-1))) h)
theorem starts_Next_okP {k : Nat} {a0 : api_Nfa} {a1 : (List Int)} {a2 : Int} {a3 : Int} {r : (List Int)} (h : starts_Next k a0 a1 a2 a3 = some r) : Ans Tryd.prog 16 [pP2 a0, sI a1, i6 (a2), .s (.int .u8 a3)] (sI r) := AnsO.ans (args := [pP2 a0, sI a1, i6 (a2), .s (.int .u8 a3)]) (starts_Next_ok h) (by kernel_rfl)
def bits_Has (a0 : api_Bits) (a1 : Int) : Option (Bool) :=
  (bits_Check a0).bind fun t2_2 => ((if (t2_2 == 0) = true then (if (decide (a1 ≥ 0)) = true then (if (decide (a1 < a0.N)) = true then (at_ a0.Words ((IntKind.i64.wrap (a1.tdiv 64)))).bind fun t2_4 => (if ¬ (a1.tmod 64) < 0 then some (((bits .and .u64 ((t2_4.fdiv (2 ^ (min ((a1.tmod 64)).toNat IntKind.u64.bits)))) 1) == 1)) else none) else some false) else some false) else some false) : Option (Bool)).bind fun v2 => some v2
theorem bits_Has_ok {a0 : api_Bits} {a1 : Int} {r : Bool} (h : bits_Has a0 a1 = some r) : Ans Tryd.prog 58 [pP5 a0, i6 (a1)] (bo (r)) := by
  refine W_fn Tryd.func58 rfl (by kernel_rfl) (by kernel_rfl) ?_
  intro X hro hn
  unfold bits_Has at h
  refine WC.rg hn [] [1, 2] [2] ⟨[(1, .p (i6 (a1))), (2, .ptr 2 0)], [(2, .box 25 (vV5 a0))], L0, []⟩ trivial ?_
  refine WX.seq ?_
  obtain ⟨t2_2, h2_1, h⟩ := bind_some h
  obtain ⟨m2_1, g2, h⟩ := bind_some h
  refine WC.via (α := Bool) (fun v2 => ⟨[(4, .p (bo (v2)))], [], L0, []⟩) m2_1 (fun hk => ?_) ?_
  · rcases if_or g2 with ⟨b2_3, g2⟩ | ⟨b2_3, g2⟩
    · rcases if_or g2 with ⟨b2_7, g2⟩ | ⟨b2_7, g2⟩
      · rcases if_or g2 with ⟨b2_13, g2⟩ | ⟨b2_13, g2⟩
        · obtain ⟨t2_4, h2_3, g2⟩ := bind_some g2
          obtain ⟨c2_5, g2⟩ := if_some g2
          exact WC.reg hn [(1, .resP (i6 (t2_2))), (3, .val (.p (bo (true)))), (7, .val (.p (bo (true)))), (13, .val (.p (bo (true)))), (18, .val (.p (.rop ((eI .u64).cells t2_4 ++ encL (eI .u64) (a0.Words.drop (((IntKind.i64.wrap (a1.tdiv 64))).toNat + 1)))))), (22, .val (.p (u6 ((t2_4.fdiv (2 ^ (min ((a1.tmod 64)).toNat IntKind.u64.bits)))))))] [4] [] ⟨[(4, .p (bo ((((bits .and .u64 ((t2_4.fdiv (2 ^ (min ((a1.tmod 64)).toNat IntKind.u64.bits)))) 1) == 1)))))], [], L0, []⟩ (And.intro ((bits_Check_ok h2_1)) (And.intro (Bl b2_3) (And.intro (Bl b2_7) (And.intro (Bl b2_13) (And.intro (Ix (eI .u64) h2_3) (And.intro (Shr .u64 t2_4 ((a1.tmod 64)) c2_5) (trivial))))))) (by kernel_rfl) (hk (((bits .and .u64 ((t2_4.fdiv (2 ^ (min ((a1.tmod 64)).toNat IntKind.u64.bits)))) 1) == 1)) (Option.some.inj g2))
        · exact WC.reg hn [(1, .resP (i6 (t2_2))), (3, .val (.p (bo (true)))), (7, .val (.p (bo (true)))), (13, .val (.p (bo (false))))] [4] [] ⟨[(4, .p (bo (false)))], [], L0, []⟩ (And.intro ((bits_Check_ok h2_1)) (And.intro (Bl b2_3) (And.intro (Bl b2_7) (And.intro (Bl b2_13) (trivial))))) (by kernel_rfl) (hk false (Option.some.inj g2))
      · exact WC.reg hn [(1, .resP (i6 (t2_2))), (3, .val (.p (bo (true)))), (7, .val (.p (bo (false))))] [4] [] ⟨[(4, .p (bo (false)))], [], L0, []⟩ (And.intro ((bits_Check_ok h2_1)) (And.intro (Bl b2_3) (And.intro (Bl b2_7) (trivial)))) (by kernel_rfl) (hk false (Option.some.inj g2))
    · exact WC.reg hn [(1, .resP (i6 (t2_2))), (3, .val (.p (bo (false))))] [4] [] ⟨[(4, .p (bo (false)))], [], L0, []⟩ (And.intro ((bits_Check_ok h2_1)) (And.intro (Bl b2_3) (trivial))) (by kernel_rfl) (hk false (Option.some.inj g2))
  refine WX.ret ?_
  exact WC.outP (by rw [← Option.some.inj h]; kernel_rfl)
def starts_Least_l0 (t3_2 : api_Nfa) (t5_2 : (List Int)) (J6 : Int → Option (Int)) : Nat → (Int × Int) → Option (Int)
  | 0, _ => none
  | k + 1, (x25_1_1, x25_1_2) => (if (decide (x25_1_2 < (t5_2.length : Int))) = true then (at_ t5_2 x25_1_2).bind fun t44_2 => (bits_Has t3_2.Last x25_1_2).bind fun t45_2 => (if (!t45_2) = true then starts_Least_l0 t3_2 t5_2 J6 k (x25_1_1, (IntKind.i64.wrap (x25_1_2 + 1))) else (starts_lesser x25_1_1 t44_2).bind fun t48_2 => starts_Least_l0 t3_2 t5_2 J6 k (t48_2, (IntKind.i64.wrap (x25_1_2 + 1)))) else J6 x25_1_1)
def starts_Least (k : Nat) (a0 : api_Nfa) (a1 : (List Int)) : Option (Int) :=
  (starts_may k a0).bind fun t3_2 => (starts_state k t3_2 a1).bind fun t5_2 => jn (fun (v6 : Int) => some v6) fun J6 => starts_Least_l0 t3_2 t5_2 J6 k ((-1), 0)
theorem starts_Least_ok {k : Nat} {a0 : api_Nfa} {a1 : (List Int)} {r : Int} (h : starts_Least k a0 a1 = some r) : Ans Tryd.prog 23 [pP2 a0, sI a1] (i6 (r)) := by
  refine W_fn Tryd.func23 rfl (by kernel_rfl) (by kernel_rfl) ?_
  intro X hro hn
  unfold starts_Least at h
  refine WC.rg hn [] [1, 2] [2] ⟨[(1, .p (sI a1)), (2, .ptr 2 0)], [(2, .box 28 (vV2 a0))], L0, []⟩ trivial ?_
  refine WC.scope (fun K2 hsc2 => ?_)
  refine WX.seq ?_
  obtain ⟨t3_2, h3_1, h⟩ := bind_some h
  refine WC.r1 hn [(1, .resP (pP2 t3_2))] [1, 2] [2] ⟨[(1, .p (sI a1)), (2, .ptr 2 0)], [(2, .box 28 (vV2 t3_2))], L0, []⟩ (And.intro ((starts_may_ok h3_1)) (trivial)) ?_
  refine WC.rg hn [] [1, 2, 5] [2] ⟨[(1, .p (sI a1)), (2, .ptr 2 0), (5, .p (i6 (((-1)))))], [(2, .box 28 (vV2 t3_2))], L0, []⟩ trivial ?_
  refine WX.seq ?_
  refine WX.label ?_
  refine WX.seq ?_
  refine WX.seq ?_
  obtain ⟨t5_2, h5_1, h⟩ := bind_some h
  refine WC.r1 hn [(2, .resP (sI t5_2))] [2, 5, 12, 13, 14] [2] ⟨[(2, .ptr 2 0), (5, .p (i6 (((-1))))), (12, .p (sI t5_2)), (13, .p (i6 (((t5_2.length : Int))))), (14, .p (i6 (0)))], [(2, .box 28 (vV2 t3_2))], L0, []⟩ (And.intro ((starts_state_ok h5_1)) (trivial)) ?_
  obtain ⟨J6, eJ6, h⟩ := jn_some h
  try dsimp only at h
  refine WC.join (α := Int) (fun v6 => ⟨[(5, .p (i6 (v6)))], [], L0, []⟩) (fun v6 => J6 v6 = some r) ?_ (fun hJ6 => ?_)
  · rintro y6_1 h
    rw [eJ6] at h
    try dsimp only at h
    refine WC.rg hn [] [4] [] ⟨[(4, .p (i6 (y6_1)))], [], L0, []⟩ trivial ?_
    refine WX.ret ?_
    refine WC.ret_all (hsc2 _ _ (fun _ h => by cases h) ?_)
    exact WC.outP (by rw [← Option.some.inj h]; kernel_rfl)
  · replace hJ6 := fun y6_1 => hJ6 y6_1
    refine WX.block ?_
    refine WC.loop (V := Int × Int) (starts_Least_l0 t3_2 t5_2 J6) r (fun v25 => ⟨[(2, .ptr 2 0), (5, .p (i6 (v25.1))), (12, .p (sI t5_2)), (13, .p (i6 (((t5_2.length : Int))))), (14, .p (i6 (v25.2)))], [(2, .box 28 (vV2 t3_2))], L0, []⟩) _ ((-1), 0) h (fun _ => rfl) [2, 5, 12, 13, 14] [2] (by kernel_rfl) ?_
    clear h; rintro k ⟨x25_1_1, x25_1_2⟩ h K25 hnext25 hexit25
    rw [starts_Least_l0] at h
    refine WC.rg hn [] [2, 5, 12, 13, 14, 15] [2] ⟨[(2, .ptr 2 0), (5, .p (i6 (x25_1_1))), (12, .p (sI t5_2)), (13, .p (i6 (((t5_2.length : Int))))), (14, .p (i6 (x25_1_2))), (15, .p (bo (((decide (x25_1_2 < (t5_2.length : Int)))))))], [(2, .box 28 (vV2 t3_2))], L0, []⟩ trivial ?_
    refine WX.seq ?_
    rcases if_or h with ⟨c43, h⟩ | ⟨c43, h⟩
    · refine WC.condT c43 (by kernel_rfl) ?_
      refine WX.skip ?_
      refine WX.seq ?_
      refine WX.block ?_
      refine WX.seq ?_
      obtain ⟨t44_2, h44_1, h⟩ := bind_some h
      refine WC.r1 hn [(1, .val (.p (.rop ((eI .i64).cells t44_2 ++ encL (eI .i64) (t5_2.drop (x25_1_2.toNat + 1))))))] [2, 5, 6, 7, 12, 13, 14] [2] ⟨[(2, .ptr 2 0), (5, .p (i6 (x25_1_1))), (6, .p (i6 (x25_1_2))), (7, .p (i6 (t44_2))), (12, .p (sI t5_2)), (13, .p (i6 (((t5_2.length : Int))))), (14, .p (i6 (x25_1_2)))], [(2, .box 28 (vV2 t3_2))], L0, []⟩ (And.intro (Ix (eI .i64) h44_1) (trivial)) ?_
      refine WX.seq ?_
      refine WX.seq ?_
      obtain ⟨t45_2, h45_1, h⟩ := bind_some h
      refine WC.r1 hn [(3, .resP (bo (t45_2)))] [2, 5, 7, 12, 13, 14, 23] [2] ⟨[(2, .ptr 2 0), (5, .p (i6 (x25_1_1))), (7, .p (i6 (t44_2))), (12, .p (sI t5_2)), (13, .p (i6 (((t5_2.length : Int))))), (14, .p (i6 (x25_1_2))), (23, .p (bo (((!t45_2)))))], [(2, .box 28 (vV2 t3_2))], L0, []⟩ (And.intro ((bits_Has_ok h45_1)) (trivial)) ?_
      rcases if_or h with ⟨c46, h⟩ | ⟨c46, h⟩
      · refine WC.condT c46 (by kernel_rfl) ?_
        refine WX.exit ?_
        refine WX.popCodeExit ?_
        refine WX.popBlkHit ?_
        refine WC.r1 hn [] [2, 5, 12, 13, 14] [2] ⟨[(2, .ptr 2 0), (5, .p (i6 (x25_1_1))), (12, .p (sI t5_2)), (13, .p (i6 (((t5_2.length : Int))))), (14, .p (i6 (((IntKind.i64.wrap (x25_1_2 + 1))))))], [(2, .box 28 (vV2 t3_2))], L0, []⟩ trivial ?_
        exact WC.next [2, 5, 12, 13, 14] [2] (by kernel_rfl) (hnext25 (x25_1_1, (IntKind.i64.wrap (x25_1_2 + 1))) h)
      · refine WC.condF c46 (by kernel_rfl) ?_
        refine WX.skip ?_
        obtain ⟨t48_2, h48_1, h⟩ := bind_some h
        refine WC.r1 hn [(2, .resP (i6 (t48_2)))] [2, 5, 12, 13, 14] [2] ⟨[(2, .ptr 2 0), (5, .p (i6 (t48_2))), (12, .p (sI t5_2)), (13, .p (i6 (((t5_2.length : Int))))), (14, .p (i6 (x25_1_2)))], [(2, .box 28 (vV2 t3_2))], L0, []⟩ (And.intro ((starts_lesser_ok h48_1)) (trivial)) ?_
        refine WX.popBlk ?_
        refine WC.r1 hn [] [2, 5, 12, 13, 14] [2] ⟨[(2, .ptr 2 0), (5, .p (i6 (t48_2))), (12, .p (sI t5_2)), (13, .p (i6 (((t5_2.length : Int))))), (14, .p (i6 (((IntKind.i64.wrap (x25_1_2 + 1))))))], [(2, .box 28 (vV2 t3_2))], L0, []⟩ trivial ?_
        exact WC.next [2, 5, 12, 13, 14] [2] (by kernel_rfl) (hnext25 (t48_2, (IntKind.i64.wrap (x25_1_2 + 1))) h)
    · refine WC.condF c43 (by kernel_rfl) ?_
      refine WX.exit ?_
      refine WX.popCodeExit ?_
      refine WC.exit_nil (hexit25 _ _ (by simp) ?_)
      refine WX.popBlkHit ?_
      exact WC.keep [5] [] (by kernel_rfl) (hJ6 x25_1_1 h)
def starts_Events (k : Nat) (a0 : api_Nfa) (a1 : (List Int)) (a2 : Bool) (a3 : Bool) : Option ((api_Nfa × (List Int) × Bool × Bool)) :=
  (starts_may k a0).bind fun t2_2 => some ((t2_2, a1, a2, a3))
theorem starts_Events_ok {k : Nat} {a0 : api_Nfa} {a1 : (List Int)} {a2 : Bool} {a3 : Bool} {r : (api_Nfa × (List Int) × Bool × Bool)} (h : starts_Events k a0 a1 a2 a3 = some r) : Ans Tryd.prog 33 [pP2 a0, slV (eI .u8) a1, bo (a2), bo (a3)] (.fn 66 [.rop ([sC r.1.Classes, i6 (r.1.First.N), sW r.1.First.Words, i6 (r.1.Last.N), sW r.1.Last.Words, sB r.1.Follow, bo (r.1.Null)]), .rop ([slV (eI .u8) r.2.1]), .rop ([bo (r.2.2.1)]), .rop ([bo (r.2.2.2)])]) := by
  refine W_fn Tryd.func33 rfl (by kernel_rfl) (by kernel_rfl) ?_
  intro X hro hn
  unfold starts_Events at h
  refine WC.rg hn [] [4, 5, 6, 7] [4, 5, 6, 7] ⟨[(4, .ptr 4 0), (5, .ptr 5 0), (6, .ptr 6 0), (7, .ptr 7 0)], [(4, .box 28 (vV2 a0)), (5, .box 30 [.p (slV (eI .u8) a1)]), (6, .box 4 [.p (bo (a2))]), (7, .box 4 [.p (bo (a3))])], L0, []⟩ trivial ?_
  refine WX.seq ?_
  obtain ⟨t2_2, h2_1, h⟩ := bind_some h
  refine WC.r1 hn [(1, .resP (pP2 t2_2))] [4, 5, 6, 7] [4, 5, 6, 7] ⟨[(4, .ptr 4 0), (5, .ptr 5 0), (6, .ptr 6 0), (7, .ptr 7 0)], [(4, .box 28 (vV2 t2_2)), (5, .box 30 [.p (slV (eI .u8) a1)]), (6, .box 4 [.p (bo (a2))]), (7, .box 4 [.p (bo (a3))])], L0, []⟩ (And.intro ((starts_may_ok h2_1)) (trivial)) ?_
  refine WC.rg hn [] [8] [4, 5, 6, 7] ⟨[(8, .fn 66 [.ptr 4 0, .ptr 5 0, .ptr 6 0, .ptr 7 0])], [(4, .box 28 (vV2 t2_2)), (5, .box 30 [.p (slV (eI .u8) a1)]), (6, .box 4 [.p (bo (a2))]), (7, .box 4 [.p (bo (a3))])], L0, []⟩ trivial ?_
  refine WX.ret ?_
  exact WC.outP (by rw [← Option.some.inj h]; kernel_rfl)
def starts_Events_1_v1_l0 (a1 : api_Nfa) (a2 : (List Int)) (a3 : Bool) (a4 : Bool) : Nat → (List Int × Int) → Option (List (Int × Int))
  | 0, _ => none
  | k + 1, (x4_1_1, x4_1_2) => (if (decide (x4_1_2 < (a2.length : Int))) = true then (at_ a2 x4_1_2).bind fun t34_2 => ((if a3 = true then (if (decide (x4_1_2 > 0)) = true then (if a4 = true then (at_ a2 ((IntKind.i64.wrap (x4_1_2 - 1)))).bind fun t36_2 => some ((!((t36_2 == 10)))) else some true) else some false) else some false) : Option (Bool)).bind fun v36 => (if v36 = true then (starts_Next k a1 x4_1_1 ((-1)) t34_2).bind fun t39_2 => (starts_Least k a1 t39_2).bind fun t40_2 => (if (decide (t40_2 ≥ 0)) = true then (starts_Events_1_v1_l0 a1 a2 a3 a4 k (t39_2, (IntKind.i64.wrap (x4_1_2 + 1)))).map (((IntKind.i64.wrap (x4_1_2 + 1)), t40_2) :: ·) else starts_Events_1_v1_l0 a1 a2 a3 a4 k (t39_2, (IntKind.i64.wrap (x4_1_2 + 1)))) else (starts_Next k a1 x4_1_1 x4_1_2 t34_2).bind fun t44_2 => (starts_Least k a1 t44_2).bind fun t45_2 => (if (decide (t45_2 ≥ 0)) = true then (starts_Events_1_v1_l0 a1 a2 a3 a4 k (t44_2, (IntKind.i64.wrap (x4_1_2 + 1)))).map (((IntKind.i64.wrap (x4_1_2 + 1)), t45_2) :: ·) else starts_Events_1_v1_l0 a1 a2 a3 a4 k (t44_2, (IntKind.i64.wrap (x4_1_2 + 1))))) else some [])
def starts_Events_1_v1 (k : Nat) (a1 : api_Nfa) (a2 : (List Int)) (a3 : Bool) (a4 : Bool) : Option (List (Int × Int)) :=
  (starts_None k a1).bind fun t2_2 => starts_Events_1_v1_l0 a1 a2 a3 a4 k (t2_2, 0)
theorem starts_Events_1_v1_it {k : Nat} {a1 : api_Nfa} {a2 : (List Int)} {a3 : Bool} {a4 : Bool} {r : List (Int × Int)} (h : starts_Events_1_v1 k a1 a2 a3 a4 = some r) : Iter Tryd.prog 66 [.rop ([sC a1.Classes, i6 (a1.First.N), sW a1.First.Words, i6 (a1.Last.N), sW a1.Last.Words, sB a1.Follow, bo (a1.Null)]), .rop ([slV (eI .u8) a2]), .rop ([bo (a3)]), .rop ([bo (a4)])] (r.map (fun x : Int × Int => ([.int .i64 x.1, .int .i64 x.2] : List Value))) := by
  refine W_it Tryd.func66 rfl (by kernel_rfl) (Nat.le_of_ble_eq_true (by kernel_rfl)) ?_
  intro X hro hn hY
  obtain ⟨L, hLe⟩ : ∃ L, L = r.map (fun x : Int × Int => ([.int .i64 x.1, .int .i64 x.2] : List Value)) := ⟨_, rfl⟩
  rw [← hLe] at hY ⊢
  have hL : ([] : List (List Value)) ++ r.map (fun x : Int × Int => ([.int .i64 x.1, .int .i64 x.2] : List Value)) = L := by rw [hLe]; rfl
  clear hLe
  unfold starts_Events_1_v1 at h
  refine WC.scope (fun K1 hsc1 => ?_)
  refine WX.seq ?_
  obtain ⟨t2_2, h2_1, h⟩ := bind_some h
  refine WC.r1 hn [(1, .co [] [] [] [(12, rI 2 t2_2)] (.own 12))] [0, 1, 2, 3, 4, 6] [12] ⟨[(0, .yield), (1, .p (.rop ([sC a1.Classes, i6 (a1.First.N), sW a1.First.Words, i6 (a1.Last.N), sW a1.Last.Words, sB a1.Follow, bo (a1.Null)]))), (2, .p (.rop ([slV (eI .u8) a2]))), (3, .p (.rop ([bo (a3)]))), (4, .p (.rop ([bo (a4)]))), (6, .own 12)], [(12, rI 2 t2_2)], ⟨([] : List (List Value)), false⟩, []⟩ (And.intro (And.intro ((starts_None_ok h2_1).ren 8 12 (by kernel_rfl)) (trivial)) (trivial)) ?_
  refine WX.seq ?_
  refine WX.label ?_
  refine WC.rg hn [] [0, 1, 2, 3, 4, 6, 13, 14, 15] [12] ⟨[(0, .yield), (1, .p (.rop ([sC a1.Classes, i6 (a1.First.N), sW a1.First.Words, i6 (a1.Last.N), sW a1.Last.Words, sB a1.Follow, bo (a1.Null)]))), (2, .p (.rop ([slV (eI .u8) a2]))), (3, .p (.rop ([bo (a3)]))), (4, .p (.rop ([bo (a4)]))), (6, .own 12), (13, .p (slV (eI .u8) a2)), (14, .p (i6 (((a2.length : Int))))), (15, .p (i6 (0)))], [(12, rI 2 t2_2)], ⟨([] : List (List Value)), false⟩, []⟩ trivial ?_
  refine WX.block ?_
  refine WC.loop (V := List Int × Int × List (List Value)) (fun k v4 => (starts_Events_1_v1_l0 a1 a2 a3 a4 k (v4.1, v4.2.1)).map fun r => v4.2.2 ++ r.map (fun x : Int × Int => ([.int .i64 x.1, .int .i64 x.2] : List Value))) L (fun v4 => ⟨[(0, .yield), (1, .p (.rop ([sC a1.Classes, i6 (a1.First.N), sW a1.First.Words, i6 (a1.Last.N), sW a1.Last.Words, sB a1.Follow, bo (a1.Null)]))), (2, .p (.rop ([slV (eI .u8) a2]))), (3, .p (.rop ([bo (a3)]))), (4, .p (.rop ([bo (a4)]))), (6, .own 12), (13, .p (slV (eI .u8) a2)), (14, .p (i6 (((a2.length : Int))))), (15, .p (i6 (v4.2.1)))], [(12, rI 2 v4.1)], ⟨v4.2.2, false⟩, []⟩) _ (t2_2, 0, ([] : List (List Value))) (by rw [h]; exact congrArg some hL) (fun _ => rfl) [0, 1, 2, 3, 4, 6, 13, 14, 15] [12] (by kernel_rfl) ?_
  clear h hL; rintro k ⟨x4_1_1, x4_1_2, x4_1_3⟩ h K4 hnext4 hexit4
  obtain ⟨r, h, hL⟩ := mapO_some h
  dsimp only at h hL
  rw [starts_Events_1_v1_l0] at h
  refine WC.rg hn [] [0, 1, 2, 3, 4, 6, 13, 14, 15, 16] [12] ⟨[(0, .yield), (1, .p (.rop ([sC a1.Classes, i6 (a1.First.N), sW a1.First.Words, i6 (a1.Last.N), sW a1.Last.Words, sB a1.Follow, bo (a1.Null)]))), (2, .p (.rop ([slV (eI .u8) a2]))), (3, .p (.rop ([bo (a3)]))), (4, .p (.rop ([bo (a4)]))), (6, .own 12), (13, .p (slV (eI .u8) a2)), (14, .p (i6 (((a2.length : Int))))), (15, .p (i6 (x4_1_2))), (16, .p (bo (((decide (x4_1_2 < (a2.length : Int)))))))], [(12, rI 2 x4_1_1)], ⟨x4_1_3, false⟩, []⟩ trivial ?_
  refine WX.seq ?_
  rcases if_or h with ⟨c33, h⟩ | ⟨c33, h⟩
  · refine WC.condT c33 (by kernel_rfl) ?_
    refine WX.skip ?_
    refine WX.seq ?_
    refine WX.block ?_
    refine WX.seq ?_
    obtain ⟨t34_2, h34_1, h⟩ := bind_some h
    refine WC.r1 hn [(1, .val (.p (.rop ((eI .u8).cells t34_2 ++ encL (eI .u8) (a2.drop (x4_1_2.toNat + 1))))))] [0, 1, 2, 3, 4, 6, 7, 8, 13, 14, 15] [12] ⟨[(0, .yield), (1, .p (.rop ([sC a1.Classes, i6 (a1.First.N), sW a1.First.Words, i6 (a1.Last.N), sW a1.Last.Words, sB a1.Follow, bo (a1.Null)]))), (2, .p (.rop ([slV (eI .u8) a2]))), (3, .p (.rop ([bo (a3)]))), (4, .p (.rop ([bo (a4)]))), (6, .own 12), (7, .p (i6 (x4_1_2))), (8, .p (.s (.int .u8 t34_2))), (13, .p (slV (eI .u8) a2)), (14, .p (i6 (((a2.length : Int))))), (15, .p (i6 (x4_1_2)))], [(12, rI 2 x4_1_1)], ⟨x4_1_3, false⟩, []⟩ (And.intro (Ix (eI .u8) h34_1) (trivial)) ?_
    refine WC.rg hn [] [0, 1, 2, 3, 4, 6, 7, 8, 9, 13, 14, 15] [12] ⟨[(0, .yield), (1, .p (.rop ([sC a1.Classes, i6 (a1.First.N), sW a1.First.Words, i6 (a1.Last.N), sW a1.Last.Words, sB a1.Follow, bo (a1.Null)]))), (2, .p (.rop ([slV (eI .u8) a2]))), (3, .p (.rop ([bo (a3)]))), (4, .p (.rop ([bo (a4)]))), (6, .own 12), (7, .p (i6 (x4_1_2))), (8, .p (.s (.int .u8 t34_2))), (9, .p (i6 (x4_1_2))), (13, .p (slV (eI .u8) a2)), (14, .p (i6 (((a2.length : Int))))), (15, .p (i6 (x4_1_2)))], [(12, rI 2 x4_1_1)], ⟨x4_1_3, false⟩, []⟩ trivial ?_
    refine WX.seq ?_
    refine WX.seq ?_
    obtain ⟨m36_1, g36, h⟩ := bind_some h
    refine WC.via (α := Bool) (fun v36 => ⟨[(0, .yield), (1, .p (.rop ([sC a1.Classes, i6 (a1.First.N), sW a1.First.Words, i6 (a1.Last.N), sW a1.Last.Words, sB a1.Follow, bo (a1.Null)]))), (2, .p (.rop ([slV (eI .u8) a2]))), (3, .p (.rop ([bo (a3)]))), (4, .p (.rop ([bo (a4)]))), (6, .own 12), (7, .p (i6 (x4_1_2))), (8, .p (.s (.int .u8 t34_2))), (9, .p (i6 (x4_1_2))), (13, .p (slV (eI .u8) a2)), (14, .p (i6 (((a2.length : Int))))), (15, .p (i6 (x4_1_2))), (37, .p (bo (v36)))], [(12, rI 2 x4_1_1)], ⟨x4_1_3, false⟩, []⟩) m36_1 (fun hk => ?_) ?_
    · rcases if_or g36 with ⟨b36_1, g36⟩ | ⟨b36_1, g36⟩
      · rcases if_or g36 with ⟨b36_5, g36⟩ | ⟨b36_5, g36⟩
        · rcases if_or g36 with ⟨b36_7, g36⟩ | ⟨b36_7, g36⟩
          · obtain ⟨t36_2, h36_1, g36⟩ := bind_some g36
            exact WC.reg hn [(1, .val (.p (bo (true)))), (5, .val (.p (bo (true)))), (7, .val (.p (bo (true)))), (11, .val (.p (.rop ((eI .u8).cells t36_2 ++ encL (eI .u8) (a2.drop (((IntKind.i64.wrap (x4_1_2 - 1))).toNat + 1))))))] [0, 1, 2, 3, 4, 6, 7, 8, 9, 13, 14, 15, 37] [12] ⟨[(0, .yield), (1, .p (.rop ([sC a1.Classes, i6 (a1.First.N), sW a1.First.Words, i6 (a1.Last.N), sW a1.Last.Words, sB a1.Follow, bo (a1.Null)]))), (2, .p (.rop ([slV (eI .u8) a2]))), (3, .p (.rop ([bo (a3)]))), (4, .p (.rop ([bo (a4)]))), (6, .own 12), (7, .p (i6 (x4_1_2))), (8, .p (.s (.int .u8 t34_2))), (9, .p (i6 (x4_1_2))), (13, .p (slV (eI .u8) a2)), (14, .p (i6 (((a2.length : Int))))), (15, .p (i6 (x4_1_2))), (37, .p (bo (((!((t36_2 == 10)))))))], [(12, rI 2 x4_1_1)], ⟨x4_1_3, false⟩, []⟩ (And.intro (Bl b36_1) (And.intro (Bl b36_5) (And.intro (Bl b36_7) (And.intro (Ix (eI .u8) h36_1) (trivial))))) (by kernel_rfl) (hk ((!((t36_2 == 10)))) (Option.some.inj g36))
          · exact WC.reg hn [(1, .val (.p (bo (true)))), (5, .val (.p (bo (true)))), (7, .val (.p (bo (false))))] [0, 1, 2, 3, 4, 6, 7, 8, 9, 13, 14, 15, 37] [12] ⟨[(0, .yield), (1, .p (.rop ([sC a1.Classes, i6 (a1.First.N), sW a1.First.Words, i6 (a1.Last.N), sW a1.Last.Words, sB a1.Follow, bo (a1.Null)]))), (2, .p (.rop ([slV (eI .u8) a2]))), (3, .p (.rop ([bo (a3)]))), (4, .p (.rop ([bo (a4)]))), (6, .own 12), (7, .p (i6 (x4_1_2))), (8, .p (.s (.int .u8 t34_2))), (9, .p (i6 (x4_1_2))), (13, .p (slV (eI .u8) a2)), (14, .p (i6 (((a2.length : Int))))), (15, .p (i6 (x4_1_2))), (37, .p (bo (true)))], [(12, rI 2 x4_1_1)], ⟨x4_1_3, false⟩, []⟩ (And.intro (Bl b36_1) (And.intro (Bl b36_5) (And.intro (Bl b36_7) (trivial)))) (by kernel_rfl) (hk true (Option.some.inj g36))
        · exact WC.reg hn [(1, .val (.p (bo (true)))), (5, .val (.p (bo (false))))] [0, 1, 2, 3, 4, 6, 7, 8, 9, 13, 14, 15, 37] [12] ⟨[(0, .yield), (1, .p (.rop ([sC a1.Classes, i6 (a1.First.N), sW a1.First.Words, i6 (a1.Last.N), sW a1.Last.Words, sB a1.Follow, bo (a1.Null)]))), (2, .p (.rop ([slV (eI .u8) a2]))), (3, .p (.rop ([bo (a3)]))), (4, .p (.rop ([bo (a4)]))), (6, .own 12), (7, .p (i6 (x4_1_2))), (8, .p (.s (.int .u8 t34_2))), (9, .p (i6 (x4_1_2))), (13, .p (slV (eI .u8) a2)), (14, .p (i6 (((a2.length : Int))))), (15, .p (i6 (x4_1_2))), (37, .p (bo (false)))], [(12, rI 2 x4_1_1)], ⟨x4_1_3, false⟩, []⟩ (And.intro (Bl b36_1) (And.intro (Bl b36_5) (trivial))) (by kernel_rfl) (hk false (Option.some.inj g36))
      · exact WC.reg hn [(1, .val (.p (bo (false))))] [0, 1, 2, 3, 4, 6, 7, 8, 9, 13, 14, 15, 37] [12] ⟨[(0, .yield), (1, .p (.rop ([sC a1.Classes, i6 (a1.First.N), sW a1.First.Words, i6 (a1.Last.N), sW a1.Last.Words, sB a1.Follow, bo (a1.Null)]))), (2, .p (.rop ([slV (eI .u8) a2]))), (3, .p (.rop ([bo (a3)]))), (4, .p (.rop ([bo (a4)]))), (6, .own 12), (7, .p (i6 (x4_1_2))), (8, .p (.s (.int .u8 t34_2))), (9, .p (i6 (x4_1_2))), (13, .p (slV (eI .u8) a2)), (14, .p (i6 (((a2.length : Int))))), (15, .p (i6 (x4_1_2))), (37, .p (bo (false)))], [(12, rI 2 x4_1_1)], ⟨x4_1_3, false⟩, []⟩ (And.intro (Bl b36_1) (trivial)) (by kernel_rfl) (hk false (Option.some.inj g36))
    rcases if_or h with ⟨c37, h⟩ | ⟨c37, h⟩
    · refine WC.condT c37 (by kernel_rfl) ?_
      refine WC.r1 hn [] [0, 1, 2, 3, 4, 6, 7, 8, 9, 13, 14, 15] [12] ⟨[(0, .yield), (1, .p (.rop ([sC a1.Classes, i6 (a1.First.N), sW a1.First.Words, i6 (a1.Last.N), sW a1.Last.Words, sB a1.Follow, bo (a1.Null)]))), (2, .p (.rop ([slV (eI .u8) a2]))), (3, .p (.rop ([bo (a3)]))), (4, .p (.rop ([bo (a4)]))), (6, .own 12), (7, .p (i6 (x4_1_2))), (8, .p (.s (.int .u8 t34_2))), (9, .p (i6 (((-1))))), (13, .p (slV (eI .u8) a2)), (14, .p (i6 (((a2.length : Int))))), (15, .p (i6 (x4_1_2)))], [(12, rI 2 x4_1_1)], ⟨x4_1_3, false⟩, []⟩ trivial ?_
      refine WX.seq ?_
      obtain ⟨t39_2, h39_1, h⟩ := bind_some h
      refine WC.r1 hn [(4, .co [] [] [12] [(42, rI 2 t39_2)] (.own 42))] [0, 1, 2, 3, 4, 6, 7, 13, 14, 15] [42] ⟨[(0, .yield), (1, .p (.rop ([sC a1.Classes, i6 (a1.First.N), sW a1.First.Words, i6 (a1.Last.N), sW a1.Last.Words, sB a1.Follow, bo (a1.Null)]))), (2, .p (.rop ([slV (eI .u8) a2]))), (3, .p (.rop ([bo (a3)]))), (4, .p (.rop ([bo (a4)]))), (6, .own 42), (7, .p (i6 (x4_1_2))), (13, .p (slV (eI .u8) a2)), (14, .p (i6 (((a2.length : Int))))), (15, .p (i6 (x4_1_2)))], [(42, rI 2 t39_2)], ⟨x4_1_3, false⟩, []⟩ (And.intro (And.intro ((starts_Next_ok h39_1).ren 22 42 (by kernel_rfl)) (And.intro (rfl : (.own 42 : AV).flat = true) (And.intro (flats_encL (eI .i64) (fun _ => rfl) t39_2) (trivial)))) (trivial)) ?_
      refine WX.seq ?_
      obtain ⟨t40_2, h40_1, h⟩ := bind_some h
      refine WC.r1 hn [(2, .res (i6 (t40_2)))] [0, 1, 2, 3, 4, 6, 7, 10, 13, 14, 15] [42] ⟨[(0, .yield), (1, .p (.rop ([sC a1.Classes, i6 (a1.First.N), sW a1.First.Words, i6 (a1.Last.N), sW a1.Last.Words, sB a1.Follow, bo (a1.Null)]))), (2, .p (.rop ([slV (eI .u8) a2]))), (3, .p (.rop ([bo (a3)]))), (4, .p (.rop ([bo (a4)]))), (6, .own 42), (7, .p (i6 (x4_1_2))), (10, .p (i6 (t40_2))), (13, .p (slV (eI .u8) a2)), (14, .p (i6 (((a2.length : Int))))), (15, .p (i6 (x4_1_2)))], [(42, rI 2 t39_2)], ⟨x4_1_3, false⟩, []⟩ (And.intro (And.intro (starts_Least_ok h40_1) (rfl : (i6 (t40_2) : PV).flat = true)) (trivial)) ?_
      refine WX.seq ?_
      rcases if_or h with ⟨b41_2, h⟩ | ⟨b41_2, h⟩
      · obtain ⟨r41, hh41, hr41⟩ := mapO_some h
        subst hr41
        replace h := hh41
        refine WC.yld hn hY 7 [(2, .val (.p (bo (true))))] [0, 1, 2, 3, 4, 6, 13, 14, 15, 55] [42] (⟨[(0, .yield), (1, .p (.rop ([sC a1.Classes, i6 (a1.First.N), sW a1.First.Words, i6 (a1.Last.N), sW a1.Last.Words, sB a1.Follow, bo (a1.Null)]))), (2, .p (.rop ([slV (eI .u8) a2]))), (3, .p (.rop ([bo (a3)]))), (4, .p (.rop ([bo (a4)]))), (6, .own 42), (13, .p (slV (eI .u8) a2)), (14, .p (i6 (((a2.length : Int))))), (15, .p (i6 (x4_1_2))), (55, .p (bo (false)))], [(42, rI 2 t39_2)], ⟨(x4_1_3 ++ [[.int .i64 ((IntKind.i64.wrap (x4_1_2 + 1))), .int .i64 t40_2]]), false⟩, []⟩) (⟨[(0, .yield), (1, .p (.rop ([sC a1.Classes, i6 (a1.First.N), sW a1.First.Words, i6 (a1.Last.N), sW a1.Last.Words, sB a1.Follow, bo (a1.Null)]))), (2, .p (.rop ([slV (eI .u8) a2]))), (3, .p (.rop ([bo (a3)]))), (4, .p (.rop ([bo (a4)]))), (6, .own 42), (13, .p (slV (eI .u8) a2)), (14, .p (i6 (((a2.length : Int))))), (15, .p (i6 (x4_1_2))), (55, .p (bo (true)))], [(42, rI 2 t39_2)], ⟨(x4_1_3 ++ [[.int .i64 ((IntKind.i64.wrap (x4_1_2 + 1))), .int .i64 t40_2]]), true⟩, []⟩) x4_1_3 [.int .i64 ((IntKind.i64.wrap (x4_1_2 + 1))), .int .i64 t40_2] (And.intro (And.intro (Bl b41_2) (True.intro)) (And.intro True.intro True.intro)) (by kernel_rfl) (pre_ok (val := (fun x : Int × Int => ([.int .i64 x.1, .int .i64 x.2] : List Value))) (x := ((IntKind.i64.wrap (x4_1_2 + 1)), t40_2)) (l := r41) hL) ?_ ?_
        · replace hL : (x4_1_3 ++ [[.int .i64 ((IntKind.i64.wrap (x4_1_2 + 1))), .int .i64 t40_2]]) ++ r41.map (fun x : Int × Int => ([.int .i64 x.1, .int .i64 x.2] : List Value)) = L := by rw [← hL]; simp
          refine WC.condF rfl (by kernel_rfl) ?_
          refine WX.skip ?_
          refine WX.popBlk ?_
          refine WC.r1 hn [] [0, 1, 2, 3, 4, 6, 13, 14, 15] [42] ⟨[(0, .yield), (1, .p (.rop ([sC a1.Classes, i6 (a1.First.N), sW a1.First.Words, i6 (a1.Last.N), sW a1.Last.Words, sB a1.Follow, bo (a1.Null)]))), (2, .p (.rop ([slV (eI .u8) a2]))), (3, .p (.rop ([bo (a3)]))), (4, .p (.rop ([bo (a4)]))), (6, .own 42), (13, .p (slV (eI .u8) a2)), (14, .p (i6 (((a2.length : Int))))), (15, .p (i6 (((IntKind.i64.wrap (x4_1_2 + 1))))))], [(42, rI 2 t39_2)], ⟨(x4_1_3 ++ [[.int .i64 ((IntKind.i64.wrap (x4_1_2 + 1))), .int .i64 t40_2]]), false⟩, []⟩ trivial ?_
          refine WC.ren hn 42 12 (by kernel_rfl) [0, 1, 2, 3, 4, 6, 13, 14, 15] [12] (st' := ⟨[(0, .yield), (1, .p (.rop ([sC a1.Classes, i6 (a1.First.N), sW a1.First.Words, i6 (a1.Last.N), sW a1.Last.Words, sB a1.Follow, bo (a1.Null)]))), (2, .p (.rop ([slV (eI .u8) a2]))), (3, .p (.rop ([bo (a3)]))), (4, .p (.rop ([bo (a4)]))), (6, .own 12), (13, .p (slV (eI .u8) a2)), (14, .p (i6 (((a2.length : Int))))), (15, .p (i6 (((IntKind.i64.wrap (x4_1_2 + 1))))))], [(12, rI 2 t39_2)], ⟨(x4_1_3 ++ [[.int .i64 ((IntKind.i64.wrap (x4_1_2 + 1))), .int .i64 t40_2]]), false⟩, []⟩) (by kernel_rfl) ?_
          exact WC.next [0, 1, 2, 3, 4, 6, 13, 14, 15] [12] (by kernel_rfl) (hnext4 (t39_2, (IntKind.i64.wrap (x4_1_2 + 1)), (x4_1_3 ++ [[.int .i64 ((IntKind.i64.wrap (x4_1_2 + 1))), .int .i64 t40_2]])) (by rw [h]; exact congrArg some hL))
        · refine WC.condT rfl (by kernel_rfl) ?_
          refine WX.exit ?_
          refine WX.popBlkPass (by decide) ?_
          refine WX.popCodeExit ?_
          refine WC.exit_nil (hexit4 _ _ (by simp) ?_)
          refine WX.popBlkHit ?_
          refine WC.exit_nil (hsc1 _ _ (fun _ h => by cases h) ?_)
          exact WC.exit_nil ⟨by kernel_rfl, fun h => by cases h⟩
      · refine WC.r1 hn [(2, .val (.p (bo (false))))] [0, 1, 2, 3, 4, 6, 13, 14, 15, 55] [42] ⟨[(0, .yield), (1, .p (.rop ([sC a1.Classes, i6 (a1.First.N), sW a1.First.Words, i6 (a1.Last.N), sW a1.Last.Words, sB a1.Follow, bo (a1.Null)]))), (2, .p (.rop ([slV (eI .u8) a2]))), (3, .p (.rop ([bo (a3)]))), (4, .p (.rop ([bo (a4)]))), (6, .own 42), (13, .p (slV (eI .u8) a2)), (14, .p (i6 (((a2.length : Int))))), (15, .p (i6 (x4_1_2))), (55, .p (bo (false)))], [(42, rI 2 t39_2)], ⟨x4_1_3, false⟩, []⟩ (And.intro (Bl b41_2) (trivial)) ?_
        refine WC.condF rfl (by kernel_rfl) ?_
        refine WX.skip ?_
        refine WX.popBlk ?_
        refine WC.r1 hn [] [0, 1, 2, 3, 4, 6, 13, 14, 15] [42] ⟨[(0, .yield), (1, .p (.rop ([sC a1.Classes, i6 (a1.First.N), sW a1.First.Words, i6 (a1.Last.N), sW a1.Last.Words, sB a1.Follow, bo (a1.Null)]))), (2, .p (.rop ([slV (eI .u8) a2]))), (3, .p (.rop ([bo (a3)]))), (4, .p (.rop ([bo (a4)]))), (6, .own 42), (13, .p (slV (eI .u8) a2)), (14, .p (i6 (((a2.length : Int))))), (15, .p (i6 (((IntKind.i64.wrap (x4_1_2 + 1))))))], [(42, rI 2 t39_2)], ⟨x4_1_3, false⟩, []⟩ trivial ?_
        refine WC.ren hn 42 12 (by kernel_rfl) [0, 1, 2, 3, 4, 6, 13, 14, 15] [12] (st' := ⟨[(0, .yield), (1, .p (.rop ([sC a1.Classes, i6 (a1.First.N), sW a1.First.Words, i6 (a1.Last.N), sW a1.Last.Words, sB a1.Follow, bo (a1.Null)]))), (2, .p (.rop ([slV (eI .u8) a2]))), (3, .p (.rop ([bo (a3)]))), (4, .p (.rop ([bo (a4)]))), (6, .own 12), (13, .p (slV (eI .u8) a2)), (14, .p (i6 (((a2.length : Int))))), (15, .p (i6 (((IntKind.i64.wrap (x4_1_2 + 1))))))], [(12, rI 2 t39_2)], ⟨x4_1_3, false⟩, []⟩) (by kernel_rfl) ?_
        exact WC.next [0, 1, 2, 3, 4, 6, 13, 14, 15] [12] (by kernel_rfl) (hnext4 (t39_2, (IntKind.i64.wrap (x4_1_2 + 1)), x4_1_3) (by rw [h]; exact congrArg some hL))
    · refine WC.condF c37 (by kernel_rfl) ?_
      refine WX.skip ?_
      refine WX.seq ?_
      obtain ⟨t44_2, h44_1, h⟩ := bind_some h
      refine WC.r1 hn [(4, .co [] [] [12] [(42, rI 2 t44_2)] (.own 42))] [0, 1, 2, 3, 4, 6, 7, 13, 14, 15] [42] ⟨[(0, .yield), (1, .p (.rop ([sC a1.Classes, i6 (a1.First.N), sW a1.First.Words, i6 (a1.Last.N), sW a1.Last.Words, sB a1.Follow, bo (a1.Null)]))), (2, .p (.rop ([slV (eI .u8) a2]))), (3, .p (.rop ([bo (a3)]))), (4, .p (.rop ([bo (a4)]))), (6, .own 42), (7, .p (i6 (x4_1_2))), (13, .p (slV (eI .u8) a2)), (14, .p (i6 (((a2.length : Int))))), (15, .p (i6 (x4_1_2)))], [(42, rI 2 t44_2)], ⟨x4_1_3, false⟩, []⟩ (And.intro (And.intro ((starts_Next_ok h44_1).ren 22 42 (by kernel_rfl)) (And.intro (rfl : (.own 42 : AV).flat = true) (And.intro (flats_encL (eI .i64) (fun _ => rfl) t44_2) (trivial)))) (trivial)) ?_
      refine WX.seq ?_
      obtain ⟨t45_2, h45_1, h⟩ := bind_some h
      refine WC.r1 hn [(2, .res (i6 (t45_2)))] [0, 1, 2, 3, 4, 6, 7, 10, 13, 14, 15] [42] ⟨[(0, .yield), (1, .p (.rop ([sC a1.Classes, i6 (a1.First.N), sW a1.First.Words, i6 (a1.Last.N), sW a1.Last.Words, sB a1.Follow, bo (a1.Null)]))), (2, .p (.rop ([slV (eI .u8) a2]))), (3, .p (.rop ([bo (a3)]))), (4, .p (.rop ([bo (a4)]))), (6, .own 42), (7, .p (i6 (x4_1_2))), (10, .p (i6 (t45_2))), (13, .p (slV (eI .u8) a2)), (14, .p (i6 (((a2.length : Int))))), (15, .p (i6 (x4_1_2)))], [(42, rI 2 t44_2)], ⟨x4_1_3, false⟩, []⟩ (And.intro (And.intro (starts_Least_ok h45_1) (rfl : (i6 (t45_2) : PV).flat = true)) (trivial)) ?_
      refine WX.seq ?_
      rcases if_or h with ⟨b46_2, h⟩ | ⟨b46_2, h⟩
      · obtain ⟨r46, hh46, hr46⟩ := mapO_some h
        subst hr46
        replace h := hh46
        refine WC.yld hn hY 7 [(2, .val (.p (bo (true))))] [0, 1, 2, 3, 4, 6, 13, 14, 15, 55] [42] (⟨[(0, .yield), (1, .p (.rop ([sC a1.Classes, i6 (a1.First.N), sW a1.First.Words, i6 (a1.Last.N), sW a1.Last.Words, sB a1.Follow, bo (a1.Null)]))), (2, .p (.rop ([slV (eI .u8) a2]))), (3, .p (.rop ([bo (a3)]))), (4, .p (.rop ([bo (a4)]))), (6, .own 42), (13, .p (slV (eI .u8) a2)), (14, .p (i6 (((a2.length : Int))))), (15, .p (i6 (x4_1_2))), (55, .p (bo (false)))], [(42, rI 2 t44_2)], ⟨(x4_1_3 ++ [[.int .i64 ((IntKind.i64.wrap (x4_1_2 + 1))), .int .i64 t45_2]]), false⟩, []⟩) (⟨[(0, .yield), (1, .p (.rop ([sC a1.Classes, i6 (a1.First.N), sW a1.First.Words, i6 (a1.Last.N), sW a1.Last.Words, sB a1.Follow, bo (a1.Null)]))), (2, .p (.rop ([slV (eI .u8) a2]))), (3, .p (.rop ([bo (a3)]))), (4, .p (.rop ([bo (a4)]))), (6, .own 42), (13, .p (slV (eI .u8) a2)), (14, .p (i6 (((a2.length : Int))))), (15, .p (i6 (x4_1_2))), (55, .p (bo (true)))], [(42, rI 2 t44_2)], ⟨(x4_1_3 ++ [[.int .i64 ((IntKind.i64.wrap (x4_1_2 + 1))), .int .i64 t45_2]]), true⟩, []⟩) x4_1_3 [.int .i64 ((IntKind.i64.wrap (x4_1_2 + 1))), .int .i64 t45_2] (And.intro (And.intro (Bl b46_2) (True.intro)) (And.intro True.intro True.intro)) (by kernel_rfl) (pre_ok (val := (fun x : Int × Int => ([.int .i64 x.1, .int .i64 x.2] : List Value))) (x := ((IntKind.i64.wrap (x4_1_2 + 1)), t45_2)) (l := r46) hL) ?_ ?_
        · replace hL : (x4_1_3 ++ [[.int .i64 ((IntKind.i64.wrap (x4_1_2 + 1))), .int .i64 t45_2]]) ++ r46.map (fun x : Int × Int => ([.int .i64 x.1, .int .i64 x.2] : List Value)) = L := by rw [← hL]; simp
          refine WC.condF rfl (by kernel_rfl) ?_
          refine WX.skip ?_
          refine WX.popBlk ?_
          refine WC.r1 hn [] [0, 1, 2, 3, 4, 6, 13, 14, 15] [42] ⟨[(0, .yield), (1, .p (.rop ([sC a1.Classes, i6 (a1.First.N), sW a1.First.Words, i6 (a1.Last.N), sW a1.Last.Words, sB a1.Follow, bo (a1.Null)]))), (2, .p (.rop ([slV (eI .u8) a2]))), (3, .p (.rop ([bo (a3)]))), (4, .p (.rop ([bo (a4)]))), (6, .own 42), (13, .p (slV (eI .u8) a2)), (14, .p (i6 (((a2.length : Int))))), (15, .p (i6 (((IntKind.i64.wrap (x4_1_2 + 1))))))], [(42, rI 2 t44_2)], ⟨(x4_1_3 ++ [[.int .i64 ((IntKind.i64.wrap (x4_1_2 + 1))), .int .i64 t45_2]]), false⟩, []⟩ trivial ?_
          refine WC.ren hn 42 12 (by kernel_rfl) [0, 1, 2, 3, 4, 6, 13, 14, 15] [12] (st' := ⟨[(0, .yield), (1, .p (.rop ([sC a1.Classes, i6 (a1.First.N), sW a1.First.Words, i6 (a1.Last.N), sW a1.Last.Words, sB a1.Follow, bo (a1.Null)]))), (2, .p (.rop ([slV (eI .u8) a2]))), (3, .p (.rop ([bo (a3)]))), (4, .p (.rop ([bo (a4)]))), (6, .own 12), (13, .p (slV (eI .u8) a2)), (14, .p (i6 (((a2.length : Int))))), (15, .p (i6 (((IntKind.i64.wrap (x4_1_2 + 1))))))], [(12, rI 2 t44_2)], ⟨(x4_1_3 ++ [[.int .i64 ((IntKind.i64.wrap (x4_1_2 + 1))), .int .i64 t45_2]]), false⟩, []⟩) (by kernel_rfl) ?_
          exact WC.next [0, 1, 2, 3, 4, 6, 13, 14, 15] [12] (by kernel_rfl) (hnext4 (t44_2, (IntKind.i64.wrap (x4_1_2 + 1)), (x4_1_3 ++ [[.int .i64 ((IntKind.i64.wrap (x4_1_2 + 1))), .int .i64 t45_2]])) (by rw [h]; exact congrArg some hL))
        · refine WC.condT rfl (by kernel_rfl) ?_
          refine WX.exit ?_
          refine WX.popBlkPass (by decide) ?_
          refine WX.popCodeExit ?_
          refine WC.exit_nil (hexit4 _ _ (by simp) ?_)
          refine WX.popBlkHit ?_
          refine WC.exit_nil (hsc1 _ _ (fun _ h => by cases h) ?_)
          exact WC.exit_nil ⟨by kernel_rfl, fun h => by cases h⟩
      · refine WC.r1 hn [(2, .val (.p (bo (false))))] [0, 1, 2, 3, 4, 6, 13, 14, 15, 55] [42] ⟨[(0, .yield), (1, .p (.rop ([sC a1.Classes, i6 (a1.First.N), sW a1.First.Words, i6 (a1.Last.N), sW a1.Last.Words, sB a1.Follow, bo (a1.Null)]))), (2, .p (.rop ([slV (eI .u8) a2]))), (3, .p (.rop ([bo (a3)]))), (4, .p (.rop ([bo (a4)]))), (6, .own 42), (13, .p (slV (eI .u8) a2)), (14, .p (i6 (((a2.length : Int))))), (15, .p (i6 (x4_1_2))), (55, .p (bo (false)))], [(42, rI 2 t44_2)], ⟨x4_1_3, false⟩, []⟩ (And.intro (Bl b46_2) (trivial)) ?_
        refine WC.condF rfl (by kernel_rfl) ?_
        refine WX.skip ?_
        refine WX.popBlk ?_
        refine WC.r1 hn [] [0, 1, 2, 3, 4, 6, 13, 14, 15] [42] ⟨[(0, .yield), (1, .p (.rop ([sC a1.Classes, i6 (a1.First.N), sW a1.First.Words, i6 (a1.Last.N), sW a1.Last.Words, sB a1.Follow, bo (a1.Null)]))), (2, .p (.rop ([slV (eI .u8) a2]))), (3, .p (.rop ([bo (a3)]))), (4, .p (.rop ([bo (a4)]))), (6, .own 42), (13, .p (slV (eI .u8) a2)), (14, .p (i6 (((a2.length : Int))))), (15, .p (i6 (((IntKind.i64.wrap (x4_1_2 + 1))))))], [(42, rI 2 t44_2)], ⟨x4_1_3, false⟩, []⟩ trivial ?_
        refine WC.ren hn 42 12 (by kernel_rfl) [0, 1, 2, 3, 4, 6, 13, 14, 15] [12] (st' := ⟨[(0, .yield), (1, .p (.rop ([sC a1.Classes, i6 (a1.First.N), sW a1.First.Words, i6 (a1.Last.N), sW a1.Last.Words, sB a1.Follow, bo (a1.Null)]))), (2, .p (.rop ([slV (eI .u8) a2]))), (3, .p (.rop ([bo (a3)]))), (4, .p (.rop ([bo (a4)]))), (6, .own 12), (13, .p (slV (eI .u8) a2)), (14, .p (i6 (((a2.length : Int))))), (15, .p (i6 (((IntKind.i64.wrap (x4_1_2 + 1))))))], [(12, rI 2 t44_2)], ⟨x4_1_3, false⟩, []⟩) (by kernel_rfl) ?_
        exact WC.next [0, 1, 2, 3, 4, 6, 13, 14, 15] [12] (by kernel_rfl) (hnext4 (t44_2, (IntKind.i64.wrap (x4_1_2 + 1)), x4_1_3) (by rw [h]; exact congrArg some hL))
  · refine WC.condF c33 (by kernel_rfl) ?_
    refine WX.exit ?_
    refine WX.popCodeExit ?_
    refine WC.exit_nil (hexit4 _ _ (by simp) ?_)
    refine WX.popBlkHit ?_
    refine WC.exit_nil (hsc1 _ _ (fun _ h => by cases h) ?_)
    obtain rfl := Option.some.inj h
    exact WC.exit_nil ⟨by kernel_rfl, fun _ => by simpa using hL⟩
def riddlelaw23_events_l0 (k : Nat) : List (Int × Int) → List riddleref23_Event → Option ((List riddleref23_Event))
  | [], x6_1_1 => some x6_1_1
  | x6 :: xs6, x6_1_1 => (if okApp 16 (x6_1_1.length + ([(riddleref23_Event.mk x6.1 x6.2)]).length) then riddlelaw23_events_l0 k xs6 (x6_1_1 ++ ([(riddleref23_Event.mk x6.1 x6.2)])) else none)
def riddlelaw23_events (k : Nat) (a0 : api_Nfa) (a1 : (List Int)) (a2 : Bool) (a3 : Bool) : Option ((List riddleref23_Event)) :=
  (starts_Events k a0 a1 a2 a3).bind fun t3_2 => (starts_Events_1_v1 k t3_2.1 t3_2.2.1 t3_2.2.2.1 t3_2.2.2.2).bind fun l6 => riddlelaw23_events_l0 k l6 (([] : List riddleref23_Event))
theorem riddlelaw23_events_ok {k : Nat} {a0 : api_Nfa} {a1 : (List Int)} {a2 : Bool} {a3 : Bool} {r : (List riddleref23_Event)} (h : riddlelaw23_events k a0 a1 a2 a3 = some r) : AnsO Tryd.prog 8 [] [.p (pP2 a0), .p (slV (eI .u8) a1), .p (bo (a2)), .p (bo (a3))] [(28, rowV 38 e_riddleref23_Event r)] (.own 28) := by
  refine W_fnO [28] Tryd.func8 rfl (by kernel_rfl) (by kernel_rfl) (by kernel_rfl) (by kernel_rfl) ?_
  intro X hro hn
  unfold riddlelaw23_events at h
  refine WC.rg hn [] [1, 2, 3, 4] [4] ⟨[(1, .p (slV (eI .u8) a1)), (2, .p (bo (a2))), (3, .p (bo (a3))), (4, .ptr 4 0)], [(4, .box 28 (vV2 a0))], L0, []⟩ trivial ?_
  refine WC.rg hn [] [1, 2, 3, 4, 9] [4, 9] ⟨[(1, .p (slV (eI .u8) a1)), (2, .p (bo (a2))), (3, .p (bo (a3))), (4, .ptr 4 0), (9, .ptr 9 0)], [(4, .box 28 (vV2 a0)), (9, .box 34 [.p (.sl .nil 0 [])])], L0, []⟩ trivial ?_
  refine WX.seq ?_
  obtain ⟨t3_2, h3_1, h⟩ := bind_some h
  refine WC.r1 hn [(4, .resP (.fn 66 [.rop ([sC t3_2.1.Classes, i6 (t3_2.1.First.N), sW t3_2.1.First.Words, i6 (t3_2.1.Last.N), sW t3_2.1.Last.Words, sB t3_2.1.Follow, bo (t3_2.1.Null)]), .rop ([slV (eI .u8) t3_2.2.1]), .rop ([bo (t3_2.2.2.1)]), .rop ([bo (t3_2.2.2.2)])]))] [9, 10] [9] ⟨[(9, .ptr 9 0), (10, .p (.fn 66 [.rop ([sC t3_2.1.Classes, i6 (t3_2.1.First.N), sW t3_2.1.First.Words, i6 (t3_2.1.Last.N), sW t3_2.1.Last.Words, sB t3_2.1.Follow, bo (t3_2.1.Null)]), .rop ([slV (eI .u8) t3_2.2.1]), .rop ([bo (t3_2.2.2.1)]), .rop ([bo (t3_2.2.2.2)])]))], [(9, .box 34 [.p (.sl .nil 0 [])])], L0, []⟩ (And.intro ((starts_Events_ok h3_1)) (trivial)) ?_
  refine WX.seq ?_
  refine WC.rg hn [] [9, 10, 19] [9] ⟨[(9, .ptr 9 0), (10, .p (.fn 66 [.rop ([sC t3_2.1.Classes, i6 (t3_2.1.First.N), sW t3_2.1.First.Words, i6 (t3_2.1.Last.N), sW t3_2.1.Last.Words, sB t3_2.1.Follow, bo (t3_2.1.Null)]), .rop ([slV (eI .u8) t3_2.2.1]), .rop ([bo (t3_2.2.2.1)]), .rop ([bo (t3_2.2.2.2)])])), (19, .p (bo (false)))], [(9, .box 34 [.p (.sl .nil 0 [])])], L0, []⟩ trivial ?_
  refine WC.condF rfl (by kernel_rfl) ?_
  refine WX.skip ?_
  refine WX.seq ?_
  refine WC.rg hn [] [9, 20] [9] ⟨[(9, .ptr 9 0), (20, .p (.fn 66 [.rop ([sC t3_2.1.Classes, i6 (t3_2.1.First.N), sW t3_2.1.First.Words, i6 (t3_2.1.Last.N), sW t3_2.1.Last.Words, sB t3_2.1.Follow, bo (t3_2.1.Null)]), .rop ([slV (eI .u8) t3_2.2.1]), .rop ([bo (t3_2.2.2.1)]), .rop ([bo (t3_2.2.2.2)])]))], [(9, .box 34 [.p (.sl .nil 0 [])])], L0, []⟩ trivial ?_
  refine WX.block ?_
  obtain ⟨l6, hI6, h⟩ := bind_some h
  refine WC.nil hn [] (some (9, 0)) 28 38 2 (by kernel_rfl) [9, 20] [9, 28] (st' := ⟨[(9, .ptr 9 0), (20, .p (.fn 66 [.rop ([sC t3_2.1.Classes, i6 (t3_2.1.First.N), sW t3_2.1.First.Words, i6 (t3_2.1.Last.N), sW t3_2.1.Last.Words, sB t3_2.1.Follow, bo (t3_2.1.Null)]), .rop ([slV (eI .u8) t3_2.2.1]), .rop ([bo (t3_2.2.2.1)]), .rop ([bo (t3_2.2.2.2)])]))], [(9, .box 34 [.own 28]), (28, rowV 38 e_riddleref23_Event (([] : List riddleref23_Event)))], L0, []⟩) (by kernel_rfl) ?_
  refine WC.range (V := List riddleref23_Event) hn (riddlelaw23_events_l0 k) r (fun v6 => ⟨[(9, .ptr 9 0), (20, .p (.fn 66 [.rop ([sC t3_2.1.Classes, i6 (t3_2.1.First.N), sW t3_2.1.First.Words, i6 (t3_2.1.Last.N), sW t3_2.1.Last.Words, sB t3_2.1.Follow, bo (t3_2.1.Null)]), .rop ([slV (eI .u8) t3_2.2.1]), .rop ([bo (t3_2.2.2.1)]), .rop ([bo (t3_2.2.2.2)])]))], [(9, .box 34 [.own 28]), (28, rowV 38 e_riddleref23_Event v6)], L0, []⟩) (fun x6 v6 => ⟨[(9, .ptr 9 0), (11, .p (i6 (x6.1))), (12, .p (i6 (x6.2))), (20, .p (.fn 66 [.rop ([sC t3_2.1.Classes, i6 (t3_2.1.First.N), sW t3_2.1.First.Words, i6 (t3_2.1.Last.N), sW t3_2.1.Last.Words, sB t3_2.1.Follow, bo (t3_2.1.Null)]), .rop ([slV (eI .u8) t3_2.2.1]), .rop ([bo (t3_2.2.2.1)]), .rop ([bo (t3_2.2.2.2)])])), (21, .p (i6 (x6.1))), (22, .p (i6 (x6.2)))], [(9, .box 34 [.own 28]), (28, rowV 38 e_riddleref23_Event v6)], ⟨[], false⟩, [[(9, .ptr 9 0), (20, .p (.fn 66 [.rop ([sC t3_2.1.Classes, i6 (t3_2.1.First.N), sW t3_2.1.First.Words, i6 (t3_2.1.Last.N), sW t3_2.1.Last.Words, sB t3_2.1.Follow, bo (t3_2.1.Null)]), .rop ([slV (eI .u8) t3_2.2.1]), .rop ([bo (t3_2.2.2.1)]), .rop ([bo (t3_2.2.2.2)])]))]]⟩) (fun x : Int × Int => ([.int .i64 x.1, .int .i64 x.2] : List Value)) l6 (([] : List riddleref23_Event)) h [9, 20] [9, 28] (by kernel_rfl) (fun v6 => .p (.fn 66 [.rop ([sC t3_2.1.Classes, i6 (t3_2.1.First.N), sW t3_2.1.First.Words, i6 (t3_2.1.Last.N), sW t3_2.1.Last.Words, sB t3_2.1.Follow, bo (t3_2.1.Null)]), .rop ([slV (eI .u8) t3_2.2.1]), .rop ([bo (t3_2.2.2.1)]), .rop ([bo (t3_2.2.2.2)])])) (fun v6 => by kernel_rfl) (by kernel_rfl) (starts_Events_1_v1_it hI6) (by kernel_rfl) (fun v6 => by kernel_rfl) (fun x => ⟨rfl, rfl⟩) ?_ ?_ ?_
  · clear h; rintro x6_1_1 h
    rw [riddlelaw23_events_l0] at h
    refine WX.popBlk ?_
    refine WC.rg hn [] [8] [28] ⟨[(8, .own 28)], [(28, rowV 38 e_riddleref23_Event x6_1_1)], L0, []⟩ trivial ?_
    refine WX.ret ?_
    exact WC.outO (by rw [← Option.some.inj h]; kernel_rfl)
  · clear h; intro X hn x6; rintro x6_1_1
    refine WC.rg hn [] [9, 11, 20, 21, 22] [9, 28] ⟨[(9, .ptr 9 0), (11, .p (i6 (x6.1))), (20, .p (.fn 66 [.rop ([sC t3_2.1.Classes, i6 (t3_2.1.First.N), sW t3_2.1.First.Words, i6 (t3_2.1.Last.N), sW t3_2.1.Last.Words, sB t3_2.1.Follow, bo (t3_2.1.Null)]), .rop ([slV (eI .u8) t3_2.2.1]), .rop ([bo (t3_2.2.2.1)]), .rop ([bo (t3_2.2.2.2)])])), (21, .p (i6 (x6.1))), (22, .p (i6 (x6.2)))], [(9, .box 34 [.own 28]), (28, rowV 38 e_riddleref23_Event x6_1_1)], ⟨[], false⟩, [[(9, .ptr 9 0), (20, .p (.fn 66 [.rop ([sC t3_2.1.Classes, i6 (t3_2.1.First.N), sW t3_2.1.First.Words, i6 (t3_2.1.Last.N), sW t3_2.1.Last.Words, sB t3_2.1.Follow, bo (t3_2.1.Null)]), .rop ([slV (eI .u8) t3_2.2.1]), .rop ([bo (t3_2.2.2.1)]), .rop ([bo (t3_2.2.2.2)])]))]]⟩ trivial ?_
    refine WC.r1 hn [] [9, 11, 12, 20, 21, 22] [9, 28] ⟨[(9, .ptr 9 0), (11, .p (i6 (x6.1))), (12, .p (i6 (x6.2))), (20, .p (.fn 66 [.rop ([sC t3_2.1.Classes, i6 (t3_2.1.First.N), sW t3_2.1.First.Words, i6 (t3_2.1.Last.N), sW t3_2.1.Last.Words, sB t3_2.1.Follow, bo (t3_2.1.Null)]), .rop ([slV (eI .u8) t3_2.2.1]), .rop ([bo (t3_2.2.2.1)]), .rop ([bo (t3_2.2.2.2)])])), (21, .p (i6 (x6.1))), (22, .p (i6 (x6.2)))], [(9, .box 34 [.own 28]), (28, rowV 38 e_riddleref23_Event x6_1_1)], ⟨[], false⟩, [[(9, .ptr 9 0), (20, .p (.fn 66 [.rop ([sC t3_2.1.Classes, i6 (t3_2.1.First.N), sW t3_2.1.First.Words, i6 (t3_2.1.Last.N), sW t3_2.1.Last.Words, sB t3_2.1.Follow, bo (t3_2.1.Null)]), .rop ([slV (eI .u8) t3_2.2.1]), .rop ([bo (t3_2.2.2.1)]), .rop ([bo (t3_2.2.2.2)])]))]]⟩ trivial ?_
    exact WC.exit_nil ⟨rfl, rfl⟩
  · clear h; intro X hn x6 xs6; rintro x6_1_1 h K6 hnext6 hexit6
    rw [riddlelaw23_events_l0] at h
    refine WX.block ?_
    obtain ⟨c18_1, h⟩ := if_some h
    refine WC.r1 hn [(5, .app (some 28) (rowV 38 e_riddleref23_Event (x6_1_1 ++ ([(riddleref23_Event.mk x6.1 x6.2)]))))] [] [9, 28] ⟨[], [(9, .box 34 [.own 28]), (28, rowV 38 e_riddleref23_Event (x6_1_1 ++ ([(riddleref23_Event.mk x6.1 x6.2)])))], ⟨[], false⟩, [[(9, .ptr 9 0), (20, .p (.fn 66 [.rop ([sC t3_2.1.Classes, i6 (t3_2.1.First.N), sW t3_2.1.First.Words, i6 (t3_2.1.Last.N), sW t3_2.1.Last.Words, sB t3_2.1.Follow, bo (t3_2.1.Null)]), .rop ([slV (eI .u8) t3_2.2.1]), .rop ([bo (t3_2.2.2.1)]), .rop ([bo (t3_2.2.2.2)])]))]]⟩ (And.intro (Ap e_riddleref23_Event (some 28) 38 16 2 x6_1_1 ([(riddleref23_Event.mk x6.1 x6.2)]) c18_1) (trivial)) ?_
    refine WX.popBlk ?_
    refine WC.keep [] [9, 28] (st' := ⟨[], [(9, .box 34 [.own 28]), (28, rowV 38 e_riddleref23_Event (x6_1_1 ++ ([(riddleref23_Event.mk x6.1 x6.2)])))], ⟨[], false⟩, [[(9, .ptr 9 0), (20, .p (.fn 66 [.rop ([sC t3_2.1.Classes, i6 (t3_2.1.First.N), sW t3_2.1.First.Words, i6 (t3_2.1.Last.N), sW t3_2.1.Last.Words, sB t3_2.1.Follow, bo (t3_2.1.Null)]), .rop ([slV (eI .u8) t3_2.2.1]), .rop ([bo (t3_2.2.2.1)]), .rop ([bo (t3_2.2.2.2)])]))]]⟩) (by kernel_rfl) ?_
    exact WC.nextR [] [9, 28] (s := ⟨[], [(9, .box 34 [.own 28]), (28, rowV 38 e_riddleref23_Event (x6_1_1 ++ ([(riddleref23_Event.mk x6.1 x6.2)])))], ⟨[], false⟩, [[(9, .ptr 9 0), (20, .p (.fn 66 [.rop ([sC t3_2.1.Classes, i6 (t3_2.1.First.N), sW t3_2.1.First.Words, i6 (t3_2.1.Last.N), sW t3_2.1.Last.Words, sB t3_2.1.Follow, bo (t3_2.1.Null)]), .rop ([slV (eI .u8) t3_2.2.1]), .rop ([bo (t3_2.2.2.1)]), .rop ([bo (t3_2.2.2.2)])]))]]⟩) (by kernel_rfl) rfl (fun s hb => hnext6 (x6_1_1 ++ ([(riddleref23_Event.mk x6.1 x6.2)])) s h hb)
theorem riddlelaw23_events_okP {k : Nat} {a0 : api_Nfa} {a1 : (List Int)} {a2 : Bool} {a3 : Bool} {r : (List riddleref23_Event)} (h : riddlelaw23_events k a0 a1 a2 a3 = some r) : Ans Tryd.prog 8 [pP2 a0, slV (eI .u8) a1, bo (a2), bo (a3)] (slV e_riddleref23_Event r) := AnsO.ans (args := [pP2 a0, slV (eI .u8) a1, bo (a2), bo (a3)]) (riddlelaw23_events_ok h) (by kernel_rfl)
def slices_Equal_riddle_riddleref23_Event_riddle_riddleref23_Event_l0 (a0 : (List riddleref23_Event)) (a1 : (List riddleref23_Event)) (J6 : Unit → Option (Bool)) : Nat → Int → Option (Bool)
  | 0, _ => none
  | k + 1, x23_1_1 => (if (decide (x23_1_1 < (a0.length : Int))) = true then (at_ a0 x23_1_1).bind fun t41_2 => (at_ a1 x23_1_1).bind fun t41_4 => (if (!((t41_2.End == t41_4.End) && ((t41_2.Start == t41_4.Start) && true))) = true then some false else slices_Equal_riddle_riddleref23_Event_riddle_riddleref23_Event_l0 a0 a1 J6 k ((IntKind.i64.wrap (x23_1_1 + 1)))) else J6 ())
def slices_Equal_riddle_riddleref23_Event_riddle_riddleref23_Event (k : Nat) (a0 : (List riddleref23_Event)) (a1 : (List riddleref23_Event)) : Option (Bool) :=
  (if ((a0.length : Int) != (a1.length : Int)) = true then some false else jn (fun (v6 : Unit) => some true) fun J6 => slices_Equal_riddle_riddleref23_Event_riddle_riddleref23_Event_l0 a0 a1 J6 k 0)
theorem slices_Equal_riddle_riddleref23_Event_riddle_riddleref23_Event_ok {k : Nat} {a0 : (List riddleref23_Event)} {a1 : (List riddleref23_Event)} {r : Bool} (h : slices_Equal_riddle_riddleref23_Event_riddle_riddleref23_Event k a0 a1 = some r) : Ans Tryd.prog 9 [slV e_riddleref23_Event a0, slV e_riddleref23_Event a1] (bo (r)) := by
  refine W_fn Tryd.func9 rfl (by kernel_rfl) (by kernel_rfl) ?_
  intro X hro hn
  unfold slices_Equal_riddle_riddleref23_Event_riddle_riddleref23_Event at h
  refine WC.rg hn [] [0, 1] [] ⟨[(0, .p (slV e_riddleref23_Event a0)), (1, .p (slV e_riddleref23_Event a1))], [], L0, []⟩ trivial ?_
  refine WX.seq ?_
  refine WC.rg hn [] [0, 1, 10] [] ⟨[(0, .p (slV e_riddleref23_Event a0)), (1, .p (slV e_riddleref23_Event a1)), (10, .p (bo ((((a0.length : Int) != (a1.length : Int))))))], [], L0, []⟩ trivial ?_
  rcases if_or h with ⟨c3, h⟩ | ⟨c3, h⟩
  · refine WC.condT c3 (by kernel_rfl) ?_
    refine WC.rg hn [] [4] [] ⟨[(4, .p (bo (false)))], [], L0, []⟩ trivial ?_
    refine WX.ret ?_
    exact WC.outP (by rw [← Option.some.inj h]; kernel_rfl)
  · refine WC.condF c3 (by kernel_rfl) ?_
    refine WX.skip ?_
    refine WX.seq ?_
    refine WC.rg hn [] [0, 1, 12, 13] [] ⟨[(0, .p (slV e_riddleref23_Event a0)), (1, .p (slV e_riddleref23_Event a1)), (12, .p (i6 (((a0.length : Int))))), (13, .p (i6 (0)))], [], L0, []⟩ trivial ?_
    obtain ⟨J6, eJ6, h⟩ := jn_some h
    try dsimp only at h
    refine WC.join (α := Unit) (fun v6 => ⟨[], [], L0, []⟩) (fun v6 => J6 v6 = some r) ?_ (fun hJ6 => ?_)
    · rintro _ h
      rw [eJ6] at h
      try dsimp only at h
      refine WC.rg hn [] [4] [] ⟨[(4, .p (bo (true)))], [], L0, []⟩ trivial ?_
      refine WX.ret ?_
      exact WC.outP (by rw [← Option.some.inj h]; kernel_rfl)
    · skip
      refine WX.block ?_
      refine WC.loop (V := Int) (slices_Equal_riddle_riddleref23_Event_riddle_riddleref23_Event_l0 a0 a1 J6) r (fun v23 => ⟨[(0, .p (slV e_riddleref23_Event a0)), (1, .p (slV e_riddleref23_Event a1)), (12, .p (i6 (((a0.length : Int))))), (13, .p (i6 (v23)))], [], L0, []⟩) _ 0 h (fun _ => rfl) [0, 1, 12, 13] [] (by kernel_rfl) ?_
      clear h; rintro k x23_1_1 h K23 hnext23 hexit23
      rw [slices_Equal_riddle_riddleref23_Event_riddle_riddleref23_Event_l0] at h
      refine WC.rg hn [] [0, 1, 12, 13, 14] [] ⟨[(0, .p (slV e_riddleref23_Event a0)), (1, .p (slV e_riddleref23_Event a1)), (12, .p (i6 (((a0.length : Int))))), (13, .p (i6 (x23_1_1))), (14, .p (bo (((decide (x23_1_1 < (a0.length : Int)))))))], [], L0, []⟩ trivial ?_
      refine WX.seq ?_
      rcases if_or h with ⟨c39, h⟩ | ⟨c39, h⟩
      · refine WC.condT c39 (by kernel_rfl) ?_
        refine WX.skip ?_
        refine WX.seq ?_
        refine WX.block ?_
        refine WC.rg hn [] [0, 1, 5, 12, 13] [] ⟨[(0, .p (slV e_riddleref23_Event a0)), (1, .p (slV e_riddleref23_Event a1)), (5, .p (i6 (x23_1_1))), (12, .p (i6 (((a0.length : Int))))), (13, .p (i6 (x23_1_1)))], [], L0, []⟩ trivial ?_
        refine WX.seq ?_
        obtain ⟨t41_2, h41_1, h⟩ := bind_some h
        obtain ⟨t41_4, h41_3, h⟩ := bind_some h
        refine WC.drw hn [] [] [(2, .val (.p (.rop (e_riddleref23_Event.cells t41_2 ++ encL e_riddleref23_Event (a0.drop (x23_1_1.toNat + 1)))))), (6, .val (.p (.rop (e_riddleref23_Event.cells t41_4 ++ encL e_riddleref23_Event (a1.drop (x23_1_1.toNat + 1))))))] [0, 1, 12, 13, 24] [] ⟨[(0, .p (slV e_riddleref23_Event a0)), (1, .p (slV e_riddleref23_Event a1)), (12, .p (i6 (((a0.length : Int))))), (13, .p (i6 (x23_1_1))), (24, .p (bo (((!((t41_2.End == t41_4.End) && ((t41_2.Start == t41_4.Start) && true)))))))], [], L0, []⟩ (And.intro (Ix e_riddleref23_Event h41_1) (And.intro (Ix e_riddleref23_Event h41_3) (trivial))) (by kernel_rfl) (by kernel_rfl) (by kernel_rfl) (by kernel_rfl) ?_
        rcases if_or h with ⟨c42, h⟩ | ⟨c42, h⟩
        · refine WC.condT c42 (by kernel_rfl) ?_
          refine WC.rg hn [] [4] [] ⟨[(4, .p (bo (false)))], [], L0, []⟩ trivial ?_
          refine WX.ret ?_
          refine WC.ret_all (hexit23 _ _ (by simp) ?_)
          exact WC.outP (by rw [← Option.some.inj h]; kernel_rfl)
        · refine WC.condF c42 (by kernel_rfl) ?_
          refine WX.skip ?_
          refine WX.popBlk ?_
          refine WC.r1 hn [] [0, 1, 12, 13] [] ⟨[(0, .p (slV e_riddleref23_Event a0)), (1, .p (slV e_riddleref23_Event a1)), (12, .p (i6 (((a0.length : Int))))), (13, .p (i6 (((IntKind.i64.wrap (x23_1_1 + 1))))))], [], L0, []⟩ trivial ?_
          exact WC.next [0, 1, 12, 13] [] (by kernel_rfl) (hnext23 ((IntKind.i64.wrap (x23_1_1 + 1))) h)
      · refine WC.condF c39 (by kernel_rfl) ?_
        refine WX.exit ?_
        refine WX.popCodeExit ?_
        refine WC.exit_nil (hexit23 _ _ (by simp) ?_)
        refine WX.popBlkHit ?_
        exact WC.keep [] [] (by kernel_rfl) (hJ6 () h)
def riddleref05_bare (a0 : api_Node) : Option (api_Node) :=
  (if (a0.Kind == 2) = true then some ((api_Node.mk a0.Kind a0.Class 0 0 0 0 false)) else jn (fun (v9 : Bool) => (if v9 = true then some ((api_Node.mk a0.Kind ((Arr4.mk 0 0 0 0)) a0.A a0.B 0 0 false)) else (if (a0.Kind == 5) = true then some ((api_Node.mk a0.Kind ((Arr4.mk 0 0 0 0)) a0.A 0 a0.Least a0.Most a0.Lazy)) else some ((api_Node.mk a0.Kind ((Arr4.mk 0 0 0 0)) 0 0 0 0 false))))) fun J9 => (if (a0.Kind == 3) = true then J9 ((a0.Kind == 3)) else J9 ((a0.Kind == 4))))
theorem riddleref05_bare_ok {a0 : api_Node} {r : api_Node} (h : riddleref05_bare a0 = some r) : Ans Tryd.prog 112 [pP1 a0] (pP1 r) := by
  refine W_fn Tryd.func112 rfl (by kernel_rfl) (by kernel_rfl) ?_
  intro X hro hn
  unfold riddleref05_bare at h
  refine WC.rg hn [] [1, 2] [1, 2] ⟨[(1, .ptr 1 0), (2, .ptr 2 0)], [(1, .box 77 (vV1 a0)), (2, .box 77 [.p (i6 (0)), .p (u6 (0)), .p (u6 (0)), .p (u6 (0)), .p (u6 (0)), .p (i6 (0)), .p (i6 (0)), .p (i6 (0)), .p (i6 (0)), .p (bo (false))])], L0, []⟩ trivial ?_
  refine WC.rg hn [] [1, 2, 3] [1, 2, 3] ⟨[(1, .ptr 1 0), (2, .ptr 2 0), (3, .ptr 3 0)], [(1, .box 77 (vV1 a0)), (2, .box 77 [.p (i6 (0)), .p (u6 (0)), .p (u6 (0)), .p (u6 (0)), .p (u6 (0)), .p (i6 (0)), .p (i6 (0)), .p (i6 (0)), .p (i6 (0)), .p (bo (false))]), (3, .box 77 [.p (i6 (a0.Kind)), .p (u6 (0)), .p (u6 (0)), .p (u6 (0)), .p (u6 (0)), .p (i6 (0)), .p (i6 (0)), .p (i6 (0)), .p (i6 (0)), .p (bo (false))])], L0, []⟩ trivial ?_
  refine WX.seq ?_
  refine WC.rg hn [] [1, 2, 3, 8] [1, 2, 3] ⟨[(1, .ptr 1 0), (2, .ptr 2 0), (3, .ptr 3 0), (8, .p (i6 (a0.Kind)))], [(1, .box 77 (vV1 a0)), (2, .box 77 [.p (i6 (0)), .p (u6 (0)), .p (u6 (0)), .p (u6 (0)), .p (u6 (0)), .p (i6 (0)), .p (i6 (0)), .p (i6 (0)), .p (i6 (0)), .p (bo (false))]), (3, .box 77 [.p (i6 (a0.Kind)), .p (u6 (0)), .p (u6 (0)), .p (u6 (0)), .p (u6 (0)), .p (i6 (0)), .p (i6 (0)), .p (i6 (0)), .p (i6 (0)), .p (bo (false))])], L0, []⟩ trivial ?_
  refine WX.block ?_
  refine WC.rg hn [] [1, 2, 3, 8, 9] [1, 2, 3] ⟨[(1, .ptr 1 0), (2, .ptr 2 0), (3, .ptr 3 0), (8, .p (i6 (a0.Kind))), (9, .p (bo (((a0.Kind == 2)))))], [(1, .box 77 (vV1 a0)), (2, .box 77 [.p (i6 (0)), .p (u6 (0)), .p (u6 (0)), .p (u6 (0)), .p (u6 (0)), .p (i6 (0)), .p (i6 (0)), .p (i6 (0)), .p (i6 (0)), .p (bo (false))]), (3, .box 77 [.p (i6 (a0.Kind)), .p (u6 (0)), .p (u6 (0)), .p (u6 (0)), .p (u6 (0)), .p (i6 (0)), .p (i6 (0)), .p (i6 (0)), .p (i6 (0)), .p (bo (false))])], L0, []⟩ trivial ?_
  rcases if_or h with ⟨c5, h⟩ | ⟨c5, h⟩
  · refine WC.condT c5 (by kernel_rfl) ?_
    refine WC.r1 hn [] [2, 3] [2, 3] ⟨[(2, .ptr 2 0), (3, .ptr 3 0)], [(2, .box 77 [.p (i6 (0)), .p (u6 (0)), .p (u6 (0)), .p (u6 (0)), .p (u6 (0)), .p (i6 (0)), .p (i6 (0)), .p (i6 (0)), .p (i6 (0)), .p (bo (false))]), (3, .box 77 [.p (i6 (a0.Kind)), .p (u6 (a0.Class.a0)), .p (u6 (a0.Class.a1)), .p (u6 (a0.Class.a2)), .p (u6 (a0.Class.a3)), .p (i6 (0)), .p (i6 (0)), .p (i6 (0)), .p (i6 (0)), .p (bo (false))])], L0, []⟩ trivial ?_
    refine WX.popBlk ?_
    refine WC.rg hn [] [2] [2] ⟨[(2, .ptr 2 0)], [(2, .box 77 [.p (i6 (a0.Kind)), .p (u6 (a0.Class.a0)), .p (u6 (a0.Class.a1)), .p (u6 (a0.Class.a2)), .p (u6 (a0.Class.a3)), .p (i6 (0)), .p (i6 (0)), .p (i6 (0)), .p (i6 (0)), .p (bo (false))])], L0, []⟩ trivial ?_
    refine WX.ret ?_
    exact WC.outP (by rw [← Option.some.inj h]; kernel_rfl)
  · refine WC.condF c5 (by kernel_rfl) ?_
    refine WX.seq ?_
    refine WC.rg hn [] [1, 2, 3, 8, 14] [1, 2, 3] ⟨[(1, .ptr 1 0), (2, .ptr 2 0), (3, .ptr 3 0), (8, .p (i6 (a0.Kind))), (14, .p (bo (((a0.Kind == 3)))))], [(1, .box 77 (vV1 a0)), (2, .box 77 [.p (i6 (0)), .p (u6 (0)), .p (u6 (0)), .p (u6 (0)), .p (u6 (0)), .p (i6 (0)), .p (i6 (0)), .p (i6 (0)), .p (i6 (0)), .p (bo (false))]), (3, .box 77 [.p (i6 (a0.Kind)), .p (u6 (0)), .p (u6 (0)), .p (u6 (0)), .p (u6 (0)), .p (i6 (0)), .p (i6 (0)), .p (i6 (0)), .p (i6 (0)), .p (bo (false))])], L0, []⟩ trivial ?_
    obtain ⟨J9, eJ9, h⟩ := jn_some h
    try dsimp only at h
    refine WC.join (α := Bool) (fun v9 => ⟨[(1, .ptr 1 0), (2, .ptr 2 0), (3, .ptr 3 0), (8, .p (i6 (a0.Kind))), (14, .p (bo (v9)))], [(1, .box 77 (vV1 a0)), (2, .box 77 [.p (i6 (0)), .p (u6 (0)), .p (u6 (0)), .p (u6 (0)), .p (u6 (0)), .p (i6 (0)), .p (i6 (0)), .p (i6 (0)), .p (i6 (0)), .p (bo (false))]), (3, .box 77 [.p (i6 (a0.Kind)), .p (u6 (0)), .p (u6 (0)), .p (u6 (0)), .p (u6 (0)), .p (i6 (0)), .p (i6 (0)), .p (i6 (0)), .p (i6 (0)), .p (bo (false))])], L0, []⟩) (fun v9 => J9 v9 = some r) ?_ (fun hJ9 => ?_)
    · rintro y9_1 h
      rw [eJ9] at h
      try dsimp only at h
      rcases if_or h with ⟨c12, h⟩ | ⟨c12, h⟩
      · refine WC.condT c12 (by kernel_rfl) ?_
        refine WC.rg hn [] [1, 2, 3] [1, 2, 3] ⟨[(1, .ptr 1 0), (2, .ptr 2 0), (3, .ptr 3 0)], [(1, .box 77 (vV1 a0)), (2, .box 77 [.p (i6 (0)), .p (u6 (0)), .p (u6 (0)), .p (u6 (0)), .p (u6 (0)), .p (i6 (0)), .p (i6 (0)), .p (i6 (0)), .p (i6 (0)), .p (bo (false))]), (3, .box 77 [.p (i6 (a0.Kind)), .p (u6 (0)), .p (u6 (0)), .p (u6 (0)), .p (u6 (0)), .p (i6 (a0.A)), .p (i6 (0)), .p (i6 (0)), .p (i6 (0)), .p (bo (false))])], L0, []⟩ trivial ?_
        refine WC.r1 hn [] [2, 3] [2, 3] ⟨[(2, .ptr 2 0), (3, .ptr 3 0)], [(2, .box 77 [.p (i6 (0)), .p (u6 (0)), .p (u6 (0)), .p (u6 (0)), .p (u6 (0)), .p (i6 (0)), .p (i6 (0)), .p (i6 (0)), .p (i6 (0)), .p (bo (false))]), (3, .box 77 [.p (i6 (a0.Kind)), .p (u6 (0)), .p (u6 (0)), .p (u6 (0)), .p (u6 (0)), .p (i6 (a0.A)), .p (i6 (a0.B)), .p (i6 (0)), .p (i6 (0)), .p (bo (false))])], L0, []⟩ trivial ?_
        refine WX.popBlk ?_
        refine WC.rg hn [] [2] [2] ⟨[(2, .ptr 2 0)], [(2, .box 77 [.p (i6 (a0.Kind)), .p (u6 (0)), .p (u6 (0)), .p (u6 (0)), .p (u6 (0)), .p (i6 (a0.A)), .p (i6 (a0.B)), .p (i6 (0)), .p (i6 (0)), .p (bo (false))])], L0, []⟩ trivial ?_
        refine WX.ret ?_
        exact WC.outP (by rw [← Option.some.inj h]; kernel_rfl)
      · refine WC.condF c12 (by kernel_rfl) ?_
        refine WC.rg hn [] [1, 2, 3, 23] [1, 2, 3] ⟨[(1, .ptr 1 0), (2, .ptr 2 0), (3, .ptr 3 0), (23, .p (bo (((a0.Kind == 5)))))], [(1, .box 77 (vV1 a0)), (2, .box 77 [.p (i6 (0)), .p (u6 (0)), .p (u6 (0)), .p (u6 (0)), .p (u6 (0)), .p (i6 (0)), .p (i6 (0)), .p (i6 (0)), .p (i6 (0)), .p (bo (false))]), (3, .box 77 [.p (i6 (a0.Kind)), .p (u6 (0)), .p (u6 (0)), .p (u6 (0)), .p (u6 (0)), .p (i6 (0)), .p (i6 (0)), .p (i6 (0)), .p (i6 (0)), .p (bo (false))])], L0, []⟩ trivial ?_
        rcases if_or h with ⟨c17, h⟩ | ⟨c17, h⟩
        · refine WC.condT c17 (by kernel_rfl) ?_
          refine WC.rg hn [] [1, 2, 3] [1, 2, 3] ⟨[(1, .ptr 1 0), (2, .ptr 2 0), (3, .ptr 3 0)], [(1, .box 77 (vV1 a0)), (2, .box 77 [.p (i6 (0)), .p (u6 (0)), .p (u6 (0)), .p (u6 (0)), .p (u6 (0)), .p (i6 (0)), .p (i6 (0)), .p (i6 (0)), .p (i6 (0)), .p (bo (false))]), (3, .box 77 [.p (i6 (a0.Kind)), .p (u6 (0)), .p (u6 (0)), .p (u6 (0)), .p (u6 (0)), .p (i6 (a0.A)), .p (i6 (0)), .p (i6 (0)), .p (i6 (0)), .p (bo (false))])], L0, []⟩ trivial ?_
          refine WC.rg hn [] [1, 2, 3] [1, 2, 3] ⟨[(1, .ptr 1 0), (2, .ptr 2 0), (3, .ptr 3 0)], [(1, .box 77 (vV1 a0)), (2, .box 77 [.p (i6 (0)), .p (u6 (0)), .p (u6 (0)), .p (u6 (0)), .p (u6 (0)), .p (i6 (0)), .p (i6 (0)), .p (i6 (0)), .p (i6 (0)), .p (bo (false))]), (3, .box 77 [.p (i6 (a0.Kind)), .p (u6 (0)), .p (u6 (0)), .p (u6 (0)), .p (u6 (0)), .p (i6 (a0.A)), .p (i6 (0)), .p (i6 (a0.Least)), .p (i6 (0)), .p (bo (false))])], L0, []⟩ trivial ?_
          refine WC.rg hn [] [1, 2, 3] [1, 2, 3] ⟨[(1, .ptr 1 0), (2, .ptr 2 0), (3, .ptr 3 0)], [(1, .box 77 (vV1 a0)), (2, .box 77 [.p (i6 (0)), .p (u6 (0)), .p (u6 (0)), .p (u6 (0)), .p (u6 (0)), .p (i6 (0)), .p (i6 (0)), .p (i6 (0)), .p (i6 (0)), .p (bo (false))]), (3, .box 77 [.p (i6 (a0.Kind)), .p (u6 (0)), .p (u6 (0)), .p (u6 (0)), .p (u6 (0)), .p (i6 (a0.A)), .p (i6 (0)), .p (i6 (a0.Least)), .p (i6 (a0.Most)), .p (bo (false))])], L0, []⟩ trivial ?_
          refine WC.r1 hn [] [2, 3] [2, 3] ⟨[(2, .ptr 2 0), (3, .ptr 3 0)], [(2, .box 77 [.p (i6 (0)), .p (u6 (0)), .p (u6 (0)), .p (u6 (0)), .p (u6 (0)), .p (i6 (0)), .p (i6 (0)), .p (i6 (0)), .p (i6 (0)), .p (bo (false))]), (3, .box 77 [.p (i6 (a0.Kind)), .p (u6 (0)), .p (u6 (0)), .p (u6 (0)), .p (u6 (0)), .p (i6 (a0.A)), .p (i6 (0)), .p (i6 (a0.Least)), .p (i6 (a0.Most)), .p (bo (a0.Lazy))])], L0, []⟩ trivial ?_
          refine WX.popBlk ?_
          refine WC.rg hn [] [2] [2] ⟨[(2, .ptr 2 0)], [(2, .box 77 [.p (i6 (a0.Kind)), .p (u6 (0)), .p (u6 (0)), .p (u6 (0)), .p (u6 (0)), .p (i6 (a0.A)), .p (i6 (0)), .p (i6 (a0.Least)), .p (i6 (a0.Most)), .p (bo (a0.Lazy))])], L0, []⟩ trivial ?_
          refine WX.ret ?_
          exact WC.outP (by rw [← Option.some.inj h]; kernel_rfl)
        · refine WC.condF c17 (by kernel_rfl) ?_
          refine WX.skip ?_
          refine WX.popBlk ?_
          refine WC.rg hn [] [2] [2] ⟨[(2, .ptr 2 0)], [(2, .box 77 [.p (i6 (a0.Kind)), .p (u6 (0)), .p (u6 (0)), .p (u6 (0)), .p (u6 (0)), .p (i6 (0)), .p (i6 (0)), .p (i6 (0)), .p (i6 (0)), .p (bo (false))])], L0, []⟩ trivial ?_
          refine WX.ret ?_
          exact WC.outP (by rw [← Option.some.inj h]; kernel_rfl)
    · replace hJ9 := fun y9_1 => hJ9 y9_1
      rcases if_or h with ⟨c24, h⟩ | ⟨c24, h⟩
      · refine WC.condT c24 (by kernel_rfl) ?_
        refine WX.skip ?_
        exact WC.keep [1, 2, 3, 8, 14] [1, 2, 3] (by kernel_rfl) (hJ9 ((a0.Kind == 3)) h)
      · refine WC.condF c24 (by kernel_rfl) ?_
        refine WC.r1 hn [] [1, 2, 3, 8, 14] [1, 2, 3] ⟨[(1, .ptr 1 0), (2, .ptr 2 0), (3, .ptr 3 0), (8, .p (i6 (a0.Kind))), (14, .p (bo (((a0.Kind == 4)))))], [(1, .box 77 (vV1 a0)), (2, .box 77 [.p (i6 (0)), .p (u6 (0)), .p (u6 (0)), .p (u6 (0)), .p (u6 (0)), .p (i6 (0)), .p (i6 (0)), .p (i6 (0)), .p (i6 (0)), .p (bo (false))]), (3, .box 77 [.p (i6 (a0.Kind)), .p (u6 (0)), .p (u6 (0)), .p (u6 (0)), .p (u6 (0)), .p (i6 (0)), .p (i6 (0)), .p (i6 (0)), .p (i6 (0)), .p (bo (false))])], L0, []⟩ trivial ?_
        exact WC.keep [1, 2, 3, 8, 14] [1, 2, 3] (by kernel_rfl) (hJ9 ((a0.Kind == 4)) h)
end Go.Proofs.YtpifpjeeijhhdaaDoor
