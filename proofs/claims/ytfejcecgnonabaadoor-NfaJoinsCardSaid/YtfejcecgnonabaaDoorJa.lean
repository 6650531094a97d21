/- YtfejcecgnonabaaDoorJa: a part of the proof; see the last text for what is proved. -/
import Derived.Test.YtfejcecgnonabaaDoorAbExp
import Derived.Test.YtfejcecgnonabaaDoorProg
import Derived.KernelRfl
set_option maxRecDepth 100000
set_option linter.unusedVariables false
set_option linter.unusedSimpArgs false
namespace Go.Proofs.YtfejcecgnonabaaDoor
open Go.AE
def tab0 : List Int := [0, 1, 56, 2, 57, 49, 28, 3, 61, 58, 42, 50, 38, 29, 17, 4, 62, 47, 59, 36, 45, 43, 51, 22, 53, 39, 33, 30, 24, 18, 12, 5, 63, 55, 48, 27, 60, 41, 37, 16, 46, 35, 44, 21, 52, 32, 23, 11, 54, 26, 40, 15, 34, 20, 31, 10, 25, 14, 19, 9, 13, 8, 7, 6]
structure S7 where
  x : Int
  y : Int
  signed : Bool
  code : Int
def e_S7 : Enc S7 := ⟨fun x => [.s (.int .i64 x.x), .s (.int .i64 x.y), .s (.bool x.signed), .s (.int .u8 x.code)], 4, fun _ => rfl, by decide⟩
structure runtime_boundsError where
  x : Int
  y : Int
  signed : Bool
  code : Int
def e_runtime_boundsError : Enc runtime_boundsError := ⟨fun x => [.s (.int .i64 x.x), .s (.int .i64 x.y), .s (.bool x.signed), .s (.int .u8 x.code)], 4, fun _ => rfl, by decide⟩
structure S13 where
  msg : ByteArray
  addr : Int
def e_S13 : Enc S13 := ⟨fun x => [.s (.string x.msg), .s (.int .u64 x.addr)], 2, fun _ => rfl, by decide⟩
structure runtime_errorAddressString where
  msg : ByteArray
  addr : Int
def e_runtime_errorAddressString : Enc runtime_errorAddressString := ⟨fun x => [.s (.string x.msg), .s (.int .u64 x.addr)], 2, fun _ => rfl, by decide⟩
structure S24 where
  N : Int
  Words : (List Int)
def e_S24 : Enc S24 := ⟨fun x => [.s (.int .i64 x.N), slV (eI .u64) x.Words], 2, fun _ => rfl, by decide⟩
structure api_Bits where
  N : Int
  Words : (List Int)
def e_api_Bits : Enc api_Bits := ⟨fun x => [.s (.int .i64 x.N), slV (eI .u64) x.Words], 2, fun _ => rfl, by decide⟩
structure S27 where
  Classes : (List (Arr4 Int))
  First : api_Bits
  Last : api_Bits
  Follow : (List api_Bits)
  Null : Bool
def e_S27 : Enc S27 := ⟨fun x => [slV (e4 (eI .u64)) x.Classes, .s (.int .i64 x.First.N), slV (eI .u64) x.First.Words, .s (.int .i64 x.Last.N), slV (eI .u64) x.Last.Words, slV e_api_Bits x.Follow, .s (.bool x.Null)], 7, fun _ => rfl, by decide⟩
structure api_Nfa where
  Classes : (List (Arr4 Int))
  First : api_Bits
  Last : api_Bits
  Follow : (List api_Bits)
  Null : Bool
def e_api_Nfa : Enc api_Nfa := ⟨fun x => [slV (e4 (eI .u64)) x.Classes, .s (.int .i64 x.First.N), slV (eI .u64) x.First.Words, .s (.int .i64 x.Last.N), slV (eI .u64) x.Last.Words, slV e_api_Bits x.Follow, .s (.bool x.Null)], 7, fun _ => rfl, by decide⟩
structure S30 where
  Nfa : api_Nfa
  State : api_Bits
  Begin : Bool
  W : (List Int)
  From : Int
  Hat : Bool
  Multi : Bool
def e_S30 : Enc S30 := ⟨fun x => [slV (e4 (eI .u64)) x.Nfa.Classes, .s (.int .i64 x.Nfa.First.N), slV (eI .u64) x.Nfa.First.Words, .s (.int .i64 x.Nfa.Last.N), slV (eI .u64) x.Nfa.Last.Words, slV e_api_Bits x.Nfa.Follow, .s (.bool x.Nfa.Null), .s (.int .i64 x.State.N), slV (eI .u64) x.State.Words, .s (.bool x.Begin), slV (eI .u8) x.W, .s (.int .i64 x.From), .s (.bool x.Hat), .s (.bool x.Multi)], 14, fun _ => rfl, by decide⟩
structure riddlelaw11_Case where
  Nfa : api_Nfa
  State : api_Bits
  Begin : Bool
  W : (List Int)
  From : Int
  Hat : Bool
  Multi : Bool
def e_riddlelaw11_Case : Enc riddlelaw11_Case := ⟨fun x => [slV (e4 (eI .u64)) x.Nfa.Classes, .s (.int .i64 x.Nfa.First.N), slV (eI .u64) x.Nfa.First.Words, .s (.int .i64 x.Nfa.Last.N), slV (eI .u64) x.Nfa.Last.Words, slV e_api_Bits x.Nfa.Follow, .s (.bool x.Nfa.Null), .s (.int .i64 x.State.N), slV (eI .u64) x.State.Words, .s (.bool x.Begin), slV (eI .u8) x.W, .s (.int .i64 x.From), .s (.bool x.Hat), .s (.bool x.Multi)], 14, fun _ => rfl, by decide⟩
structure api_Node where
  Kind : Int
  Class : (Arr4 Int)
  A : Int
  B : Int
  Least : Int
  Most : Int
  Lazy : Bool
def e_api_Node : Enc api_Node := ⟨fun x => [.s (.int .i64 x.Kind), .s (.int .u64 x.Class.a0), .s (.int .u64 x.Class.a1), .s (.int .u64 x.Class.a2), .s (.int .u64 x.Class.a3), .s (.int .i64 x.A), .s (.int .i64 x.B), .s (.int .i64 x.Least), .s (.int .i64 x.Most), .s (.bool x.Lazy)], 10, fun _ => rfl, by decide⟩
structure S40 where
  Nodes : (List api_Node)
def e_S40 : Enc S40 := ⟨fun x => [slV e_api_Node x.Nodes], 1, fun _ => rfl, by decide⟩
structure api_Tree where
  Nodes : (List api_Node)
def e_api_Tree : Enc api_Tree := ⟨fun x => [slV e_api_Node x.Nodes], 1, fun _ => rfl, by decide⟩
structure S72 where
  Kind : Int
  Class : (Arr4 Int)
  A : Int
  B : Int
  Least : Int
  Most : Int
  Lazy : Bool
def e_S72 : Enc S72 := ⟨fun x => [.s (.int .i64 x.Kind), .s (.int .u64 x.Class.a0), .s (.int .u64 x.Class.a1), .s (.int .u64 x.Class.a2), .s (.int .u64 x.Class.a3), .s (.int .i64 x.A), .s (.int .i64 x.B), .s (.int .i64 x.Least), .s (.int .i64 x.Most), .s (.bool x.Lazy)], 10, fun _ => rfl, by decide⟩
abbrev i6 (x : Int) : PV := .s (.int .i64 x)
abbrev bo (x : Bool) : PV := .s (.bool x)
abbrev sW (l : List Int) : PV := slV (eI .u64) l
abbrev sC (l : List (Arr4 Int)) : PV := slV (e4 (eI .u64)) l
abbrev sB (l : List api_Bits) : PV := slV e_api_Bits l
def slices_Equal_int_int_l0 (a0 : (List Int)) (a1 : (List Int)) (J6 : Unit → Option (Bool)) : Nat → Int → Option (Bool)
  | 0, _ => none
  | k + 1, x23_1_1 => (if (decide (x23_1_1 < (a0.length : Int))) = true then (at_ a0 x23_1_1).bind fun t41_2 => (at_ a1 x23_1_1).bind fun t41_4 => (if (t41_2 != t41_4) = true then some false else slices_Equal_int_int_l0 a0 a1 J6 k ((IntKind.i64.wrap (x23_1_1 + 1)))) else J6 ())
def slices_Equal_int_int (k : Nat) (a0 : (List Int)) (a1 : (List Int)) : Option (Bool) :=
  (if ((a0.length : Int) != (a1.length : Int)) = true then some false else jn (fun (v6 : Unit) => some true) fun J6 => slices_Equal_int_int_l0 a0 a1 J6 k 0)
theorem slices_Equal_int_int_ok {k : Nat} {a0 : (List Int)} {a1 : (List Int)} {r : Bool} (h : slices_Equal_int_int k a0 a1 = some r) : Ans Tryd.prog 10 [slV (eI .i64) a0, slV (eI .i64) a1] (bo (r)) := by
  refine W_fn Tryd.func10 rfl (by kernel_rfl) (by kernel_rfl) ?_
  intro X hro hn
  unfold slices_Equal_int_int at h
  refine WX.seq ?_
  refine WC.reg (n := 26) hn [] [0, 1] [] ⟨[(0, .p (slV (eI .i64) a0)), (1, .p (slV (eI .i64) a1))], [], ⟨[], false⟩, []⟩ trivial (by kernel_rfl) ?_
  refine WX.seq ?_
  refine WX.seq ?_
  refine WC.reg (n := 26) hn [] [0, 1, 10] [] ⟨[(0, .p (slV (eI .i64) a0)), (1, .p (slV (eI .i64) a1)), (10, .p (bo ((((a0.length : Int) != (a1.length : Int))))))], [], ⟨[], false⟩, []⟩ trivial (by kernel_rfl) ?_
  rcases if_or h with ⟨c3, h⟩ | ⟨c3, h⟩
  · refine WC.condT c3 (by kernel_rfl) ?_
    refine WX.seq ?_
    refine WC.reg (n := 26) hn [] [4] [] ⟨[(4, .p (bo (false)))], [], ⟨[], false⟩, []⟩ trivial (by kernel_rfl) ?_
    refine WX.ret ?_
    exact WC.outP (by rw [← Option.some.inj h]; kernel_rfl)
  · refine WC.condF c3 (by kernel_rfl) ?_
    refine WX.skip ?_
    refine WX.seq ?_
    refine WX.seq ?_
    refine WC.reg (n := 26) hn [] [0, 1, 12, 13] [] ⟨[(0, .p (slV (eI .i64) a0)), (1, .p (slV (eI .i64) a1)), (12, .p (i6 (((a0.length : Int))))), (13, .p (i6 (0)))], [], ⟨[], false⟩, []⟩ trivial (by kernel_rfl) ?_
    obtain ⟨J6, eJ6, h⟩ := jn_some h
    try dsimp only at h
    refine WC.join (α := Unit) (fun v6 => ⟨[], [], ⟨[], false⟩, []⟩) (fun v6 => J6 v6 = some r) ?_ (fun hJ6 => ?_)
    · rintro _ h
      rw [eJ6] at h
      try dsimp only at h
      refine WX.seq ?_
      refine WC.reg (n := 26) hn [] [4] [] ⟨[(4, .p (bo (true)))], [], ⟨[], false⟩, []⟩ trivial (by kernel_rfl) ?_
      refine WX.ret ?_
      exact WC.outP (by rw [← Option.some.inj h]; kernel_rfl)
    · skip
      refine WX.block ?_
      refine WC.loop (V := Int) (slices_Equal_int_int_l0 a0 a1 J6) r (fun v23 => ⟨[(0, .p (slV (eI .i64) a0)), (1, .p (slV (eI .i64) a1)), (12, .p (i6 (((a0.length : Int))))), (13, .p (i6 (v23)))], [], ⟨[], false⟩, []⟩) _ 0 h (fun _ => rfl) [0, 1, 12, 13] [] (by kernel_rfl) ?_
      clear h; rintro k x23_1_1 h K23 hnext23 hexit23
      rw [slices_Equal_int_int_l0] at h
      refine WX.seq ?_
      refine WC.reg (n := 26) hn [] [0, 1, 12, 13, 14] [] ⟨[(0, .p (slV (eI .i64) a0)), (1, .p (slV (eI .i64) a1)), (12, .p (i6 (((a0.length : Int))))), (13, .p (i6 (x23_1_1))), (14, .p (bo (((decide (x23_1_1 < (a0.length : Int)))))))], [], ⟨[], false⟩, []⟩ trivial (by kernel_rfl) ?_
      refine WX.seq ?_
      rcases if_or h with ⟨c39, h⟩ | ⟨c39, h⟩
      · refine WC.condT c39 (by kernel_rfl) ?_
        refine WX.skip ?_
        refine WX.seq ?_
        refine WX.block ?_
        refine WX.seq ?_
        refine WC.reg (n := 26) hn [] [0, 1, 5, 12, 13] [] ⟨[(0, .p (slV (eI .i64) a0)), (1, .p (slV (eI .i64) a1)), (5, .p (i6 (x23_1_1))), (12, .p (i6 (((a0.length : Int))))), (13, .p (i6 (x23_1_1)))], [], ⟨[], false⟩, []⟩ trivial (by kernel_rfl) ?_
        refine WX.seq ?_
        obtain ⟨t41_2, h41_1, h⟩ := bind_some h
        obtain ⟨t41_4, h41_3, h⟩ := bind_some h
        refine WC.drw (n := 26) hn [] [] [(2, .val (.p (.rop ((eI .i64).cells t41_2 ++ encL (eI .i64) (a0.drop (x23_1_1.toNat + 1)))))), (6, .val (.p (.rop ((eI .i64).cells t41_4 ++ encL (eI .i64) (a1.drop (x23_1_1.toNat + 1))))))] [0, 1, 12, 13, 24] [] ⟨[(0, .p (slV (eI .i64) a0)), (1, .p (slV (eI .i64) a1)), (12, .p (i6 (((a0.length : Int))))), (13, .p (i6 (x23_1_1))), (24, .p (bo (((t41_2 != t41_4)))))], [], ⟨[], false⟩, []⟩ (And.intro (Ix (eI .i64) h41_1) (And.intro (Ix (eI .i64) h41_3) (trivial))) (by kernel_rfl) (by kernel_rfl) (by kernel_rfl) (by kernel_rfl) ?_
        rcases if_or h with ⟨c42, h⟩ | ⟨c42, h⟩
        · refine WC.condT c42 (by kernel_rfl) ?_
          refine WX.seq ?_
          refine WC.reg (n := 26) hn [] [4] [] ⟨[(4, .p (bo (false)))], [], ⟨[], false⟩, []⟩ trivial (by kernel_rfl) ?_
          refine WX.ret ?_
          refine WC.ret_all (hexit23 _ _ (by simp) ?_)
          exact WC.outP (by rw [← Option.some.inj h]; kernel_rfl)
        · refine WC.condF c42 (by kernel_rfl) ?_
          refine WX.skip ?_
          refine WX.popBlk ?_
          refine WC.reg (n := 26) hn [] [0, 1, 12, 13] [] ⟨[(0, .p (slV (eI .i64) a0)), (1, .p (slV (eI .i64) a1)), (12, .p (i6 (((a0.length : Int))))), (13, .p (i6 (((IntKind.i64.wrap (x23_1_1 + 1))))))], [], ⟨[], false⟩, []⟩ trivial (by kernel_rfl) ?_
          exact WC.next [0, 1, 12, 13] [] (by kernel_rfl) (hnext23 ((IntKind.i64.wrap (x23_1_1 + 1))) h)
      · refine WC.condF c39 (by kernel_rfl) ?_
        refine WX.exit ?_
        refine WX.popCodeExit ?_
        refine WC.exit_nil (hexit23 _ _ (by simp) ?_)
        refine WX.popBlkHit ?_
        exact WC.keep [] [] (by kernel_rfl) (hJ6 () h)
def bits_words (a0 : Int) : Option (Int) :=
  some ((IntKind.i64.wrap (((IntKind.i64.wrap (a0 + 63))).tdiv 64)))
theorem bits_words_ok {a0 : Int} {r : Int} (h : bits_words a0 = some r) : Ans Tryd.prog 115 [i6 (a0)] (i6 (r)) := by
  refine W_fn Tryd.func115 rfl (by kernel_rfl) (by kernel_rfl) ?_
  intro X hro hn
  unfold bits_words at h
  refine WX.seq ?_
  refine WC.reg (n := 6) hn [] [0] [] ⟨[(0, .p (i6 (a0)))], [], ⟨[], false⟩, []⟩ trivial (by kernel_rfl) ?_
  refine WX.seq ?_
  refine WC.reg (n := 6) hn [] [2] [] ⟨[(2, .p (i6 (((IntKind.i64.wrap (((IntKind.i64.wrap (a0 + 63))).tdiv 64))))))], [], ⟨[], false⟩, []⟩ trivial (by kernel_rfl) ?_
  refine WX.ret ?_
  exact WC.outP (by rw [← Option.some.inj h]; kernel_rfl)
def bits_Check (a0 : api_Bits) : Option (Int) :=
  ((if (decide (a0.N < 0)) = true then some true else (if (decide (a0.N > 8192)) = true then some true else (bits_words a0.N).bind fun t2_2 => some (((a0.Words.length : Int) != t2_2)))) : Option (Bool)).bind fun v2 => (if v2 = true then some 10 else ((if (decide ((a0.N.tmod 64) > 0)) = true then (at_ a0.Words ((IntKind.i64.wrap ((a0.Words.length : Int) - 1)))).bind fun t6_2 => (if ¬ (a0.N.tmod 64) < 0 then some (((t6_2.fdiv (2 ^ (min ((a0.N.tmod 64)).toNat IntKind.u64.bits))) != 0)) else none) else some false) : Option (Bool)).bind fun v6 => (if v6 = true then some 10 else some 0))
theorem bits_Check_ok {a0 : api_Bits} {r : Int} (h : bits_Check a0 = some r) : Ans Tryd.prog 87 [.agg [i6 (a0.N), sW a0.Words]] (i6 (r)) := by
  refine W_fn Tryd.func87 rfl (by kernel_rfl) (by kernel_rfl) ?_
  intro X hro hn
  unfold bits_Check at h
  refine WX.seq ?_
  refine WC.reg (n := 39) hn [] [1] [1] ⟨[(1, .ptr 1 0)], [(1, .box 25 [.p (i6 (a0.N)), .p (sW a0.Words)])], ⟨[], false⟩, []⟩ trivial (by kernel_rfl) ?_
  refine WX.seq ?_
  refine WX.seq ?_
  obtain ⟨m2_1, g2, h⟩ := bind_some h
  refine WC.via (α := Bool) (fun v2 => ⟨[(1, .ptr 1 0), (20, .p (bo (v2)))], [(1, .box 25 [.p (i6 (a0.N)), .p (sW a0.Words)])], ⟨[], false⟩, []⟩) m2_1 (fun hk => ?_) ?_
  · rcases if_or g2 with ⟨b2_3, g2⟩ | ⟨b2_3, g2⟩
    · exact WC.drw (n := 39) hn [] [] [(3, .val (.p (bo (true))))] [1, 20] [1] ⟨[(1, .ptr 1 0), (20, .p (bo (true)))], [(1, .box 25 [.p (i6 (a0.N)), .p (sW a0.Words)])], ⟨[], false⟩, []⟩ (And.intro (Bl b2_3) (trivial)) (by kernel_rfl) (by kernel_rfl) (by kernel_rfl) (by kernel_rfl) (hk true (Option.some.inj g2))
    · rcases if_or g2 with ⟨b2_8, g2⟩ | ⟨b2_8, g2⟩
      · exact WC.drw (n := 39) hn [] [] [(3, .val (.p (bo (false)))), (8, .val (.p (bo (true))))] [1, 20] [1] ⟨[(1, .ptr 1 0), (20, .p (bo (true)))], [(1, .box 25 [.p (i6 (a0.N)), .p (sW a0.Words)])], ⟨[], false⟩, []⟩ (And.intro (Bl b2_3) (And.intro (Bl b2_8) (trivial))) (by kernel_rfl) (by kernel_rfl) (by kernel_rfl) (by kernel_rfl) (hk true (Option.some.inj g2))
      · obtain ⟨t2_2, h2_1, g2⟩ := bind_some g2
        exact WC.drw (n := 39) hn [] [] [(3, .val (.p (bo (false)))), (8, .val (.p (bo (false)))), (14, .resP (i6 (t2_2)))] [1, 20] [1] ⟨[(1, .ptr 1 0), (20, .p (bo ((((a0.Words.length : Int) != t2_2)))))], [(1, .box 25 [.p (i6 (a0.N)), .p (sW a0.Words)])], ⟨[], false⟩, []⟩ (And.intro (Bl b2_3) (And.intro (Bl b2_8) (And.intro ((bits_words_ok h2_1)) (trivial)))) (by kernel_rfl) (by kernel_rfl) (by kernel_rfl) (by kernel_rfl) (hk (((a0.Words.length : Int) != t2_2)) (Option.some.inj g2))
  rcases if_or h with ⟨c3, h⟩ | ⟨c3, h⟩
  · refine WC.condT c3 (by kernel_rfl) ?_
    refine WX.seq ?_
    refine WC.reg (n := 39) hn [] [2] [] ⟨[(2, .p (i6 (10)))], [], ⟨[], false⟩, []⟩ trivial (by kernel_rfl) ?_
    refine WX.ret ?_
    exact WC.outP (by rw [← Option.some.inj h]; kernel_rfl)
  · refine WC.condF c3 (by kernel_rfl) ?_
    refine WX.skip ?_
    refine WX.seq ?_
    refine WX.seq ?_
    refine WC.reg (n := 39) hn [] [1, 3] [1] ⟨[(1, .ptr 1 0), (3, .p (i6 (((a0.N.tmod 64)))))], [(1, .box 25 [.p (i6 (a0.N)), .p (sW a0.Words)])], ⟨[], false⟩, []⟩ trivial (by kernel_rfl) ?_
    refine WX.seq ?_
    obtain ⟨m6_1, g6, h⟩ := bind_some h
    refine WC.via (α := Bool) (fun v6 => ⟨[(38, .p (bo (v6)))], [], ⟨[], false⟩, []⟩) m6_1 (fun hk => ?_) ?_
    · rcases if_or g6 with ⟨b6_2, g6⟩ | ⟨b6_2, g6⟩
      · obtain ⟨t6_2, h6_1, g6⟩ := bind_some g6
        obtain ⟨c6_3, g6⟩ := if_some g6
        exact WC.reg (n := 39) hn [(2, .val (.p (bo (true)))), (9, .val (.p (.rop ((eI .u64).cells t6_2 ++ encL (eI .u64) (a0.Words.drop (((IntKind.i64.wrap ((a0.Words.length : Int) - 1))).toNat + 1)))))), (12, .val (.p (.s (.int .u64 (t6_2.fdiv (2 ^ (min ((a0.N.tmod 64)).toNat IntKind.u64.bits)))))))] [38] [] ⟨[(38, .p (bo ((((t6_2.fdiv (2 ^ (min ((a0.N.tmod 64)).toNat IntKind.u64.bits))) != 0)))))], [], ⟨[], false⟩, []⟩ (And.intro (Bl b6_2) (And.intro (Ix (eI .u64) h6_1) (And.intro (Shr .u64 t6_2 ((a0.N.tmod 64)) c6_3) (trivial)))) (by kernel_rfl) (hk (((t6_2.fdiv (2 ^ (min ((a0.N.tmod 64)).toNat IntKind.u64.bits))) != 0)) (Option.some.inj g6))
      · exact WC.reg (n := 39) hn [(2, .val (.p (bo (false))))] [38] [] ⟨[(38, .p (bo (false)))], [], ⟨[], false⟩, []⟩ (And.intro (Bl b6_2) (trivial)) (by kernel_rfl) (hk false (Option.some.inj g6))
    rcases if_or h with ⟨c7, h⟩ | ⟨c7, h⟩
    · refine WC.condT c7 (by kernel_rfl) ?_
      refine WX.seq ?_
      refine WC.reg (n := 39) hn [] [2] [] ⟨[(2, .p (i6 (10)))], [], ⟨[], false⟩, []⟩ trivial (by kernel_rfl) ?_
      refine WX.ret ?_
      exact WC.outP (by rw [← Option.some.inj h]; kernel_rfl)
    · refine WC.condF c7 (by kernel_rfl) ?_
      refine WX.skip ?_
      refine WX.seq ?_
      refine WC.reg (n := 39) hn [] [2] [] ⟨[(2, .p (i6 (0)))], [], ⟨[], false⟩, []⟩ trivial (by kernel_rfl) ?_
      refine WX.ret ?_
      exact WC.outP (by rw [← Option.some.inj h]; kernel_rfl)
def glushkov_Check_1_v1 (a0 : api_Bits) (a1 : Int) : Option (Bool) :=
  (bits_Check a0).bind fun t2_2 => some ((((t2_2 != 0)) || ((a0.N != a1))))
theorem glushkov_Check_1_v1_ok {a0 : api_Bits} {a1 : Int} {r : Bool} (h : glushkov_Check_1_v1 a0 a1 = some r) : Ans Tryd.prog 112 [.agg [i6 (a0.N), sW a0.Words], .rop ([i6 (a1)])] (bo (r)) := by
  refine W_fn Tryd.func112 rfl (by kernel_rfl) (by kernel_rfl) ?_
  intro X hro hn
  unfold glushkov_Check_1_v1 at h
  refine WX.seq ?_
  refine WC.reg (n := 13) hn [] [1, 2] [2] ⟨[(1, .p (.rop ([i6 (a1)]))), (2, .ptr 2 0)], [(2, .box 25 [.p (i6 (a0.N)), .p (sW a0.Words)])], ⟨[], false⟩, []⟩ trivial (by kernel_rfl) ?_
  refine WX.seq ?_
  obtain ⟨t2_2, h2_1, h⟩ := bind_some h
  refine WC.via (α := Bool) (fun v2 => ⟨[(3, .p (bo (v2)))], [], ⟨[], false⟩, []⟩) ((((t2_2 != 0)) || ((a0.N != a1)))) (fun hk => ?_) ?_
  · rcases Bool.eq_false_or_eq_true ((t2_2 != 0)) with b2_3 | b2_3
    · exact WC.reg (n := 13) hn [(1, .resP (i6 (t2_2))), (3, .val (.p (bo (true))))] [3] [] ⟨[(3, .p (bo (true)))], [], ⟨[], false⟩, []⟩ (And.intro ((bits_Check_ok h2_1)) (And.intro (Bl b2_3) (trivial))) (by kernel_rfl) (hk true (by first | (rw [b2_3]; rfl) | simp [b2_3]))
    · exact WC.reg (n := 13) hn [(1, .resP (i6 (t2_2))), (3, .val (.p (bo (false))))] [3] [] ⟨[(3, .p (bo (((a0.N != a1)))))], [], ⟨[], false⟩, []⟩ (And.intro ((bits_Check_ok h2_1)) (And.intro (Bl b2_3) (trivial))) (by kernel_rfl) (hk ((a0.N != a1)) (by first | (rw [b2_3]; rfl) | simp [b2_3]))
  refine WX.ret ?_
  exact WC.outP (by rw [← Option.some.inj h]; kernel_rfl)
def slices_IndexFunc_riddle_api_Bits_riddle_api_Bits_v1_l0 (a0 : (List api_Bits)) (a1 : (Int)) (J3 : Unit → Option (Int)) : Nat → Int → Option (Int)
  | 0, _ => none
  | k + 1, x20_1_1 => (if (decide (x20_1_1 < (a0.length : Int))) = true then (at_ a0 x20_1_1).bind fun t38_2 => (glushkov_Check_1_v1 t38_2 a1).bind fun t38_4 => (if t38_4 = true then some x20_1_1 else slices_IndexFunc_riddle_api_Bits_riddle_api_Bits_v1_l0 a0 a1 J3 k ((IntKind.i64.wrap (x20_1_1 + 1)))) else J3 ())
def slices_IndexFunc_riddle_api_Bits_riddle_api_Bits_v1 (k : Nat) (a0 : (List api_Bits)) (a1 : (Int)) : Option (Int) :=
  jn (fun (v3 : Unit) => some ((-1))) fun J3 => slices_IndexFunc_riddle_api_Bits_riddle_api_Bits_v1_l0 a0 a1 J3 k 0
theorem slices_IndexFunc_riddle_api_Bits_riddle_api_Bits_v1_ok {k : Nat} {a0 : (List api_Bits)} {a1 : (Int)} {r : Int} (h : slices_IndexFunc_riddle_api_Bits_riddle_api_Bits_v1 k a0 a1 = some r) : Ans Tryd.prog 128 [sB a0, .fn 112 [.rop ([i6 (a1)])]] (i6 (r)) := by
  refine W_fn Tryd.func128 rfl (by kernel_rfl) (by kernel_rfl) ?_
  intro X hro hn
  unfold slices_IndexFunc_riddle_api_Bits_riddle_api_Bits_v1 at h
  refine WX.seq ?_
  refine WC.reg (n := 19) hn [] [0, 1] [] ⟨[(0, .p (sB a0)), (1, .p (.fn 112 [.rop ([i6 (a1)])]))], [], ⟨[], false⟩, []⟩ trivial (by kernel_rfl) ?_
  refine WX.seq ?_
  refine WX.seq ?_
  refine WC.reg (n := 19) hn [] [0, 1, 7, 8] [] ⟨[(0, .p (sB a0)), (1, .p (.fn 112 [.rop ([i6 (a1)])])), (7, .p (i6 (((a0.length : Int))))), (8, .p (i6 (0)))], [], ⟨[], false⟩, []⟩ trivial (by kernel_rfl) ?_
  obtain ⟨J3, eJ3, h⟩ := jn_some h
  try dsimp only at h
  refine WC.join (α := Unit) (fun v3 => ⟨[], [], ⟨[], false⟩, []⟩) (fun v3 => J3 v3 = some r) ?_ (fun hJ3 => ?_)
  · rintro _ h
    rw [eJ3] at h
    try dsimp only at h
    refine WX.seq ?_
    refine WC.reg (n := 19) hn [] [4] [] ⟨[(4, .p (i6 (((-1)))))], [], ⟨[], false⟩, []⟩ trivial (by kernel_rfl) ?_
    refine WX.ret ?_
    exact WC.outP (by rw [← Option.some.inj h]; kernel_rfl)
  · skip
    refine WX.block ?_
    refine WC.loop (V := Int) (slices_IndexFunc_riddle_api_Bits_riddle_api_Bits_v1_l0 a0 a1 J3) r (fun v20 => ⟨[(0, .p (sB a0)), (1, .p (.fn 112 [.rop ([i6 (a1)])])), (7, .p (i6 (((a0.length : Int))))), (8, .p (i6 (v20)))], [], ⟨[], false⟩, []⟩) _ 0 h (fun _ => rfl) [0, 1, 7, 8] [] (by kernel_rfl) ?_
    clear h; rintro k x20_1_1 h K20 hnext20 hexit20
    rw [slices_IndexFunc_riddle_api_Bits_riddle_api_Bits_v1_l0] at h
    refine WX.seq ?_
    refine WC.reg (n := 19) hn [] [0, 1, 7, 8, 9] [] ⟨[(0, .p (sB a0)), (1, .p (.fn 112 [.rop ([i6 (a1)])])), (7, .p (i6 (((a0.length : Int))))), (8, .p (i6 (x20_1_1))), (9, .p (bo (((decide (x20_1_1 < (a0.length : Int)))))))], [], ⟨[], false⟩, []⟩ trivial (by kernel_rfl) ?_
    refine WX.seq ?_
    rcases if_or h with ⟨c36, h⟩ | ⟨c36, h⟩
    · refine WC.condT c36 (by kernel_rfl) ?_
      refine WX.skip ?_
      refine WX.seq ?_
      refine WX.block ?_
      refine WX.seq ?_
      refine WC.reg (n := 19) hn [] [0, 1, 5, 7, 8] [] ⟨[(0, .p (sB a0)), (1, .p (.fn 112 [.rop ([i6 (a1)])])), (5, .p (i6 (x20_1_1))), (7, .p (i6 (((a0.length : Int))))), (8, .p (i6 (x20_1_1)))], [], ⟨[], false⟩, []⟩ trivial (by kernel_rfl) ?_
      refine WX.seq ?_
      obtain ⟨t38_2, h38_1, h⟩ := bind_some h
      obtain ⟨t38_4, h38_3, h⟩ := bind_some h
      refine WC.reg (n := 19) hn [(3, .val (.p (.rop (e_api_Bits.cells t38_2 ++ encL e_api_Bits (a0.drop (x20_1_1.toNat + 1)))))), (5, .resP (bo (t38_4)))] [0, 1, 5, 7, 8, 16] [] ⟨[(0, .p (sB a0)), (1, .p (.fn 112 [.rop ([i6 (a1)])])), (5, .p (i6 (x20_1_1))), (7, .p (i6 (((a0.length : Int))))), (8, .p (i6 (x20_1_1))), (16, .p (bo (t38_4)))], [], ⟨[], false⟩, []⟩ (And.intro (Ix e_api_Bits h38_1) (And.intro ((glushkov_Check_1_v1_ok h38_3)) (trivial))) (by kernel_rfl) ?_
      rcases if_or h with ⟨c39, h⟩ | ⟨c39, h⟩
      · refine WC.condT c39 (by kernel_rfl) ?_
        refine WX.seq ?_
        refine WC.reg (n := 19) hn [] [4] [] ⟨[(4, .p (i6 (x20_1_1)))], [], ⟨[], false⟩, []⟩ trivial (by kernel_rfl) ?_
        refine WX.ret ?_
        refine WC.ret_all (hexit20 _ _ (by simp) ?_)
        exact WC.outP (by rw [← Option.some.inj h]; kernel_rfl)
      · refine WC.condF c39 (by kernel_rfl) ?_
        refine WX.skip ?_
        refine WX.popBlk ?_
        refine WC.reg (n := 19) hn [] [0, 1, 7, 8] [] ⟨[(0, .p (sB a0)), (1, .p (.fn 112 [.rop ([i6 (a1)])])), (7, .p (i6 (((a0.length : Int))))), (8, .p (i6 (((IntKind.i64.wrap (x20_1_1 + 1))))))], [], ⟨[], false⟩, []⟩ trivial (by kernel_rfl) ?_
        exact WC.next [0, 1, 7, 8] [] (by kernel_rfl) (hnext20 ((IntKind.i64.wrap (x20_1_1 + 1))) h)
    · refine WC.condF c36 (by kernel_rfl) ?_
      refine WX.exit ?_
      refine WX.popCodeExit ?_
      refine WC.exit_nil (hexit20 _ _ (by simp) ?_)
      refine WX.popBlkHit ?_
      exact WC.keep [] [] (by kernel_rfl) (hJ3 () h)
def slices_ContainsFunc_riddle_api_Bits_riddle_api_Bits_v1 (k : Nat) (a0 : (List api_Bits)) (a1 : (Int)) : Option (Bool) :=
  (slices_IndexFunc_riddle_api_Bits_riddle_api_Bits_v1 k a0 a1).bind fun t2_2 => some ((decide (t2_2 ≥ 0)))
theorem slices_ContainsFunc_riddle_api_Bits_riddle_api_Bits_v1_ok {k : Nat} {a0 : (List api_Bits)} {a1 : (Int)} {r : Bool} (h : slices_ContainsFunc_riddle_api_Bits_riddle_api_Bits_v1 k a0 a1 = some r) : Ans Tryd.prog 113 [sB a0, .fn 112 [.rop ([i6 (a1)])]] (bo (r)) := by
  refine W_fn Tryd.func113 rfl (by kernel_rfl) (by kernel_rfl) ?_
  intro X hro hn
  unfold slices_ContainsFunc_riddle_api_Bits_riddle_api_Bits_v1 at h
  refine WX.seq ?_
  refine WC.reg (n := 9) hn [] [0, 1] [] ⟨[(0, .p (sB a0)), (1, .p (.fn 112 [.rop ([i6 (a1)])]))], [], ⟨[], false⟩, []⟩ trivial (by kernel_rfl) ?_
  refine WX.seq ?_
  obtain ⟨t2_2, h2_1, h⟩ := bind_some h
  refine WC.reg (n := 9) hn [(2, .resP (i6 (t2_2)))] [4] [] ⟨[(4, .p (bo (((decide (t2_2 ≥ 0))))))], [], ⟨[], false⟩, []⟩ (And.intro ((slices_IndexFunc_riddle_api_Bits_riddle_api_Bits_v1_ok h2_1)) (trivial)) (by kernel_rfl) ?_
  refine WX.ret ?_
  exact WC.outP (by rw [← Option.some.inj h]; kernel_rfl)
def glushkov_Check (k : Nat) (a0 : api_Nfa) : Option (Int) :=
  (if (((decide ((a0.Classes.length : Int) > 512))) || (((a0.Follow.length : Int) != (a0.Classes.length : Int)))) = true then some 100 else (glushkov_Check_1_v1 a0.First ((a0.Classes.length : Int))).bind fun t7_2 => ((if t7_2 = true then some true else (glushkov_Check_1_v1 a0.Last ((a0.Classes.length : Int))).bind fun t7_4 => (if t7_4 = true then some true else (slices_ContainsFunc_riddle_api_Bits_riddle_api_Bits_v1 k a0.Follow ((a0.Classes.length : Int))).bind fun t7_6 => some t7_6)) : Option (Bool)).bind fun v7 => (if v7 = true then some 100 else some 0))
theorem glushkov_Check_ok {k : Nat} {a0 : api_Nfa} {r : Int} (h : glushkov_Check k a0 = some r) : Ans Tryd.prog 85 [.agg [sC a0.Classes, i6 (a0.First.N), sW a0.First.Words, i6 (a0.Last.N), sW a0.Last.Words, sB a0.Follow, bo (a0.Null)]] (i6 (r)) := by
  refine W_fn Tryd.func85 rfl (by kernel_rfl) (by kernel_rfl) ?_
  intro X hro hn
  unfold glushkov_Check at h
  refine WX.seq ?_
  refine WC.reg (n := 34) hn [] [1] [1] ⟨[(1, .ptr 1 0)], [(1, .box 28 [.p (sC a0.Classes), .p (i6 (a0.First.N)), .p (sW a0.First.Words), .p (i6 (a0.Last.N)), .p (sW a0.Last.Words), .p (sB a0.Follow), .p (bo (a0.Null))])], ⟨[], false⟩, []⟩ trivial (by kernel_rfl) ?_
  refine WX.seq ?_
  refine WC.reg (n := 34) hn [] [1, 3] [1, 3] ⟨[(1, .ptr 1 0), (3, .ptr 3 0)], [(1, .box 28 [.p (sC a0.Classes), .p (i6 (a0.First.N)), .p (sW a0.First.Words), .p (i6 (a0.Last.N)), .p (sW a0.Last.Words), .p (sB a0.Follow), .p (bo (a0.Null))]), (3, .box 3 [.p (i6 (((a0.Classes.length : Int))))])], ⟨[], false⟩, []⟩ trivial (by kernel_rfl) ?_
  refine WX.seq ?_
  refine WX.seq ?_
  refine WC.via (α := Bool) (fun v3 => ⟨[(1, .ptr 1 0), (3, .ptr 3 0), (16, .p (bo (v3)))], [(1, .box 28 [.p (sC a0.Classes), .p (i6 (a0.First.N)), .p (sW a0.First.Words), .p (i6 (a0.Last.N)), .p (sW a0.Last.Words), .p (sB a0.Follow), .p (bo (a0.Null))]), (3, .box 3 [.p (i6 (((a0.Classes.length : Int))))])], ⟨[], false⟩, []⟩) ((((decide ((a0.Classes.length : Int) > 512))) || (((a0.Follow.length : Int) != (a0.Classes.length : Int))))) (fun hk => ?_) ?_
  · rcases Bool.eq_false_or_eq_true ((decide ((a0.Classes.length : Int) > 512))) with b3_2 | b3_2
    · exact WC.reg (n := 34) hn [(2, .val (.p (bo (true))))] [1, 3, 16] [1, 3] ⟨[(1, .ptr 1 0), (3, .ptr 3 0), (16, .p (bo (true)))], [(1, .box 28 [.p (sC a0.Classes), .p (i6 (a0.First.N)), .p (sW a0.First.Words), .p (i6 (a0.Last.N)), .p (sW a0.Last.Words), .p (sB a0.Follow), .p (bo (a0.Null))]), (3, .box 3 [.p (i6 (((a0.Classes.length : Int))))])], ⟨[], false⟩, []⟩ (And.intro (Bl b3_2) (trivial)) (by kernel_rfl) (hk true (by first | (rw [b3_2]; rfl) | simp [b3_2]))
    · exact WC.reg (n := 34) hn [(2, .val (.p (bo (false))))] [1, 3, 16] [1, 3] ⟨[(1, .ptr 1 0), (3, .ptr 3 0), (16, .p (bo ((((a0.Follow.length : Int) != (a0.Classes.length : Int))))))], [(1, .box 28 [.p (sC a0.Classes), .p (i6 (a0.First.N)), .p (sW a0.First.Words), .p (i6 (a0.Last.N)), .p (sW a0.Last.Words), .p (sB a0.Follow), .p (bo (a0.Null))]), (3, .box 3 [.p (i6 (((a0.Classes.length : Int))))])], ⟨[], false⟩, []⟩ (And.intro (Bl b3_2) (trivial)) (by kernel_rfl) (hk (((a0.Follow.length : Int) != (a0.Classes.length : Int))) (by first | (rw [b3_2]; rfl) | simp [b3_2]))
  rcases if_or h with ⟨c4, h⟩ | ⟨c4, h⟩
  · refine WC.condT c4 (by kernel_rfl) ?_
    refine WX.seq ?_
    refine WC.reg (n := 34) hn [] [2] [] ⟨[(2, .p (i6 (100)))], [], ⟨[], false⟩, []⟩ trivial (by kernel_rfl) ?_
    refine WX.ret ?_
    exact WC.outP (by rw [← Option.some.inj h]; kernel_rfl)
  · refine WC.condF c4 (by kernel_rfl) ?_
    refine WX.skip ?_
    refine WX.seq ?_
    refine WC.reg (n := 34) hn [] [1, 4] [1, 3] ⟨[(1, .ptr 1 0), (4, .fn 112 [.ptr 3 0])], [(1, .box 28 [.p (sC a0.Classes), .p (i6 (a0.First.N)), .p (sW a0.First.Words), .p (i6 (a0.Last.N)), .p (sW a0.Last.Words), .p (sB a0.Follow), .p (bo (a0.Null))]), (3, .box 3 [.p (i6 (((a0.Classes.length : Int))))])], ⟨[], false⟩, []⟩ trivial (by kernel_rfl) ?_
    refine WX.seq ?_
    refine WX.seq ?_
    obtain ⟨t7_2, h7_1, h⟩ := bind_some h
    obtain ⟨m7_1, g7, h⟩ := bind_some h
    refine WC.via (α := Bool) (fun v7 => ⟨[(33, .p (bo (v7)))], [], ⟨[], false⟩, []⟩) m7_1 (fun hk => ?_) ?_
    · rcases if_or g7 with ⟨b7_4, g7⟩ | ⟨b7_4, g7⟩
      · exact WC.reg (n := 34) hn [(3, .res (bo (t7_2))), (4, .val (.p (bo (true))))] [33] [] ⟨[(33, .p (bo (true)))], [], ⟨[], false⟩, []⟩ (And.intro (And.intro (glushkov_Check_1_v1_ok h7_1) (rfl : (bo (t7_2) : PV).flat = true)) (And.intro (Bl b7_4) (trivial))) (by kernel_rfl) (hk true (Option.some.inj g7))
      · obtain ⟨t7_4, h7_3, g7⟩ := bind_some g7
        rcases if_or g7 with ⟨b7_10, g7⟩ | ⟨b7_10, g7⟩
        · exact WC.reg (n := 34) hn [(3, .res (bo (t7_2))), (4, .val (.p (bo (false)))), (8, .res (bo (t7_4))), (10, .val (.p (bo (true))))] [33] [] ⟨[(33, .p (bo (true)))], [], ⟨[], false⟩, []⟩ (And.intro (And.intro (glushkov_Check_1_v1_ok h7_1) (rfl : (bo (t7_2) : PV).flat = true)) (And.intro (Bl b7_4) (And.intro (And.intro (glushkov_Check_1_v1_ok h7_3) (rfl : (bo (t7_4) : PV).flat = true)) (And.intro (Bl b7_10) (trivial))))) (by kernel_rfl) (hk true (Option.some.inj g7))
        · obtain ⟨t7_6, h7_5, g7⟩ := bind_some g7
          exact WC.reg (n := 34) hn [(3, .res (bo (t7_2))), (4, .val (.p (bo (false)))), (8, .res (bo (t7_4))), (10, .val (.p (bo (false)))), (14, .res (bo (t7_6)))] [33] [] ⟨[(33, .p (bo (t7_6)))], [], ⟨[], false⟩, []⟩ (And.intro (And.intro (glushkov_Check_1_v1_ok h7_1) (rfl : (bo (t7_2) : PV).flat = true)) (And.intro (Bl b7_4) (And.intro (And.intro (glushkov_Check_1_v1_ok h7_3) (rfl : (bo (t7_4) : PV).flat = true)) (And.intro (Bl b7_10) (And.intro (And.intro (slices_ContainsFunc_riddle_api_Bits_riddle_api_Bits_v1_ok h7_5) (rfl : (bo (t7_6) : PV).flat = true)) (trivial)))))) (by kernel_rfl) (hk t7_6 (Option.some.inj g7))
    rcases if_or h with ⟨c8, h⟩ | ⟨c8, h⟩
    · refine WC.condT c8 (by kernel_rfl) ?_
      refine WX.seq ?_
      refine WC.reg (n := 34) hn [] [2] [] ⟨[(2, .p (i6 (100)))], [], ⟨[], false⟩, []⟩ trivial (by kernel_rfl) ?_
      refine WX.ret ?_
      exact WC.outP (by rw [← Option.some.inj h]; kernel_rfl)
    · refine WC.condF c8 (by kernel_rfl) ?_
      refine WX.skip ?_
      refine WX.seq ?_
      refine WC.reg (n := 34) hn [] [2] [] ⟨[(2, .p (i6 (0)))], [], ⟨[], false⟩, []⟩ trivial (by kernel_rfl) ?_
      refine WX.ret ?_
      exact WC.outP (by rw [← Option.some.inj h]; kernel_rfl)
def bits_empty (a0 : Int) : Option (api_Bits) :=
  (bits_words a0).bind fun t2_2 => (if okMake 8 t2_2 then some ((api_Bits.mk a0 (List.replicate t2_2.toNat 0))) else none)
theorem bits_empty_ok {a0 : Int} {r : api_Bits} (h : bits_empty a0 = some r) : AnsO Tryd.prog 93 [] [.p (i6 (a0))] [(6, rowV 69 (eI .u64) r.Words)] (.agg [.p (i6 (r.N)), .own 6]) := by
  refine W_fnO [6] Tryd.func93 rfl (by kernel_rfl) (by kernel_rfl) (by kernel_rfl) (by kernel_rfl) ?_
  intro X hro hn
  unfold bits_empty at h
  refine WX.seq ?_
  refine WC.reg (n := 8) hn [] [0, 2] [2] ⟨[(0, .p (i6 (a0))), (2, .ptr 2 0)], [(2, .box 25 [.p (i6 (0)), .p (.sl .nil 0 [])])], ⟨[], false⟩, []⟩ trivial (by kernel_rfl) ?_
  refine WX.seq ?_
  obtain ⟨t2_2, h2_1, h⟩ := bind_some h
  obtain ⟨c2_3, h⟩ := if_some h
  refine WC.reg (n := 8) hn [(2, .resP (i6 (t2_2))), (3, .ob (rowV 69 (eI .u64) (List.replicate t2_2.toNat 0)))] [2] [2, 6] ⟨[(2, .ptr 2 0)], [(2, .box 25 [.p (i6 (a0)), .own 6]), (6, rowV 69 (eI .u64) (List.replicate t2_2.toNat 0))], ⟨[], false⟩, []⟩ (And.intro ((bits_words_ok h2_1)) (And.intro (Mk (eI .u64) [.int .u64 0] 0 69 8 t2_2 rfl rfl c2_3) (trivial))) (by kernel_rfl) ?_
  refine WX.ret ?_
  exact WC.outO (by rw [← Option.some.inj h]; kernel_rfl)
theorem bits_empty_okP {a0 : Int} {r : api_Bits} (h : bits_empty a0 = some r) : Ans Tryd.prog 93 [i6 (a0)] (.agg [i6 (r.N), sW r.Words]) := AnsO.ans (args := [i6 (a0)]) (bits_empty_ok h) (by kernel_rfl)
def bits_New_l0 (a0 : Int) (a1 : (List Int)) (J7 : List Int → Option (api_Bits × Int)) : Nat → (Int × List Int) → Option (api_Bits × Int)
  | 0, _ => none
  | k + 1, (x26_1_1, x26_1_2) => (if (decide (x26_1_1 < (a1.length : Int))) = true then (at_ a1 x26_1_1).bind fun t45_2 => (if (((decide (t45_2 ≥ 0))) && ((decide (t45_2 < a0)))) = true then (at_ x26_1_2 ((IntKind.i64.wrap (t45_2.tdiv 64)))).bind fun t48_2 => (if ¬ (t45_2.tmod 64) < 0 then bits_New_l0 a0 a1 J7 k ((IntKind.i64.wrap (x26_1_1 + 1)), x26_1_2.set ((IntKind.i64.wrap (t45_2.tdiv 64))).toNat ((bits .or .u64 t48_2 ((IntKind.u64.wrap (1 * 2 ^ (min ((t45_2.tmod 64)).toNat IntKind.u64.bits))))))) else none) else bits_New_l0 a0 a1 J7 k ((IntKind.i64.wrap (x26_1_1 + 1)), x26_1_2)) else J7 x26_1_2)
def bits_New (k : Nat) (a0 : Int) (a1 : (List Int)) : Option (api_Bits × Int) :=
  (if (((decide (a0 < 0))) || ((decide (a0 > 8192)))) = true then some ((api_Bits.mk 0 (([] : List Int))), 1) else (bits_empty a0).bind fun t5_2 => jn (fun (v7 : List Int) => some ((api_Bits.mk t5_2.N v7), 0)) fun J7 => bits_New_l0 a0 a1 J7 k (0, t5_2.Words))
theorem bits_New_ok {k : Nat} {a0 : Int} {a1 : (List Int)} {r : api_Bits × Int} (h : bits_New k a0 a1 = some r) : AnsO Tryd.prog 55 [] [.p (i6 (a0)), .p (slV (eI .i64) a1)] [(17, rowV 69 (eI .u64) r.1.Words)] (.tup [.agg [.p (i6 (r.1.N)), .own 17], .p (i6 (r.2))]) := by
  refine W_fnO [17] Tryd.func55 rfl (by kernel_rfl) (by kernel_rfl) (by kernel_rfl) (by kernel_rfl) ?_
  intro X hro hn
  unfold bits_New at h
  refine WX.seq ?_
  refine WC.reg (n := 44) hn [] [0, 1, 4] [4] ⟨[(0, .p (i6 (a0))), (1, .p (slV (eI .i64) a1)), (4, .ptr 4 0)], [(4, .box 25 [.p (i6 (0)), .p (.sl .nil 0 [])])], ⟨[], false⟩, []⟩ trivial (by kernel_rfl) ?_
  refine WX.seq ?_
  refine WX.seq ?_
  refine WC.via (α := Bool) (fun v2 => ⟨[(0, .p (i6 (a0))), (1, .p (slV (eI .i64) a1)), (4, .ptr 4 0), (14, .p (bo (v2)))], [(4, .box 25 [.p (i6 (0)), .p (.sl .nil 0 [])])], ⟨[], false⟩, []⟩) ((((decide (a0 < 0))) || ((decide (a0 > 8192))))) (fun hk => ?_) ?_
  · rcases Bool.eq_false_or_eq_true ((decide (a0 < 0))) with b2_2 | b2_2
    · exact WC.reg (n := 44) hn [(2, .val (.p (bo (true))))] [0, 1, 4, 14] [4] ⟨[(0, .p (i6 (a0))), (1, .p (slV (eI .i64) a1)), (4, .ptr 4 0), (14, .p (bo (true)))], [(4, .box 25 [.p (i6 (0)), .p (.sl .nil 0 [])])], ⟨[], false⟩, []⟩ (And.intro (Bl b2_2) (trivial)) (by kernel_rfl) (hk true (by first | (rw [b2_2]; rfl) | simp [b2_2]))
    · exact WC.reg (n := 44) hn [(2, .val (.p (bo (false))))] [0, 1, 4, 14] [4] ⟨[(0, .p (i6 (a0))), (1, .p (slV (eI .i64) a1)), (4, .ptr 4 0), (14, .p (bo (((decide (a0 > 8192))))))], [(4, .box 25 [.p (i6 (0)), .p (.sl .nil 0 [])])], ⟨[], false⟩, []⟩ (And.intro (Bl b2_2) (trivial)) (by kernel_rfl) (hk ((decide (a0 > 8192))) (by first | (rw [b2_2]; rfl) | simp [b2_2]))
  rcases if_or h with ⟨c3, h⟩ | ⟨c3, h⟩
  · refine WC.condT c3 (by kernel_rfl) ?_
    refine WX.seq ?_
    refine WC.reg (n := 44) hn [] [4, 5] [4] ⟨[(4, .ptr 4 0), (5, .p (i6 (1)))], [(4, .box 25 [.p (i6 (0)), .p (.sl .nil 0 [])])], ⟨[], false⟩, []⟩ trivial (by kernel_rfl) ?_
    refine WX.ret ?_
    refine WC.nil (n := 44) hn [] (some (4, 1)) 17 69 1 (by kernel_rfl) [4, 5] [4, 17] (st' := ⟨[(4, .ptr 4 0), (5, .p (i6 (1)))], [(4, .box 25 [.p (i6 (0)), .own 17]), (17, rowV 69 (eI .u64) (([] : List Int)))], ⟨[], false⟩, []⟩) (by kernel_rfl) ?_
    exact WC.outO (by rw [← Option.some.inj h]; kernel_rfl)
  · refine WC.condF c3 (by kernel_rfl) ?_
    refine WX.skip ?_
    refine WX.seq ?_
    obtain ⟨t5_2, h5_1, h⟩ := bind_some h
    refine WC.reg (n := 44) hn [(1, .co [] [] [] [(17, rowV 69 (eI .u64) t5_2.Words)] (.agg [.p (i6 (t5_2.N)), .own 17]))] [0, 1, 4, 6] [4, 6, 17] ⟨[(0, .p (i6 (a0))), (1, .p (slV (eI .i64) a1)), (4, .ptr 4 0), (6, .ptr 6 0)], [(4, .box 25 [.p (i6 (0)), .p (.sl .nil 0 [])]), (6, .box 25 [.p (i6 (t5_2.N)), .own 17]), (17, rowV 69 (eI .u64) t5_2.Words)], ⟨[], false⟩, []⟩ (And.intro (And.intro ((bits_empty_ok h5_1).ren 6 17 (by kernel_rfl)) (trivial)) (trivial)) (by kernel_rfl) ?_
    refine WX.seq ?_
    refine WX.seq ?_
    refine WC.reg (n := 44) hn [] [0, 4, 6, 18, 19, 20] [4, 6, 17] ⟨[(0, .p (i6 (a0))), (4, .ptr 4 0), (6, .ptr 6 0), (18, .p (slV (eI .i64) a1)), (19, .p (i6 (((a1.length : Int))))), (20, .p (i6 (0)))], [(4, .box 25 [.p (i6 (0)), .p (.sl .nil 0 [])]), (6, .box 25 [.p (i6 (t5_2.N)), .own 17]), (17, rowV 69 (eI .u64) t5_2.Words)], ⟨[], false⟩, []⟩ trivial (by kernel_rfl) ?_
    obtain ⟨J7, eJ7, h⟩ := jn_some h
    try dsimp only at h
    refine WC.join (α := List Int) (fun v7 => ⟨[(4, .ptr 4 0), (6, .ptr 6 0)], [(4, .box 25 [.p (i6 (0)), .p (.sl .nil 0 [])]), (6, .box 25 [.p (i6 (t5_2.N)), .own 17]), (17, rowV 69 (eI .u64) v7)], ⟨[], false⟩, []⟩) (fun v7 => J7 v7 = some r) ?_ (fun hJ7 => ?_)
    · rintro y7_1 h
      rw [eJ7] at h
      try dsimp only at h
      refine WX.seq ?_
      refine WC.reg (n := 44) hn [] [4, 5] [4, 17] ⟨[(4, .ptr 4 0), (5, .p (i6 (0)))], [(4, .box 25 [.p (i6 (t5_2.N)), .own 17]), (17, rowV 69 (eI .u64) y7_1)], ⟨[], false⟩, []⟩ trivial (by kernel_rfl) ?_
      refine WX.ret ?_
      exact WC.outO (by rw [← Option.some.inj h]; kernel_rfl)
    · replace hJ7 := fun y7_1 => hJ7 y7_1
      refine WX.block ?_
      refine WC.loop (V := Int × List Int) (bits_New_l0 a0 a1 J7) r (fun v26 => ⟨[(0, .p (i6 (a0))), (4, .ptr 4 0), (6, .ptr 6 0), (18, .p (slV (eI .i64) a1)), (19, .p (i6 (((a1.length : Int))))), (20, .p (i6 (v26.1)))], [(4, .box 25 [.p (i6 (0)), .p (.sl .nil 0 [])]), (6, .box 25 [.p (i6 (t5_2.N)), .own 17]), (17, rowV 69 (eI .u64) v26.2)], ⟨[], false⟩, []⟩) _ (0, t5_2.Words) h (fun _ => rfl) [0, 4, 6, 18, 19, 20] [4, 6, 17] (by kernel_rfl) ?_
      clear h; rintro k ⟨x26_1_1, x26_1_2⟩ h K26 hnext26 hexit26
      rw [bits_New_l0] at h
      refine WX.seq ?_
      refine WC.reg (n := 44) hn [] [0, 4, 6, 18, 19, 20, 21] [4, 6, 17] ⟨[(0, .p (i6 (a0))), (4, .ptr 4 0), (6, .ptr 6 0), (18, .p (slV (eI .i64) a1)), (19, .p (i6 (((a1.length : Int))))), (20, .p (i6 (x26_1_1))), (21, .p (bo (((decide (x26_1_1 < (a1.length : Int)))))))], [(4, .box 25 [.p (i6 (0)), .p (.sl .nil 0 [])]), (6, .box 25 [.p (i6 (t5_2.N)), .own 17]), (17, rowV 69 (eI .u64) x26_1_2)], ⟨[], false⟩, []⟩ trivial (by kernel_rfl) ?_
      refine WX.seq ?_
      rcases if_or h with ⟨c44, h⟩ | ⟨c44, h⟩
      · refine WC.condT c44 (by kernel_rfl) ?_
        refine WX.skip ?_
        refine WX.seq ?_
        refine WX.block ?_
        refine WX.seq ?_
        obtain ⟨t45_2, h45_1, h⟩ := bind_some h
        refine WC.reg (n := 44) hn [(0, .val (.p (.rop ((eI .i64).cells t45_2 ++ encL (eI .i64) (a1.drop (x26_1_1.toNat + 1))))))] [0, 4, 6, 8, 18, 19, 20] [4, 6, 17] ⟨[(0, .p (i6 (a0))), (4, .ptr 4 0), (6, .ptr 6 0), (8, .p (i6 (t45_2))), (18, .p (slV (eI .i64) a1)), (19, .p (i6 (((a1.length : Int))))), (20, .p (i6 (x26_1_1)))], [(4, .box 25 [.p (i6 (0)), .p (.sl .nil 0 [])]), (6, .box 25 [.p (i6 (t5_2.N)), .own 17]), (17, rowV 69 (eI .u64) x26_1_2)], ⟨[], false⟩, []⟩ (And.intro (Ix (eI .i64) h45_1) (trivial)) (by kernel_rfl) ?_
        refine WX.seq ?_
        refine WC.via (α := Bool) (fun v46 => ⟨[(0, .p (i6 (a0))), (4, .ptr 4 0), (6, .ptr 6 0), (8, .p (i6 (t45_2))), (18, .p (slV (eI .i64) a1)), (19, .p (i6 (((a1.length : Int))))), (20, .p (i6 (x26_1_1))), (30, .p (bo (v46)))], [(4, .box 25 [.p (i6 (0)), .p (.sl .nil 0 [])]), (6, .box 25 [.p (i6 (t5_2.N)), .own 17]), (17, rowV 69 (eI .u64) x26_1_2)], ⟨[], false⟩, []⟩) ((((decide (t45_2 ≥ 0))) && ((decide (t45_2 < a0))))) (fun hk => ?_) ?_
        · rcases Bool.eq_false_or_eq_true ((decide (t45_2 ≥ 0))) with b46_2 | b46_2
          · exact WC.reg (n := 44) hn [(2, .val (.p (bo (true))))] [0, 4, 6, 8, 18, 19, 20, 30] [4, 6, 17] ⟨[(0, .p (i6 (a0))), (4, .ptr 4 0), (6, .ptr 6 0), (8, .p (i6 (t45_2))), (18, .p (slV (eI .i64) a1)), (19, .p (i6 (((a1.length : Int))))), (20, .p (i6 (x26_1_1))), (30, .p (bo (((decide (t45_2 < a0))))))], [(4, .box 25 [.p (i6 (0)), .p (.sl .nil 0 [])]), (6, .box 25 [.p (i6 (t5_2.N)), .own 17]), (17, rowV 69 (eI .u64) x26_1_2)], ⟨[], false⟩, []⟩ (And.intro (Bl b46_2) (trivial)) (by kernel_rfl) (hk ((decide (t45_2 < a0))) (by first | (rw [b46_2]; rfl) | simp [b46_2]))
          · exact WC.reg (n := 44) hn [(2, .val (.p (bo (false))))] [0, 4, 6, 8, 18, 19, 20, 30] [4, 6, 17] ⟨[(0, .p (i6 (a0))), (4, .ptr 4 0), (6, .ptr 6 0), (8, .p (i6 (t45_2))), (18, .p (slV (eI .i64) a1)), (19, .p (i6 (((a1.length : Int))))), (20, .p (i6 (x26_1_1))), (30, .p (bo (false)))], [(4, .box 25 [.p (i6 (0)), .p (.sl .nil 0 [])]), (6, .box 25 [.p (i6 (t5_2.N)), .own 17]), (17, rowV 69 (eI .u64) x26_1_2)], ⟨[], false⟩, []⟩ (And.intro (Bl b46_2) (trivial)) (by kernel_rfl) (hk false (by first | (rw [b46_2]; rfl) | simp [b46_2]))
        rcases if_or h with ⟨c47, h⟩ | ⟨c47, h⟩
        · refine WC.condT c47 (by kernel_rfl) ?_
          obtain ⟨t48_2, h48_1, h⟩ := bind_some h
          obtain ⟨c48_3, h⟩ := if_some h
          refine WC.drw (n := 44) hn [(11, [])] [] [(4, .val (.ptr 17 (((IntKind.i64.wrap (t45_2.tdiv 64))).toNat * 1))), (5, .val (.p (.s (.int .u64 t48_2)))), (8, .val (.p (.s (.int .u64 (IntKind.u64.wrap (1 * 2 ^ (min ((t45_2.tmod 64)).toNat IntKind.u64.bits))))))), (10, .val (.ptr 17 (((IntKind.i64.wrap (t45_2.tdiv 64))).toNat * 1))), (11, .sto 17 (rowV 69 (eI .u64) (x26_1_2.set ((IntKind.i64.wrap (t45_2.tdiv 64))).toNat ((bits .or .u64 t48_2 ((IntKind.u64.wrap (1 * 2 ^ (min ((t45_2.tmod 64)).toNat IntKind.u64.bits)))))))))] [0, 4, 6, 18, 19, 20] [4, 6, 17] ⟨[(0, .p (i6 (a0))), (4, .ptr 4 0), (6, .ptr 6 0), (18, .p (slV (eI .i64) a1)), (19, .p (i6 (((a1.length : Int))))), (20, .p (i6 (x26_1_1)))], [(4, .box 25 [.p (i6 (0)), .p (.sl .nil 0 [])]), (6, .box 25 [.p (i6 (t5_2.N)), .own 17]), (17, rowV 69 (eI .u64) (x26_1_2.set ((IntKind.i64.wrap (t45_2.tdiv 64))).toNat ((bits .or .u64 t48_2 ((IntKind.u64.wrap (1 * 2 ^ (min ((t45_2.tmod 64)).toNat IntKind.u64.bits))))))))], ⟨[], false⟩, []⟩ (And.intro (IxO 17 1 h48_1) (And.intro (LdO0 Tryd.prog (eI .u64) 69 h48_1) (And.intro (Shl .u64 1 ((t45_2.tmod 64)) c48_3) (And.intro (IxO 17 1 h48_1) (And.intro (StO0 (eI .u64) 17 69 1 1 [.s (.int .u64 ((bits .or .u64 t48_2 ((IntKind.u64.wrap (1 * 2 ^ (min ((t45_2.tmod 64)).toNat IntKind.u64.bits)))))))] ((bits .or .u64 t48_2 ((IntKind.u64.wrap (1 * 2 ^ (min ((t45_2.tmod 64)).toNat IntKind.u64.bits)))))) h48_1 rfl rfl (by decide)) (trivial)))))) (by kernel_rfl) (by kernel_rfl) (by kernel_rfl) (by kernel_rfl) ?_
          refine WX.popBlk ?_
          refine WC.reg (n := 44) hn [] [0, 4, 6, 18, 19, 20] [4, 6, 17] ⟨[(0, .p (i6 (a0))), (4, .ptr 4 0), (6, .ptr 6 0), (18, .p (slV (eI .i64) a1)), (19, .p (i6 (((a1.length : Int))))), (20, .p (i6 (((IntKind.i64.wrap (x26_1_1 + 1))))))], [(4, .box 25 [.p (i6 (0)), .p (.sl .nil 0 [])]), (6, .box 25 [.p (i6 (t5_2.N)), .own 17]), (17, rowV 69 (eI .u64) (x26_1_2.set ((IntKind.i64.wrap (t45_2.tdiv 64))).toNat ((bits .or .u64 t48_2 ((IntKind.u64.wrap (1 * 2 ^ (min ((t45_2.tmod 64)).toNat IntKind.u64.bits))))))))], ⟨[], false⟩, []⟩ trivial (by kernel_rfl) ?_
          exact WC.next [0, 4, 6, 18, 19, 20] [4, 6, 17] (by kernel_rfl) (hnext26 ((IntKind.i64.wrap (x26_1_1 + 1)), x26_1_2.set ((IntKind.i64.wrap (t45_2.tdiv 64))).toNat ((bits .or .u64 t48_2 ((IntKind.u64.wrap (1 * 2 ^ (min ((t45_2.tmod 64)).toNat IntKind.u64.bits))))))) h)
        · refine WC.condF c47 (by kernel_rfl) ?_
          refine WX.skip ?_
          refine WX.popBlk ?_
          refine WC.reg (n := 44) hn [] [0, 4, 6, 18, 19, 20] [4, 6, 17] ⟨[(0, .p (i6 (a0))), (4, .ptr 4 0), (6, .ptr 6 0), (18, .p (slV (eI .i64) a1)), (19, .p (i6 (((a1.length : Int))))), (20, .p (i6 (((IntKind.i64.wrap (x26_1_1 + 1))))))], [(4, .box 25 [.p (i6 (0)), .p (.sl .nil 0 [])]), (6, .box 25 [.p (i6 (t5_2.N)), .own 17]), (17, rowV 69 (eI .u64) x26_1_2)], ⟨[], false⟩, []⟩ trivial (by kernel_rfl) ?_
          exact WC.next [0, 4, 6, 18, 19, 20] [4, 6, 17] (by kernel_rfl) (hnext26 ((IntKind.i64.wrap (x26_1_1 + 1)), x26_1_2) h)
      · refine WC.condF c44 (by kernel_rfl) ?_
        refine WX.exit ?_
        refine WX.popCodeExit ?_
        refine WC.exit_nil (hexit26 _ _ (by simp) ?_)
        refine WX.popBlkHit ?_
        exact WC.keep [4, 6] [4, 6, 17] (by kernel_rfl) (hJ7 x26_1_2 h)
theorem bits_New_okP {k : Nat} {a0 : Int} {a1 : (List Int)} {r : api_Bits × Int} (h : bits_New k a0 a1 = some r) : Ans Tryd.prog 55 [i6 (a0), slV (eI .i64) a1] (.tup [.agg [i6 (r.1.N), sW r.1.Words], i6 (r.2)]) := AnsO.ans (args := [i6 (a0), slV (eI .i64) a1]) (bits_New_ok h) (by kernel_rfl)
def glushkov_none (k : Nat) (a0 : Int) : Option (api_Bits) :=
  (bits_New k a0 ([])).bind fun t2_2 => some t2_2.1
theorem glushkov_none_ok {k : Nat} {a0 : Int} {r : api_Bits} (h : glushkov_none k a0 = some r) : AnsO Tryd.prog 114 [] [.p (i6 (a0))] [(7, rowV 69 (eI .u64) r.Words)] (.agg [.p (i6 (r.N)), .own 7]) := by
  refine W_fnO [7] Tryd.func114 rfl (by kernel_rfl) (by kernel_rfl) (by kernel_rfl) (by kernel_rfl) ?_
  intro X hro hn
  unfold glushkov_none at h
  refine WX.seq ?_
  refine WC.reg (n := 11) hn [] [0, 2] [2] ⟨[(0, .p (i6 (a0))), (2, .ptr 2 0)], [(2, .box 25 [.p (i6 (0)), .p (.sl .nil 0 [])])], ⟨[], false⟩, []⟩ trivial (by kernel_rfl) ?_
  refine WX.seq ?_
  obtain ⟨t2_2, h2_1, h⟩ := bind_some h
  refine WC.reg (n := 11) hn [(1, .co [] [] [] [(7, rowV 69 (eI .u64) t2_2.1.Words)] (.tup [.agg [.p (i6 (t2_2.1.N)), .own 7], .p (i6 (t2_2.2))]))] [2, 3] [2, 3, 7] ⟨[(2, .ptr 2 0), (3, .ptr 3 0)], [(2, .box 25 [.p (i6 (0)), .p (.sl .nil 0 [])]), (3, .box 25 [.p (i6 (t2_2.1.N)), .own 7]), (7, rowV 69 (eI .u64) t2_2.1.Words)], ⟨[], false⟩, []⟩ (And.intro (And.intro ((bits_New_ok h2_1).ren 17 7 (by kernel_rfl)) (trivial)) (trivial)) (by kernel_rfl) ?_
  refine WX.seq ?_
  refine WC.reg (n := 11) hn [] [2] [2, 7] ⟨[(2, .ptr 2 0)], [(2, .box 25 [.p (i6 (t2_2.1.N)), .own 7]), (7, rowV 69 (eI .u64) t2_2.1.Words)], ⟨[], false⟩, []⟩ trivial (by kernel_rfl) ?_
  refine WX.ret ?_
  exact WC.outO (by rw [← Option.some.inj h]; kernel_rfl)
theorem glushkov_none_okP {k : Nat} {a0 : Int} {r : api_Bits} (h : glushkov_none k a0 = some r) : Ans Tryd.prog 114 [i6 (a0)] (.agg [i6 (r.N), sW r.Words]) := AnsO.ans (args := [i6 (a0)]) (glushkov_none_ok h) (by kernel_rfl)
def glushkov_Empty (k : Nat)  : Option (api_Nfa) :=
  (glushkov_none k 0).bind fun t2_2 => (glushkov_none k 0).bind fun t2_4 => some ((api_Nfa.mk ([]) t2_2 t2_4 ([]) true))
theorem glushkov_Empty_ok {k : Nat}  {r : api_Nfa} (h : glushkov_Empty k = some r) : AnsO Tryd.prog 86 [] [] [(1, rowV 69 (eI .u64) r.First.Words), (2, rowV 69 (eI .u64) r.Last.Words)] (.agg [.p (sC r.Classes), .p (i6 (r.First.N)), .own 1, .p (i6 (r.Last.N)), .own 2, .p (sB r.Follow), .p (bo (r.Null))]) := by
  refine W_fnO [1, 2] Tryd.func86 rfl (by kernel_rfl) (by kernel_rfl) (by kernel_rfl) (by kernel_rfl) ?_
  intro X hro hn
  unfold glushkov_Empty at h
  refine WX.seq ?_
  refine WC.reg (n := 4) hn [] [0] [0] ⟨[(0, .ptr 0 0)], [(0, .box 28 [.p (.sl .nil 0 []), .p (i6 (0)), .p (.sl .nil 0 []), .p (i6 (0)), .p (.sl .nil 0 []), .p (.sl .nil 0 []), .p (bo (false))])], ⟨[], false⟩, []⟩ trivial (by kernel_rfl) ?_
  refine WX.seq ?_
  obtain ⟨t2_2, h2_1, h⟩ := bind_some h
  obtain ⟨t2_4, h2_3, h⟩ := bind_some h
  refine WC.reg (n := 4) hn [(0, .co [] [] [] [(1, rowV 69 (eI .u64) t2_2.Words)] (.agg [.p (i6 (t2_2.N)), .own 1])), (1, .co [] [] [] [(2, rowV 69 (eI .u64) t2_4.Words)] (.agg [.p (i6 (t2_4.N)), .own 2]))] [0] [0, 1, 2] ⟨[(0, .ptr 0 0)], [(0, .box 28 [.p (.sl .nil 0 []), .p (i6 (t2_2.N)), .own 1, .p (i6 (t2_4.N)), .own 2, .p (.sl .nil 0 []), .p (bo (true))]), (1, rowV 69 (eI .u64) t2_2.Words), (2, rowV 69 (eI .u64) t2_4.Words)], ⟨[], false⟩, []⟩ (And.intro (And.intro ((glushkov_none_ok h2_1).ren 7 1 (by kernel_rfl)) (trivial)) (And.intro (And.intro ((glushkov_none_ok h2_3).ren 7 2 (by kernel_rfl)) (trivial)) (trivial))) (by kernel_rfl) ?_
  refine WX.ret ?_
  exact WC.outO (by rw [← Option.some.inj h]; kernel_rfl)
theorem glushkov_Empty_okP {k : Nat}  {r : api_Nfa} (h : glushkov_Empty k = some r) : Ans Tryd.prog 86 [] (.agg [sC r.Classes, i6 (r.First.N), sW r.First.Words, i6 (r.Last.N), sW r.Last.Words, sB r.Follow, bo (r.Null)]) := AnsO.ans (args := []) (glushkov_Empty_ok h) (by kernel_rfl)
def nfa_may (k : Nat) (a0 : api_Nfa) : Option (api_Nfa) :=
  (glushkov_Check k a0).bind fun t2_2 => (if (t2_2 != 0) = true then (glushkov_Empty k).bind fun t4_2 => some ((api_Nfa.mk t4_2.Classes t4_2.First t4_2.Last t4_2.Follow false)) else some a0)
theorem nfa_may_ok {k : Nat} {a0 : api_Nfa} {r : api_Nfa} (h : nfa_may k a0 = some r) : Ans Tryd.prog 51 [.agg [sC a0.Classes, i6 (a0.First.N), sW a0.First.Words, i6 (a0.Last.N), sW a0.Last.Words, sB a0.Follow, bo (a0.Null)]] (.agg [sC r.Classes, i6 (r.First.N), sW r.First.Words, i6 (r.Last.N), sW r.Last.Words, sB r.Follow, bo (r.Null)]) := by
  refine W_fn Tryd.func51 rfl (by kernel_rfl) (by kernel_rfl) ?_
  intro X hro hn
  unfold nfa_may at h
  refine WX.seq ?_
  refine WC.reg (n := 9) hn [] [1, 2] [1, 2] ⟨[(1, .ptr 1 0), (2, .ptr 2 0)], [(1, .box 28 [.p (sC a0.Classes), .p (i6 (a0.First.N)), .p (sW a0.First.Words), .p (i6 (a0.Last.N)), .p (sW a0.Last.Words), .p (sB a0.Follow), .p (bo (a0.Null))]), (2, .box 28 [.p (.sl .nil 0 []), .p (i6 (0)), .p (.sl .nil 0 []), .p (i6 (0)), .p (.sl .nil 0 []), .p (.sl .nil 0 []), .p (bo (false))])], ⟨[], false⟩, []⟩ trivial (by kernel_rfl) ?_
  refine WX.seq ?_
  refine WX.seq ?_
  obtain ⟨t2_2, h2_1, h⟩ := bind_some h
  refine WC.reg (n := 9) hn [(1, .resP (i6 (t2_2)))] [1, 2, 5] [1, 2] ⟨[(1, .ptr 1 0), (2, .ptr 2 0), (5, .p (bo (((t2_2 != 0)))))], [(1, .box 28 [.p (sC a0.Classes), .p (i6 (a0.First.N)), .p (sW a0.First.Words), .p (i6 (a0.Last.N)), .p (sW a0.Last.Words), .p (sB a0.Follow), .p (bo (a0.Null))]), (2, .box 28 [.p (.sl .nil 0 []), .p (i6 (0)), .p (.sl .nil 0 []), .p (i6 (0)), .p (.sl .nil 0 []), .p (.sl .nil 0 []), .p (bo (false))])], ⟨[], false⟩, []⟩ (And.intro ((glushkov_Check_ok h2_1)) (trivial)) (by kernel_rfl) ?_
  rcases if_or h with ⟨c3, h⟩ | ⟨c3, h⟩
  · refine WC.condT c3 (by kernel_rfl) ?_
    refine WX.seq ?_
    obtain ⟨t4_2, h4_1, h⟩ := bind_some h
    refine WC.reg (n := 9) hn [(0, .co [] [] [] [(6, rowV 69 (eI .u64) t4_2.First.Words), (8, rowV 69 (eI .u64) t4_2.Last.Words)] (.agg [.p (sC t4_2.Classes), .p (i6 (t4_2.First.N)), .own 6, .p (i6 (t4_2.Last.N)), .own 8, .p (sB t4_2.Follow), .p (bo (t4_2.Null))]))] [1, 2] [1, 2, 6, 8] ⟨[(1, .ptr 1 0), (2, .ptr 2 0)], [(1, .box 28 [.p (sC t4_2.Classes), .p (i6 (t4_2.First.N)), .own 6, .p (i6 (t4_2.Last.N)), .own 8, .p (sB t4_2.Follow), .p (bo (t4_2.Null))]), (2, .box 28 [.p (.sl .nil 0 []), .p (i6 (0)), .p (.sl .nil 0 []), .p (i6 (0)), .p (.sl .nil 0 []), .p (.sl .nil 0 []), .p (bo (false))]), (6, rowV 69 (eI .u64) t4_2.First.Words), (8, rowV 69 (eI .u64) t4_2.Last.Words)], ⟨[], false⟩, []⟩ (And.intro (And.intro (((glushkov_Empty_ok h4_1).ren 1 6 (by kernel_rfl)).ren 2 8 (by kernel_rfl)) (trivial)) (trivial)) (by kernel_rfl) ?_
    refine WC.reg (n := 9) hn [] [1, 2] [1, 2, 6, 8] ⟨[(1, .ptr 1 0), (2, .ptr 2 0)], [(1, .box 28 [.p (sC t4_2.Classes), .p (i6 (t4_2.First.N)), .own 6, .p (i6 (t4_2.Last.N)), .own 8, .p (sB t4_2.Follow), .p (bo (false))]), (2, .box 28 [.p (.sl .nil 0 []), .p (i6 (0)), .p (.sl .nil 0 []), .p (i6 (0)), .p (.sl .nil 0 []), .p (.sl .nil 0 []), .p (bo (false))]), (6, rowV 69 (eI .u64) t4_2.First.Words), (8, rowV 69 (eI .u64) t4_2.Last.Words)], ⟨[], false⟩, []⟩ trivial (by kernel_rfl) ?_
    refine WX.seq ?_
    refine WC.reg (n := 9) hn [] [2] [2, 6, 8] ⟨[(2, .ptr 2 0)], [(2, .box 28 [.p (sC t4_2.Classes), .p (i6 (t4_2.First.N)), .own 6, .p (i6 (t4_2.Last.N)), .own 8, .p (sB t4_2.Follow), .p (bo (false))]), (6, rowV 69 (eI .u64) t4_2.First.Words), (8, rowV 69 (eI .u64) t4_2.Last.Words)], ⟨[], false⟩, []⟩ trivial (by kernel_rfl) ?_
    refine WX.ret ?_
    exact WC.outP (by rw [← Option.some.inj h]; kernel_rfl)
  · refine WC.condF c3 (by kernel_rfl) ?_
    refine WX.skip ?_
    refine WX.seq ?_
    refine WC.reg (n := 9) hn [] [2] [2] ⟨[(2, .ptr 2 0)], [(2, .box 28 [.p (sC a0.Classes), .p (i6 (a0.First.N)), .p (sW a0.First.Words), .p (i6 (a0.Last.N)), .p (sW a0.Last.Words), .p (sB a0.Follow), .p (bo (a0.Null))])], ⟨[], false⟩, []⟩ trivial (by kernel_rfl) ?_
    refine WX.ret ?_
    exact WC.outP (by rw [← Option.some.inj h]; kernel_rfl)
def nfa_None (k : Nat) (a0 : api_Nfa) : Option (api_Bits) :=
  (nfa_may k a0).bind fun t2_2 => (bits_New k ((t2_2.Classes.length : Int)) ([])).bind fun t2_4 => some t2_4.1
theorem nfa_None_ok {k : Nat} {a0 : api_Nfa} {r : api_Bits} (h : nfa_None k a0 = some r) : AnsO Tryd.prog 21 [] [.p (.agg [sC a0.Classes, i6 (a0.First.N), sW a0.First.Words, i6 (a0.Last.N), sW a0.Last.Words, sB a0.Follow, bo (a0.Null)])] [(10, rowV 69 (eI .u64) r.Words)] (.agg [.p (i6 (r.N)), .own 10]) := by
  refine W_fnO [10] Tryd.func21 rfl (by kernel_rfl) (by kernel_rfl) (by kernel_rfl) (by kernel_rfl) ?_
  intro X hro hn
  unfold nfa_None at h
  refine WX.seq ?_
  refine WC.reg (n := 14) hn [] [1, 2] [1, 2] ⟨[(1, .ptr 1 0), (2, .ptr 2 0)], [(1, .box 28 [.p (sC a0.Classes), .p (i6 (a0.First.N)), .p (sW a0.First.Words), .p (i6 (a0.Last.N)), .p (sW a0.Last.Words), .p (sB a0.Follow), .p (bo (a0.Null))]), (2, .box 25 [.p (i6 (0)), .p (.sl .nil 0 [])])], ⟨[], false⟩, []⟩ trivial (by kernel_rfl) ?_
  refine WX.seq ?_
  obtain ⟨t2_2, h2_1, h⟩ := bind_some h
  obtain ⟨t2_4, h2_3, h⟩ := bind_some h
  refine WC.reg (n := 14) hn [(1, .resP (.agg [sC t2_2.Classes, i6 (t2_2.First.N), sW t2_2.First.Words, i6 (t2_2.Last.N), sW t2_2.Last.Words, sB t2_2.Follow, bo (t2_2.Null)])), (4, .co [] [] [] [(10, rowV 69 (eI .u64) t2_4.1.Words)] (.tup [.agg [.p (i6 (t2_4.1.N)), .own 10], .p (i6 (t2_4.2))]))] [2, 3] [2, 3, 10] ⟨[(2, .ptr 2 0), (3, .ptr 3 0)], [(2, .box 25 [.p (i6 (0)), .p (.sl .nil 0 [])]), (3, .box 25 [.p (i6 (t2_4.1.N)), .own 10]), (10, rowV 69 (eI .u64) t2_4.1.Words)], ⟨[], false⟩, []⟩ (And.intro ((nfa_may_ok h2_1)) (And.intro (And.intro ((bits_New_ok h2_3).ren 17 10 (by kernel_rfl)) (trivial)) (trivial))) (by kernel_rfl) ?_
  refine WX.seq ?_
  refine WC.reg (n := 14) hn [] [2] [2, 10] ⟨[(2, .ptr 2 0)], [(2, .box 25 [.p (i6 (t2_4.1.N)), .own 10]), (10, rowV 69 (eI .u64) t2_4.1.Words)], ⟨[], false⟩, []⟩ trivial (by kernel_rfl) ?_
  refine WX.ret ?_
  exact WC.outO (by rw [← Option.some.inj h]; kernel_rfl)
theorem nfa_None_okP {k : Nat} {a0 : api_Nfa} {r : api_Bits} (h : nfa_None k a0 = some r) : Ans Tryd.prog 21 [.agg [sC a0.Classes, i6 (a0.First.N), sW a0.First.Words, i6 (a0.Last.N), sW a0.Last.Words, sB a0.Follow, bo (a0.Null)]] (.agg [i6 (r.N), sW r.Words]) := AnsO.ans (args := [.agg [sC a0.Classes, i6 (a0.First.N), sW a0.First.Words, i6 (a0.Last.N), sW a0.Last.Words, sB a0.Follow, bo (a0.Null)]]) (nfa_None_ok h) (by kernel_rfl)
def slices_Clone_uint64_uint64 (a0 : (List Int)) : Option ((List Int)) :=
  (if okApp 8 (([] : List Int).length + a0.length) then some (([] : List Int) ++ a0) else none)
theorem slices_Clone_uint64_uint64_ok {a0 : (List Int)} {r : (List Int)} (h : slices_Clone_uint64_uint64 a0 = some r) : AnsO Tryd.prog 130 [] [.p (sW a0)] [(7, rowV 69 (eI .u64) r)] (.own 7) := by
  refine W_fnO [7] Tryd.func130 rfl (by kernel_rfl) (by kernel_rfl) (by kernel_rfl) (by kernel_rfl) ?_
  intro X hro hn
  unfold slices_Clone_uint64_uint64 at h
  refine WX.seq ?_
  refine WC.reg (n := 8) hn [] [0] [] ⟨[(0, .p (sW a0))], [], ⟨[], false⟩, []⟩ trivial (by kernel_rfl) ?_
  refine WX.seq ?_
  refine WX.seq ?_
  refine WC.nilCase (E := (eI .u64)) (l := a0) 0 (by kernel_rfl) (fun hnil => ?_) ?_
  · have h1 : (some (([] : List Int))) = some r := by rw [hnil] at h; clear hnil; simp at h ⊢; first | exact h.2 | exact h | simp_all
    replace h := h1
    refine WC.keep [0] [] (st' := ⟨[(0, .p (.sl .isnil a0.length (encL (eI .u64) a0)))], [], ⟨[], false⟩, []⟩) (by kernel_rfl) ?_
    refine WC.reg (n := 8) hn [] [0, 4] [] ⟨[(0, .p (.sl .isnil a0.length (encL (eI .u64) a0))), (4, .p (bo (true)))], [], ⟨[], false⟩, []⟩ trivial (by kernel_rfl) ?_
    refine WC.tag [0] [] [0, 4] [] (st' := ⟨[(0, .p (sW a0)), (4, .p (bo (true)))], [], ⟨[], false⟩, []⟩) (by kernel_rfl) ?_
    refine WC.condT rfl (by kernel_rfl) ?_
    refine WX.seq ?_
    refine WC.reg (n := 8) hn [] [2] [] ⟨[(2, .p (.sl .nil 0 []))], [], ⟨[], false⟩, []⟩ trivial (by kernel_rfl) ?_
    refine WX.ret ?_
    refine WC.nil (n := 8) hn [2] none 7 69 1 (by kernel_rfl) [2] [7] (st' := ⟨[(2, .own 7)], [(7, rowV 69 (eI .u64) (([] : List Int)))], ⟨[], false⟩, []⟩) (by kernel_rfl) ?_
    exact WC.outO (by rw [← Option.some.inj h]; kernel_rfl)
  · refine WC.keep [0] [] (st' := ⟨[(0, .p (.sl .nn a0.length (encL (eI .u64) a0)))], [], ⟨[], false⟩, []⟩) (by kernel_rfl) ?_
    refine WC.reg (n := 8) hn [] [0, 4] [] ⟨[(0, .p (.sl .nn a0.length (encL (eI .u64) a0))), (4, .p (bo (false)))], [], ⟨[], false⟩, []⟩ trivial (by kernel_rfl) ?_
    refine WC.tag [0] [] [0, 4] [] (st' := ⟨[(0, .p (sW a0)), (4, .p (bo (false)))], [], ⟨[], false⟩, []⟩) (by kernel_rfl) ?_
    refine WC.condF rfl (by kernel_rfl) ?_
    refine WX.skip ?_
    refine WX.seq ?_
    obtain ⟨c6_1, h⟩ := if_some h
    refine WC.reg (n := 8) hn [(2, .app (some 5) (rowV 69 (eI .u64) (([] : List Int) ++ a0)))] [2] [7] ⟨[(2, .own 7)], [(7, rowV 69 (eI .u64) (([] : List Int) ++ a0))], ⟨[], false⟩, []⟩ (And.intro (ApS (eI .u64) (some 5) 69 8 ([] : List Int) a0 c6_1) (trivial)) (by kernel_rfl) ?_
    refine WX.ret ?_
    exact WC.outO (by rw [← Option.some.inj h]; kernel_rfl)
theorem slices_Clone_uint64_uint64_okP {a0 : (List Int)} {r : (List Int)} (h : slices_Clone_uint64_uint64 a0 = some r) : Ans Tryd.prog 130 [sW a0] (sW r) := AnsO.ans (args := [sW a0]) (slices_Clone_uint64_uint64_ok h) (by kernel_rfl)
def bits_own (a0 : api_Bits) : Option (api_Bits) :=
  (bits_Check a0).bind fun t2_2 => (if (t2_2 != 0) = true then some ((api_Bits.mk 0 (([] : List Int)))) else (slices_Clone_uint64_uint64 a0.Words).bind fun t5_2 => some ((api_Bits.mk a0.N t5_2)))
theorem bits_own_ok {a0 : api_Bits} {r : api_Bits} (h : bits_own a0 = some r) : AnsO Tryd.prog 118 [] [.p (.agg [i6 (a0.N), sW a0.Words])] [(9, rowV 69 (eI .u64) r.Words)] (.agg [.p (i6 (r.N)), .own 9]) := by
  refine W_fnO [9] Tryd.func118 rfl (by kernel_rfl) (by kernel_rfl) (by kernel_rfl) (by kernel_rfl) ?_
  intro X hro hn
  unfold bits_own at h
  refine WX.seq ?_
  refine WC.reg (n := 12) hn [] [1, 2] [1, 2] ⟨[(1, .ptr 1 0), (2, .ptr 2 0)], [(1, .box 25 [.p (i6 (a0.N)), .p (sW a0.Words)]), (2, .box 25 [.p (i6 (0)), .p (.sl .nil 0 [])])], ⟨[], false⟩, []⟩ trivial (by kernel_rfl) ?_
  refine WX.seq ?_
  refine WX.seq ?_
  obtain ⟨t2_2, h2_1, h⟩ := bind_some h
  refine WC.reg (n := 12) hn [(1, .resP (i6 (t2_2)))] [1, 2, 5] [1, 2] ⟨[(1, .ptr 1 0), (2, .ptr 2 0), (5, .p (bo (((t2_2 != 0)))))], [(1, .box 25 [.p (i6 (a0.N)), .p (sW a0.Words)]), (2, .box 25 [.p (i6 (0)), .p (.sl .nil 0 [])])], ⟨[], false⟩, []⟩ (And.intro ((bits_Check_ok h2_1)) (trivial)) (by kernel_rfl) ?_
  rcases if_or h with ⟨c3, h⟩ | ⟨c3, h⟩
  · refine WC.condT c3 (by kernel_rfl) ?_
    refine WX.seq ?_
    refine WC.reg (n := 12) hn [] [2] [2] ⟨[(2, .ptr 2 0)], [(2, .box 25 [.p (i6 (0)), .p (.sl .nil 0 [])])], ⟨[], false⟩, []⟩ trivial (by kernel_rfl) ?_
    refine WX.ret ?_
    refine WC.nil (n := 12) hn [] (some (2, 1)) 9 69 1 (by kernel_rfl) [2] [2, 9] (st' := ⟨[(2, .ptr 2 0)], [(2, .box 25 [.p (i6 (0)), .own 9]), (9, rowV 69 (eI .u64) (([] : List Int)))], ⟨[], false⟩, []⟩) (by kernel_rfl) ?_
    exact WC.outO (by rw [← Option.some.inj h]; kernel_rfl)
  · refine WC.condF c3 (by kernel_rfl) ?_
    refine WX.skip ?_
    refine WX.seq ?_
    obtain ⟨t5_2, h5_1, h⟩ := bind_some h
    refine WC.reg (n := 12) hn [(2, .co [] [] [] [(9, rowV 69 (eI .u64) t5_2)] (.own 9))] [1, 2] [1, 2, 9] ⟨[(1, .ptr 1 0), (2, .ptr 2 0)], [(1, .box 25 [.p (i6 (a0.N)), .own 9]), (2, .box 25 [.p (i6 (0)), .p (.sl .nil 0 [])]), (9, rowV 69 (eI .u64) t5_2)], ⟨[], false⟩, []⟩ (And.intro (And.intro ((slices_Clone_uint64_uint64_ok h5_1).ren 7 9 (by kernel_rfl)) (trivial)) (trivial)) (by kernel_rfl) ?_
    refine WX.seq ?_
    refine WC.reg (n := 12) hn [] [2] [2, 9] ⟨[(2, .ptr 2 0)], [(2, .box 25 [.p (i6 (a0.N)), .own 9]), (9, rowV 69 (eI .u64) t5_2)], ⟨[], false⟩, []⟩ trivial (by kernel_rfl) ?_
    refine WX.ret ?_
    exact WC.outO (by rw [← Option.some.inj h]; kernel_rfl)
theorem bits_own_okP {a0 : api_Bits} {r : api_Bits} (h : bits_own a0 = some r) : Ans Tryd.prog 118 [.agg [i6 (a0.N), sW a0.Words]] (.agg [i6 (r.N), sW r.Words]) := AnsO.ans (args := [.agg [i6 (a0.N), sW a0.Words]]) (bits_own_ok h) (by kernel_rfl)
def bits_fit (a0 : api_Bits) (a1 : Int) : Option (api_Bits) :=
  (bits_empty a1).bind fun t2_2 => (if (decide ((a1.tmod 64) > 0)) = true then (at_ (cpy t2_2.Words a0.Words) ((IntKind.i64.wrap (((cpy t2_2.Words a0.Words).length : Int) - 1)))).bind fun t7_2 => (if ¬ (a1.tmod 64) < 0 then some ((api_Bits.mk t2_2.N ((cpy t2_2.Words a0.Words).set ((IntKind.i64.wrap (((cpy t2_2.Words a0.Words).length : Int) - 1))).toNat ((bits .and .u64 t7_2 ((IntKind.u64.wrap ((IntKind.u64.wrap (1 * 2 ^ (min ((a1.tmod 64)).toNat IntKind.u64.bits))) - 1)))))))) else none) else some ((api_Bits.mk t2_2.N (cpy t2_2.Words a0.Words))))
theorem bits_fit_ok {a0 : api_Bits} {a1 : Int} {r : api_Bits} (h : bits_fit a0 a1 = some r) : AnsO Tryd.prog 129 [] [.p (.agg [i6 (a0.N), sW a0.Words]), .p (i6 (a1))] [(8, rowV 69 (eI .u64) r.Words)] (.agg [.p (i6 (r.N)), .own 8]) := by
  refine W_fnO [8] Tryd.func129 rfl (by kernel_rfl) (by kernel_rfl) (by kernel_rfl) (by kernel_rfl) ?_
  intro X hro hn
  unfold bits_fit at h
  refine WX.seq ?_
  refine WC.reg (n := 32) hn [] [1, 2, 4] [2, 4] ⟨[(1, .p (i6 (a1))), (2, .ptr 2 0), (4, .ptr 4 0)], [(2, .box 25 [.p (i6 (a0.N)), .p (sW a0.Words)]), (4, .box 25 [.p (i6 (0)), .p (.sl .nil 0 [])])], ⟨[], false⟩, []⟩ trivial (by kernel_rfl) ?_
  refine WX.seq ?_
  obtain ⟨t2_2, h2_1, h⟩ := bind_some h
  refine WC.reg (n := 32) hn [(1, .co [] [] [] [(8, rowV 69 (eI .u64) t2_2.Words)] (.agg [.p (i6 (t2_2.N)), .own 8]))] [1, 2, 4, 5] [2, 4, 5, 8] ⟨[(1, .p (i6 (a1))), (2, .ptr 2 0), (4, .ptr 4 0), (5, .ptr 5 0)], [(2, .box 25 [.p (i6 (a0.N)), .p (sW a0.Words)]), (4, .box 25 [.p (i6 (0)), .p (.sl .nil 0 [])]), (5, .box 25 [.p (i6 (t2_2.N)), .own 8]), (8, rowV 69 (eI .u64) t2_2.Words)], ⟨[], false⟩, []⟩ (And.intro (And.intro ((bits_empty_ok h2_1).ren 6 8 (by kernel_rfl)) (trivial)) (trivial)) (by kernel_rfl) ?_
  refine WX.seq ?_
  refine WC.reg (n := 32) hn [(4, .cpy 8 (rowV 69 (eI .u64) (cpy t2_2.Words a0.Words)) (min a0.Words.length t2_2.Words.length))] [1, 4, 5] [4, 5, 8] ⟨[(1, .p (i6 (a1))), (4, .ptr 4 0), (5, .ptr 5 0)], [(4, .box 25 [.p (i6 (0)), .p (.sl .nil 0 [])]), (5, .box 25 [.p (i6 (t2_2.N)), .own 8]), (8, rowV 69 (eI .u64) (cpy t2_2.Words a0.Words))], ⟨[], false⟩, []⟩ (And.intro (Cp (eI .u64) 8 69 t2_2.Words a0.Words) (trivial)) (by kernel_rfl) ?_
  refine WX.seq ?_
  refine WX.seq ?_
  refine WC.reg (n := 32) hn [] [4, 5, 6] [4, 5, 8] ⟨[(4, .ptr 4 0), (5, .ptr 5 0), (6, .p (i6 (((a1.tmod 64)))))], [(4, .box 25 [.p (i6 (0)), .p (.sl .nil 0 [])]), (5, .box 25 [.p (i6 (t2_2.N)), .own 8]), (8, rowV 69 (eI .u64) (cpy t2_2.Words a0.Words))], ⟨[], false⟩, []⟩ trivial (by kernel_rfl) ?_
  refine WX.seq ?_
  refine WC.reg (n := 32) hn [] [4, 5, 6, 17] [4, 5, 8] ⟨[(4, .ptr 4 0), (5, .ptr 5 0), (6, .p (i6 (((a1.tmod 64))))), (17, .p (bo (((decide ((a1.tmod 64) > 0))))))], [(4, .box 25 [.p (i6 (0)), .p (.sl .nil 0 [])]), (5, .box 25 [.p (i6 (t2_2.N)), .own 8]), (8, rowV 69 (eI .u64) (cpy t2_2.Words a0.Words))], ⟨[], false⟩, []⟩ trivial (by kernel_rfl) ?_
  rcases if_or h with ⟨c6, h⟩ | ⟨c6, h⟩
  · refine WC.condT c6 (by kernel_rfl) ?_
    obtain ⟨t7_2, h7_1, h⟩ := bind_some h
    obtain ⟨c7_3, h⟩ := if_some h
    refine WC.drw (n := 32) hn [(13, [])] [] [(6, .val (.ptr 8 (((IntKind.i64.wrap (((cpy t2_2.Words a0.Words).length : Int) - 1))).toNat * 1))), (7, .val (.p (.s (.int .u64 t7_2)))), (9, .val (.p (.s (.int .u64 (IntKind.u64.wrap (1 * 2 ^ (min ((a1.tmod 64)).toNat IntKind.u64.bits))))))), (12, .val (.ptr 8 (((IntKind.i64.wrap (((cpy t2_2.Words a0.Words).length : Int) - 1))).toNat * 1))), (13, .sto 8 (rowV 69 (eI .u64) ((cpy t2_2.Words a0.Words).set ((IntKind.i64.wrap (((cpy t2_2.Words a0.Words).length : Int) - 1))).toNat ((bits .and .u64 t7_2 ((IntKind.u64.wrap ((IntKind.u64.wrap (1 * 2 ^ (min ((a1.tmod 64)).toNat IntKind.u64.bits))) - 1))))))))] [4, 5] [4, 5, 8] ⟨[(4, .ptr 4 0), (5, .ptr 5 0)], [(4, .box 25 [.p (i6 (0)), .p (.sl .nil 0 [])]), (5, .box 25 [.p (i6 (t2_2.N)), .own 8]), (8, rowV 69 (eI .u64) ((cpy t2_2.Words a0.Words).set ((IntKind.i64.wrap (((cpy t2_2.Words a0.Words).length : Int) - 1))).toNat ((bits .and .u64 t7_2 ((IntKind.u64.wrap ((IntKind.u64.wrap (1 * 2 ^ (min ((a1.tmod 64)).toNat IntKind.u64.bits))) - 1)))))))], ⟨[], false⟩, []⟩ (And.intro (IxO 8 1 h7_1) (And.intro (LdO0 Tryd.prog (eI .u64) 69 h7_1) (And.intro (Shl .u64 1 ((a1.tmod 64)) c7_3) (And.intro (IxO 8 1 h7_1) (And.intro (StO0 (eI .u64) 8 69 1 1 [.s (.int .u64 ((bits .and .u64 t7_2 ((IntKind.u64.wrap ((IntKind.u64.wrap (1 * 2 ^ (min ((a1.tmod 64)).toNat IntKind.u64.bits))) - 1))))))] ((bits .and .u64 t7_2 ((IntKind.u64.wrap ((IntKind.u64.wrap (1 * 2 ^ (min ((a1.tmod 64)).toNat IntKind.u64.bits))) - 1))))) h7_1 rfl rfl (by decide)) (trivial)))))) (by kernel_rfl) (by kernel_rfl) (by kernel_rfl) (by kernel_rfl) ?_
    refine WX.seq ?_
    refine WC.reg (n := 32) hn [] [4] [4, 8] ⟨[(4, .ptr 4 0)], [(4, .box 25 [.p (i6 (t2_2.N)), .own 8]), (8, rowV 69 (eI .u64) ((cpy t2_2.Words a0.Words).set ((IntKind.i64.wrap (((cpy t2_2.Words a0.Words).length : Int) - 1))).toNat ((bits .and .u64 t7_2 ((IntKind.u64.wrap ((IntKind.u64.wrap (1 * 2 ^ (min ((a1.tmod 64)).toNat IntKind.u64.bits))) - 1)))))))], ⟨[], false⟩, []⟩ trivial (by kernel_rfl) ?_
    refine WX.ret ?_
    exact WC.outO (by rw [← Option.some.inj h]; kernel_rfl)
  · refine WC.condF c6 (by kernel_rfl) ?_
    refine WX.skip ?_
    refine WX.seq ?_
    refine WC.reg (n := 32) hn [] [4] [4, 8] ⟨[(4, .ptr 4 0)], [(4, .box 25 [.p (i6 (t2_2.N)), .own 8]), (8, rowV 69 (eI .u64) (cpy t2_2.Words a0.Words))], ⟨[], false⟩, []⟩ trivial (by kernel_rfl) ?_
    refine WX.ret ?_
    exact WC.outO (by rw [← Option.some.inj h]; kernel_rfl)
theorem bits_fit_okP {a0 : api_Bits} {a1 : Int} {r : api_Bits} (h : bits_fit a0 a1 = some r) : Ans Tryd.prog 129 [.agg [i6 (a0.N), sW a0.Words], i6 (a1)] (.agg [i6 (r.N), sW r.Words]) := AnsO.ans (args := [.agg [i6 (a0.N), sW a0.Words], i6 (a1)]) (bits_fit_ok h) (by kernel_rfl)
def bits_Or_1 (a0 : Int) (a1 : Int) : Option (Int) :=
  some ((bits .or .u64 a0 a1))
theorem bits_Or_1_ok {a0 : Int} {a1 : Int} {r : Int} (h : bits_Or_1 a0 a1 = some r) : Ans Tryd.prog 117 [.s (.int .u64 a0), .s (.int .u64 a1)] (.s (.int .u64 r)) := by
  refine W_fn Tryd.func117 rfl (by kernel_rfl) (by kernel_rfl) ?_
  intro X hro hn
  unfold bits_Or_1 at h
  refine WX.seq ?_
  refine WC.reg (n := 8) hn [] [0, 1] [] ⟨[(0, .p (.s (.int .u64 a0))), (1, .p (.s (.int .u64 a1)))], [], ⟨[], false⟩, []⟩ trivial (by kernel_rfl) ?_
  refine WX.seq ?_
  refine WC.reg (n := 8) hn [] [4] [] ⟨[(4, .p (.s (.int .u64 ((bits .or .u64 a0 a1)))))], [], ⟨[], false⟩, []⟩ trivial (by kernel_rfl) ?_
  refine WX.ret ?_
  exact WC.outP (by rw [← Option.some.inj h]; kernel_rfl)
def bits_join_v1_l0 (t2_2 : api_Bits) (t3_4 : api_Bits) (J5 : List Int → Option (api_Bits)) : Nat → (Int × List Int) → Option (api_Bits)
  | 0, _ => none
  | k + 1, (x18_1_1, x18_1_2) => (if (decide (x18_1_1 < (t2_2.Words.length : Int))) = true then (at_ x18_1_2 x18_1_1).bind fun t32_2 => (at_ t3_4.Words x18_1_1).bind fun t32_4 => (bits_Or_1 t32_2 t32_4).bind fun t32_6 => bits_join_v1_l0 t2_2 t3_4 J5 k ((IntKind.i64.wrap (x18_1_1 + 1)), x18_1_2.set x18_1_1.toNat t32_6) else J5 x18_1_2)
def bits_join_v1 (k : Nat) (a0 : api_Bits) (a1 : api_Bits) (a2 : (Unit)) : Option (api_Bits) :=
  (bits_own a0).bind fun t2_2 => (bits_own a1).bind fun t3_2 => (bits_fit t3_2 t2_2.N).bind fun t3_4 => jn (fun (v5 : List Int) => some ((api_Bits.mk t2_2.N v5))) fun J5 => bits_join_v1_l0 t2_2 t3_4 J5 k (0, t2_2.Words)
theorem bits_join_v1_ok {k : Nat} {a0 : api_Bits} {a1 : api_Bits} {a2 : (Unit)} {r : api_Bits} (h : bits_join_v1 k a0 a1 a2 = some r) : AnsO Tryd.prog 116 [] [.p (.agg [i6 (a0.N), sW a0.Words]), .p (.agg [i6 (a1.N), sW a1.Words]), .p (.fn 117 [])] [(10, rowV 69 (eI .u64) r.Words)] (.agg [.p (i6 (r.N)), .own 10]) := by
  refine W_fnO [10] Tryd.func116 rfl (by kernel_rfl) (by kernel_rfl) (by kernel_rfl) (by kernel_rfl) ?_
  intro X hro hn
  unfold bits_join_v1 at h
  refine WX.seq ?_
  refine WC.reg (n := 40) hn [] [2, 3, 4, 6] [3, 4, 6] ⟨[(2, .p (.fn 117 [])), (3, .ptr 3 0), (4, .ptr 4 0), (6, .ptr 6 0)], [(3, .box 25 [.p (i6 (a0.N)), .p (sW a0.Words)]), (4, .box 25 [.p (i6 (a1.N)), .p (sW a1.Words)]), (6, .box 25 [.p (i6 (0)), .p (.sl .nil 0 [])])], ⟨[], false⟩, []⟩ trivial (by kernel_rfl) ?_
  refine WX.seq ?_
  obtain ⟨t2_2, h2_1, h⟩ := bind_some h
  refine WC.reg (n := 40) hn [(1, .co [] [] [] [(10, rowV 69 (eI .u64) t2_2.Words)] (.agg [.p (i6 (t2_2.N)), .own 10]))] [2, 3, 4, 6] [3, 4, 6, 10] ⟨[(2, .p (.fn 117 [])), (3, .ptr 3 0), (4, .ptr 4 0), (6, .ptr 6 0)], [(3, .box 25 [.p (i6 (t2_2.N)), .own 10]), (4, .box 25 [.p (i6 (a1.N)), .p (sW a1.Words)]), (6, .box 25 [.p (i6 (0)), .p (.sl .nil 0 [])]), (10, rowV 69 (eI .u64) t2_2.Words)], ⟨[], false⟩, []⟩ (And.intro (And.intro ((bits_own_ok h2_1).ren 9 10 (by kernel_rfl)) (trivial)) (trivial)) (by kernel_rfl) ?_
  refine WX.seq ?_
  obtain ⟨t3_2, h3_1, h⟩ := bind_some h
  obtain ⟨t3_4, h3_3, h⟩ := bind_some h
  refine WC.drw (n := 40) hn [(6, [])] [7] [(1, .resP (.agg [i6 (t3_2.N), sW t3_2.Words])), (4, .resP (.agg [i6 (t3_4.N), sW t3_4.Words]))] [2, 3, 6, 7] [3, 6, 7, 10] ⟨[(2, .p (.fn 117 [])), (3, .ptr 3 0), (6, .ptr 6 0), (7, .ptr 7 0)], [(3, .box 25 [.p (i6 (t2_2.N)), .own 10]), (6, .box 25 [.p (i6 (0)), .p (.sl .nil 0 [])]), (7, .box 25 [.p (i6 (t3_4.N)), .p (sW t3_4.Words)]), (10, rowV 69 (eI .u64) t2_2.Words)], ⟨[], false⟩, []⟩ (And.intro ((bits_own_okP h3_1)) (And.intro ((bits_fit_okP h3_3)) (trivial))) (by kernel_rfl) (by kernel_rfl) (by kernel_rfl) (by kernel_rfl) ?_
  refine WX.seq ?_
  refine WX.seq ?_
  refine WC.reg (n := 40) hn [] [2, 3, 6, 7, 18, 19] [3, 6, 7, 10] ⟨[(2, .p (.fn 117 [])), (3, .ptr 3 0), (6, .ptr 6 0), (7, .ptr 7 0), (18, .p (i6 (((t2_2.Words.length : Int))))), (19, .p (i6 (0)))], [(3, .box 25 [.p (i6 (t2_2.N)), .own 10]), (6, .box 25 [.p (i6 (0)), .p (.sl .nil 0 [])]), (7, .box 25 [.p (i6 (t3_4.N)), .p (sW t3_4.Words)]), (10, rowV 69 (eI .u64) t2_2.Words)], ⟨[], false⟩, []⟩ trivial (by kernel_rfl) ?_
  obtain ⟨J5, eJ5, h⟩ := jn_some h
  try dsimp only at h
  refine WC.join (α := List Int) (fun v5 => ⟨[(3, .ptr 3 0), (6, .ptr 6 0)], [(3, .box 25 [.p (i6 (t2_2.N)), .own 10]), (6, .box 25 [.p (i6 (0)), .p (.sl .nil 0 [])]), (10, rowV 69 (eI .u64) v5)], ⟨[], false⟩, []⟩) (fun v5 => J5 v5 = some r) ?_ (fun hJ5 => ?_)
  · rintro y5_1 h
    rw [eJ5] at h
    try dsimp only at h
    refine WX.seq ?_
    refine WC.reg (n := 40) hn [] [6] [6, 10] ⟨[(6, .ptr 6 0)], [(6, .box 25 [.p (i6 (t2_2.N)), .own 10]), (10, rowV 69 (eI .u64) y5_1)], ⟨[], false⟩, []⟩ trivial (by kernel_rfl) ?_
    refine WX.ret ?_
    exact WC.outO (by rw [← Option.some.inj h]; kernel_rfl)
  · replace hJ5 := fun y5_1 => hJ5 y5_1
    refine WX.block ?_
    refine WC.loop (V := Int × List Int) (bits_join_v1_l0 t2_2 t3_4 J5) r (fun v18 => ⟨[(2, .p (.fn 117 [])), (3, .ptr 3 0), (6, .ptr 6 0), (7, .ptr 7 0), (18, .p (i6 (((t2_2.Words.length : Int))))), (19, .p (i6 (v18.1)))], [(3, .box 25 [.p (i6 (t2_2.N)), .own 10]), (6, .box 25 [.p (i6 (0)), .p (.sl .nil 0 [])]), (7, .box 25 [.p (i6 (t3_4.N)), .p (sW t3_4.Words)]), (10, rowV 69 (eI .u64) v18.2)], ⟨[], false⟩, []⟩) _ (0, t2_2.Words) h (fun _ => rfl) [2, 3, 6, 7, 18, 19] [3, 6, 7, 10] (by kernel_rfl) ?_
    clear h; rintro k ⟨x18_1_1, x18_1_2⟩ h K18 hnext18 hexit18
    rw [bits_join_v1_l0] at h
    refine WX.seq ?_
    refine WC.reg (n := 40) hn [] [2, 3, 6, 7, 18, 19, 20] [3, 6, 7, 10] ⟨[(2, .p (.fn 117 [])), (3, .ptr 3 0), (6, .ptr 6 0), (7, .ptr 7 0), (18, .p (i6 (((t2_2.Words.length : Int))))), (19, .p (i6 (x18_1_1))), (20, .p (bo (((decide (x18_1_1 < (t2_2.Words.length : Int)))))))], [(3, .box 25 [.p (i6 (t2_2.N)), .own 10]), (6, .box 25 [.p (i6 (0)), .p (.sl .nil 0 [])]), (7, .box 25 [.p (i6 (t3_4.N)), .p (sW t3_4.Words)]), (10, rowV 69 (eI .u64) x18_1_2)], ⟨[], false⟩, []⟩ trivial (by kernel_rfl) ?_
    refine WX.seq ?_
    rcases if_or h with ⟨c30, h⟩ | ⟨c30, h⟩
    · refine WC.condT c30 (by kernel_rfl) ?_
      refine WX.skip ?_
      refine WX.seq ?_
      refine WX.block ?_
      refine WX.seq ?_
      refine WC.reg (n := 40) hn [] [2, 3, 6, 7, 8, 18, 19] [3, 6, 7, 10] ⟨[(2, .p (.fn 117 [])), (3, .ptr 3 0), (6, .ptr 6 0), (7, .ptr 7 0), (8, .p (i6 (x18_1_1))), (18, .p (i6 (((t2_2.Words.length : Int))))), (19, .p (i6 (x18_1_1)))], [(3, .box 25 [.p (i6 (t2_2.N)), .own 10]), (6, .box 25 [.p (i6 (0)), .p (.sl .nil 0 [])]), (7, .box 25 [.p (i6 (t3_4.N)), .p (sW t3_4.Words)]), (10, rowV 69 (eI .u64) x18_1_2)], ⟨[], false⟩, []⟩ trivial (by kernel_rfl) ?_
      obtain ⟨t32_2, h32_1, h⟩ := bind_some h
      obtain ⟨t32_4, h32_3, h⟩ := bind_some h
      obtain ⟨t32_6, h32_5, h⟩ := bind_some h
      refine WC.drw (n := 40) hn [(16, [])] [] [(7, .val (.ptr 10 (x18_1_1.toNat * 1))), (8, .val (.p (.s (.int .u64 t32_2)))), (12, .val (.p (.rop ((eI .u64).cells t32_4 ++ encL (eI .u64) (t3_4.Words.drop (x18_1_1.toNat + 1)))))), (14, .resP (.s (.int .u64 t32_6))), (15, .val (.ptr 10 (x18_1_1.toNat * 1))), (16, .sto 10 (rowV 69 (eI .u64) (x18_1_2.set x18_1_1.toNat t32_6)))] [2, 3, 6, 7, 18, 19] [3, 6, 7, 10] ⟨[(2, .p (.fn 117 [])), (3, .ptr 3 0), (6, .ptr 6 0), (7, .ptr 7 0), (18, .p (i6 (((t2_2.Words.length : Int))))), (19, .p (i6 (x18_1_1)))], [(3, .box 25 [.p (i6 (t2_2.N)), .own 10]), (6, .box 25 [.p (i6 (0)), .p (.sl .nil 0 [])]), (7, .box 25 [.p (i6 (t3_4.N)), .p (sW t3_4.Words)]), (10, rowV 69 (eI .u64) (x18_1_2.set x18_1_1.toNat t32_6))], ⟨[], false⟩, []⟩ (And.intro (IxO 10 1 h32_1) (And.intro (LdO0 Tryd.prog (eI .u64) 69 h32_1) (And.intro (Ix (eI .u64) h32_3) (And.intro ((bits_Or_1_ok h32_5)) (And.intro (IxO 10 1 h32_1) (And.intro (StO0 (eI .u64) 10 69 1 1 [.s (.int .u64 t32_6)] t32_6 h32_1 rfl rfl (by decide)) (trivial))))))) (by kernel_rfl) (by kernel_rfl) (by kernel_rfl) (by kernel_rfl) ?_
      refine WX.popBlk ?_
      refine WC.reg (n := 40) hn [] [2, 3, 6, 7, 18, 19] [3, 6, 7, 10] ⟨[(2, .p (.fn 117 [])), (3, .ptr 3 0), (6, .ptr 6 0), (7, .ptr 7 0), (18, .p (i6 (((t2_2.Words.length : Int))))), (19, .p (i6 (((IntKind.i64.wrap (x18_1_1 + 1))))))], [(3, .box 25 [.p (i6 (t2_2.N)), .own 10]), (6, .box 25 [.p (i6 (0)), .p (.sl .nil 0 [])]), (7, .box 25 [.p (i6 (t3_4.N)), .p (sW t3_4.Words)]), (10, rowV 69 (eI .u64) (x18_1_2.set x18_1_1.toNat t32_6))], ⟨[], false⟩, []⟩ trivial (by kernel_rfl) ?_
      exact WC.next [2, 3, 6, 7, 18, 19] [3, 6, 7, 10] (by kernel_rfl) (hnext18 ((IntKind.i64.wrap (x18_1_1 + 1)), x18_1_2.set x18_1_1.toNat t32_6) h)
    · refine WC.condF c30 (by kernel_rfl) ?_
      refine WX.exit ?_
      refine WX.popCodeExit ?_
      refine WC.exit_nil (hexit18 _ _ (by simp) ?_)
      refine WX.popBlkHit ?_
      exact WC.keep [3, 6] [3, 6, 10] (by kernel_rfl) (hJ5 x18_1_2 h)
theorem bits_join_v1_okP {k : Nat} {a0 : api_Bits} {a1 : api_Bits} {a2 : (Unit)} {r : api_Bits} (h : bits_join_v1 k a0 a1 a2 = some r) : Ans Tryd.prog 116 [.agg [i6 (a0.N), sW a0.Words], .agg [i6 (a1.N), sW a1.Words], .fn 117 []] (.agg [i6 (r.N), sW r.Words]) := AnsO.ans (args := [.agg [i6 (a0.N), sW a0.Words], .agg [i6 (a1.N), sW a1.Words], .fn 117 []]) (bits_join_v1_ok h) (by kernel_rfl)
def bits_Or (k : Nat) (a0 : api_Bits) (a1 : api_Bits) : Option (api_Bits) :=
  (bits_join_v1 k a0 a1 (())).bind fun t2_2 => some t2_2
theorem bits_Or_ok {k : Nat} {a0 : api_Bits} {a1 : api_Bits} {r : api_Bits} (h : bits_Or k a0 a1 = some r) : AnsO Tryd.prog 88 [] [.p (.agg [i6 (a0.N), sW a0.Words]), .p (.agg [i6 (a1.N), sW a1.Words])] [(7, rowV 69 (eI .u64) r.Words)] (.agg [.p (i6 (r.N)), .own 7]) := by
  refine W_fnO [7] Tryd.func88 rfl (by kernel_rfl) (by kernel_rfl) (by kernel_rfl) (by kernel_rfl) ?_
  intro X hro hn
  unfold bits_Or at h
  refine WX.seq ?_
  refine WC.reg (n := 8) hn [] [2, 3, 4] [2, 3, 4] ⟨[(2, .ptr 2 0), (3, .ptr 3 0), (4, .ptr 4 0)], [(2, .box 25 [.p (i6 (a0.N)), .p (sW a0.Words)]), (3, .box 25 [.p (i6 (a1.N)), .p (sW a1.Words)]), (4, .box 25 [.p (i6 (0)), .p (.sl .nil 0 [])])], ⟨[], false⟩, []⟩ trivial (by kernel_rfl) ?_
  refine WX.seq ?_
  obtain ⟨t2_2, h2_1, h⟩ := bind_some h
  refine WC.reg (n := 8) hn [(2, .co [] [] [] [(7, rowV 69 (eI .u64) t2_2.Words)] (.agg [.p (i6 (t2_2.N)), .own 7]))] [4] [4, 7] ⟨[(4, .ptr 4 0)], [(4, .box 25 [.p (i6 (t2_2.N)), .own 7]), (7, rowV 69 (eI .u64) t2_2.Words)], ⟨[], false⟩, []⟩ (And.intro (And.intro ((bits_join_v1_ok h2_1).ren 10 7 (by kernel_rfl)) (trivial)) (trivial)) (by kernel_rfl) ?_
  refine WX.ret ?_
  exact WC.outO (by rw [← Option.some.inj h]; kernel_rfl)
theorem bits_Or_okP {k : Nat} {a0 : api_Bits} {a1 : api_Bits} {r : api_Bits} (h : bits_Or k a0 a1 = some r) : Ans Tryd.prog 88 [.agg [i6 (a0.N), sW a0.Words], .agg [i6 (a1.N), sW a1.Words]] (.agg [i6 (r.N), sW r.Words]) := AnsO.ans (args := [.agg [i6 (a0.N), sW a0.Words], .agg [i6 (a1.N), sW a1.Words]]) (bits_Or_ok h) (by kernel_rfl)
def bits_TrailingZeros64 (a0 : Int) : Option (Int) :=
  (if (a0 == 0) = true then some 64 else (at_ tab0 ((((IntKind.u64.wrap ((bits .and .u64 a0 ((IntKind.u64.wrap (0 - a0)))) * 285870213051353865))).fdiv (2 ^ 58)))).bind fun t5_2 => some ((IntKind.i64.wrap t5_2)))
theorem bits_TrailingZeros64_ok {a0 : Int} {r : Int} (h : bits_TrailingZeros64 a0 = some r) : Ans Tryd.prog 92 [.s (.int .u64 a0)] (i6 (r)) := by
  refine W_fn Tryd.func92 rfl (by kernel_rfl) (by kernel_rfl) ?_
  intro X hro hn
  unfold bits_TrailingZeros64 at h
  refine WX.seq ?_
  refine WC.reg (n := 14) hn [] [0] [] ⟨[(0, .p (.s (.int .u64 a0)))], [], ⟨[], false⟩, []⟩ trivial (by kernel_rfl) ?_
  refine WX.seq ?_
  refine WX.seq ?_
  refine WC.reg (n := 14) hn [] [0, 4] [] ⟨[(0, .p (.s (.int .u64 a0))), (4, .p (bo (((a0 == 0)))))], [], ⟨[], false⟩, []⟩ trivial (by kernel_rfl) ?_
  rcases if_or h with ⟨c3, h⟩ | ⟨c3, h⟩
  · refine WC.condT c3 (by kernel_rfl) ?_
    refine WX.seq ?_
    refine WC.reg (n := 14) hn [] [2] [] ⟨[(2, .p (i6 (64)))], [], ⟨[], false⟩, []⟩ trivial (by kernel_rfl) ?_
    refine WX.ret ?_
    exact WC.outP (by rw [← Option.some.inj h]; kernel_rfl)
  · refine WC.condF c3 (by kernel_rfl) ?_
    refine WX.skip ?_
    refine WX.seq ?_
    obtain ⟨t5_2, h5_1, h⟩ := bind_some h
    refine WC.reg (n := 14) hn [(6, .val (.p (.rop ((eI .u8).cells t5_2 ++ encL (eI .u8) (tab0.drop (((((IntKind.u64.wrap ((bits .and .u64 a0 ((IntKind.u64.wrap (0 - a0)))) * 285870213051353865))).fdiv (2 ^ 58))).toNat + 1))))))] [2] [] ⟨[(2, .p (i6 (((IntKind.i64.wrap t5_2)))))], [], ⟨[], false⟩, []⟩ (And.intro (IxG (eI .u8) 64 rfl h5_1) (trivial)) (by kernel_rfl) ?_
    refine WX.ret ?_
    exact WC.outP (by rw [← Option.some.inj h]; kernel_rfl)
def bits_First_l0 (a0 : api_Bits) (a1 : Int) (J7 : Unit → Option (Int × Bool)) : Nat → Int → Option (Int × Bool)
  | 0, _ => none
  | k + 1, x32_1_1 => (if (decide (x32_1_1 < (a0.Words.length : Int))) = true then (at_ a0.Words x32_1_1).bind fun t57_2 => jn (fun (v59 : Int) => (if (v59 != 0) = true then (bits_TrailingZeros64 v59).bind fun t64_2 => some ((IntKind.i64.wrap ((IntKind.i64.wrap (64 * x32_1_1)) + t64_2)), true) else bits_First_l0 a0 a1 J7 k ((IntKind.i64.wrap (x32_1_1 + 1))))) fun J59 => (if (x32_1_1 == (IntKind.i64.wrap (((maxI a1 0)).tdiv 64))) = true then (if ¬ (((maxI a1 0)).tmod 64) < 0 then J59 ((IntKind.u64.wrap ((t57_2.fdiv (2 ^ (min ((((maxI a1 0)).tmod 64)).toNat IntKind.u64.bits))) * 2 ^ (min ((((maxI a1 0)).tmod 64)).toNat IntKind.u64.bits)))) else none) else J59 t57_2) else J7 ())
def bits_First (k : Nat) (a0 : api_Bits) (a1 : Int) : Option (Int × Bool) :=
  (bits_Check a0).bind fun t2_2 => (if (t2_2 != 0) = true then some (0, false) else jn (fun (v7 : Unit) => some (0, false)) fun J7 => bits_First_l0 a0 a1 J7 k ((IntKind.i64.wrap (((maxI a1 0)).tdiv 64))))
theorem bits_First_ok {k : Nat} {a0 : api_Bits} {a1 : Int} {r : Int × Bool} (h : bits_First k a0 a1 = some r) : Ans Tryd.prog 54 [.agg [i6 (a0.N), sW a0.Words], i6 (a1)] (.tup [i6 (r.1), bo (r.2)]) := by
  refine W_fn Tryd.func54 rfl (by kernel_rfl) (by kernel_rfl) ?_
  intro X hro hn
  unfold bits_First at h
  refine WX.seq ?_
  refine WC.reg (n := 45) hn [] [1, 2] [2] ⟨[(1, .p (i6 (a1))), (2, .ptr 2 0)], [(2, .box 25 [.p (i6 (a0.N)), .p (sW a0.Words)])], ⟨[], false⟩, []⟩ trivial (by kernel_rfl) ?_
  refine WX.seq ?_
  refine WX.seq ?_
  obtain ⟨t2_2, h2_1, h⟩ := bind_some h
  refine WC.reg (n := 45) hn [(1, .resP (i6 (t2_2)))] [1, 2, 10] [2] ⟨[(1, .p (i6 (a1))), (2, .ptr 2 0), (10, .p (bo (((t2_2 != 0)))))], [(2, .box 25 [.p (i6 (a0.N)), .p (sW a0.Words)])], ⟨[], false⟩, []⟩ (And.intro ((bits_Check_ok h2_1)) (trivial)) (by kernel_rfl) ?_
  rcases if_or h with ⟨c3, h⟩ | ⟨c3, h⟩
  · refine WC.condT c3 (by kernel_rfl) ?_
    refine WX.seq ?_
    refine WC.reg (n := 45) hn [] [4, 5] [] ⟨[(4, .p (i6 (0))), (5, .p (bo (false)))], [], ⟨[], false⟩, []⟩ trivial (by kernel_rfl) ?_
    refine WX.ret ?_
    exact WC.outP (by rw [← Option.some.inj h]; kernel_rfl)
  · refine WC.condF c3 (by kernel_rfl) ?_
    refine WX.skip ?_
    refine WX.seq ?_
    refine WC.reg (n := 45) hn [] [1, 2] [2] ⟨[(1, .p (i6 (((maxI a1 0))))), (2, .ptr 2 0)], [(2, .box 25 [.p (i6 (a0.N)), .p (sW a0.Words)])], ⟨[], false⟩, []⟩ trivial (by kernel_rfl) ?_
    refine WX.seq ?_
    refine WX.seq ?_
    refine WC.reg (n := 45) hn [] [1, 2, 6] [2] ⟨[(1, .p (i6 (((maxI a1 0))))), (2, .ptr 2 0), (6, .p (i6 (((IntKind.i64.wrap (((maxI a1 0)).tdiv 64))))))], [(2, .box 25 [.p (i6 (a0.N)), .p (sW a0.Words)])], ⟨[], false⟩, []⟩ trivial (by kernel_rfl) ?_
    obtain ⟨J7, eJ7, h⟩ := jn_some h
    try dsimp only at h
    refine WC.join (α := Unit) (fun v7 => ⟨[], [], ⟨[], false⟩, []⟩) (fun v7 => J7 v7 = some r) ?_ (fun hJ7 => ?_)
    · rintro _ h
      rw [eJ7] at h
      try dsimp only at h
      refine WX.seq ?_
      refine WC.reg (n := 45) hn [] [4, 5] [] ⟨[(4, .p (i6 (0))), (5, .p (bo (false)))], [], ⟨[], false⟩, []⟩ trivial (by kernel_rfl) ?_
      refine WX.ret ?_
      exact WC.outP (by rw [← Option.some.inj h]; kernel_rfl)
    · skip
      refine WX.block ?_
      refine WC.loop (V := Int) (bits_First_l0 a0 a1 J7) r (fun v32 => ⟨[(1, .p (i6 (((maxI a1 0))))), (2, .ptr 2 0), (6, .p (i6 (v32)))], [(2, .box 25 [.p (i6 (a0.N)), .p (sW a0.Words)])], ⟨[], false⟩, []⟩) _ ((IntKind.i64.wrap (((maxI a1 0)).tdiv 64))) h (fun _ => rfl) [1, 2, 6] [2] (by kernel_rfl) ?_
      clear h; rintro k x32_1_1 h K32 hnext32 hexit32
      rw [bits_First_l0] at h
      refine WX.seq ?_
      refine WX.seq ?_
      refine WC.reg (n := 45) hn [] [1, 2, 6, 19] [2] ⟨[(1, .p (i6 (((maxI a1 0))))), (2, .ptr 2 0), (6, .p (i6 (x32_1_1))), (19, .p (bo (((decide (x32_1_1 < (a0.Words.length : Int)))))))], [(2, .box 25 [.p (i6 (a0.N)), .p (sW a0.Words)])], ⟨[], false⟩, []⟩ trivial (by kernel_rfl) ?_
      rcases if_or h with ⟨c56, h⟩ | ⟨c56, h⟩
      · refine WC.condT c56 (by kernel_rfl) ?_
        refine WX.skip ?_
        refine WX.seq ?_
        refine WX.block ?_
        refine WX.seq ?_
        obtain ⟨t57_2, h57_1, h⟩ := bind_some h
        refine WC.reg (n := 45) hn [(3, .val (.p (.rop ((eI .u64).cells t57_2 ++ encL (eI .u64) (a0.Words.drop (x32_1_1.toNat + 1))))))] [1, 2, 6, 7] [2] ⟨[(1, .p (i6 (((maxI a1 0))))), (2, .ptr 2 0), (6, .p (i6 (x32_1_1))), (7, .p (.s (.int .u64 t57_2)))], [(2, .box 25 [.p (i6 (a0.N)), .p (sW a0.Words)])], ⟨[], false⟩, []⟩ (And.intro (Ix (eI .u64) h57_1) (trivial)) (by kernel_rfl) ?_
        refine WX.seq ?_
        refine WX.seq ?_
        refine WC.reg (n := 45) hn [] [1, 2, 6, 7, 30] [2] ⟨[(1, .p (i6 (((maxI a1 0))))), (2, .ptr 2 0), (6, .p (i6 (x32_1_1))), (7, .p (.s (.int .u64 t57_2))), (30, .p (bo (((x32_1_1 == (IntKind.i64.wrap (((maxI a1 0)).tdiv 64)))))))], [(2, .box 25 [.p (i6 (a0.N)), .p (sW a0.Words)])], ⟨[], false⟩, []⟩ trivial (by kernel_rfl) ?_
        obtain ⟨J59, eJ59, h⟩ := jn_some h
        try dsimp only at h
        refine WC.join (α := Int) (fun v59 => ⟨[(1, .p (i6 (((maxI a1 0))))), (2, .ptr 2 0), (6, .p (i6 (x32_1_1))), (7, .p (.s (.int .u64 v59)))], [(2, .box 25 [.p (i6 (a0.N)), .p (sW a0.Words)])], ⟨[], false⟩, []⟩) (fun v59 => J59 v59 = some r) ?_ (fun hJ59 => ?_)
        · rintro y59_1 h
          rw [eJ59] at h
          try dsimp only at h
          refine WX.seq ?_
          refine WC.reg (n := 45) hn [] [1, 2, 6, 7, 39] [2] ⟨[(1, .p (i6 (((maxI a1 0))))), (2, .ptr 2 0), (6, .p (i6 (x32_1_1))), (7, .p (.s (.int .u64 y59_1))), (39, .p (bo (((y59_1 != 0)))))], [(2, .box 25 [.p (i6 (a0.N)), .p (sW a0.Words)])], ⟨[], false⟩, []⟩ trivial (by kernel_rfl) ?_
          rcases if_or h with ⟨c63, h⟩ | ⟨c63, h⟩
          · refine WC.condT c63 (by kernel_rfl) ?_
            refine WX.seq ?_
            obtain ⟨t64_2, h64_1, h⟩ := bind_some h
            refine WC.reg (n := 45) hn [(3, .resP (i6 (t64_2)))] [4, 5] [] ⟨[(4, .p (i6 (((IntKind.i64.wrap ((IntKind.i64.wrap (64 * x32_1_1)) + t64_2)))))), (5, .p (bo (true)))], [], ⟨[], false⟩, []⟩ (And.intro ((bits_TrailingZeros64_ok h64_1)) (trivial)) (by kernel_rfl) ?_
            refine WX.ret ?_
            refine WC.ret_all (hexit32 _ _ (by simp) ?_)
            exact WC.outP (by rw [← Option.some.inj h]; kernel_rfl)
          · refine WC.condF c63 (by kernel_rfl) ?_
            refine WX.skip ?_
            refine WX.popBlk ?_
            refine WC.reg (n := 45) hn [] [1, 2, 6] [2] ⟨[(1, .p (i6 (((maxI a1 0))))), (2, .ptr 2 0), (6, .p (i6 (((IntKind.i64.wrap (x32_1_1 + 1))))))], [(2, .box 25 [.p (i6 (a0.N)), .p (sW a0.Words)])], ⟨[], false⟩, []⟩ trivial (by kernel_rfl) ?_
            exact WC.next [1, 2, 6] [2] (by kernel_rfl) (hnext32 ((IntKind.i64.wrap (x32_1_1 + 1))) h)
        · replace hJ59 := fun y59_1 => hJ59 y59_1
          rcases if_or h with ⟨c66, h⟩ | ⟨c66, h⟩
          · refine WC.condT c66 (by kernel_rfl) ?_
            obtain ⟨c67_1, h⟩ := if_some h
            refine WC.reg (n := 45) hn [(3, .val (.p (.s (.int .u64 (t57_2.fdiv (2 ^ (min ((((maxI a1 0)).tmod 64)).toNat IntKind.u64.bits))))))), (6, .val (.p (.s (.int .u64 (IntKind.u64.wrap ((t57_2.fdiv (2 ^ (min ((((maxI a1 0)).tmod 64)).toNat IntKind.u64.bits))) * 2 ^ (min ((((maxI a1 0)).tmod 64)).toNat IntKind.u64.bits)))))))] [1, 2, 6, 7] [2] ⟨[(1, .p (i6 (((maxI a1 0))))), (2, .ptr 2 0), (6, .p (i6 (x32_1_1))), (7, .p (.s (.int .u64 ((IntKind.u64.wrap ((t57_2.fdiv (2 ^ (min ((((maxI a1 0)).tmod 64)).toNat IntKind.u64.bits))) * 2 ^ (min ((((maxI a1 0)).tmod 64)).toNat IntKind.u64.bits)))))))], [(2, .box 25 [.p (i6 (a0.N)), .p (sW a0.Words)])], ⟨[], false⟩, []⟩ (And.intro (Shr .u64 t57_2 ((((maxI a1 0)).tmod 64)) c67_1) (And.intro (Shl .u64 ((t57_2.fdiv (2 ^ (min ((((maxI a1 0)).tmod 64)).toNat IntKind.u64.bits)))) ((((maxI a1 0)).tmod 64)) c67_1) (trivial))) (by kernel_rfl) ?_
            exact WC.keep [1, 2, 6, 7] [2] (by kernel_rfl) (hJ59 ((IntKind.u64.wrap ((t57_2.fdiv (2 ^ (min ((((maxI a1 0)).tmod 64)).toNat IntKind.u64.bits))) * 2 ^ (min ((((maxI a1 0)).tmod 64)).toNat IntKind.u64.bits)))) h)
          · refine WC.condF c66 (by kernel_rfl) ?_
            refine WX.skip ?_
            exact WC.keep [1, 2, 6, 7] [2] (by kernel_rfl) (hJ59 t57_2 h)
      · refine WC.condF c56 (by kernel_rfl) ?_
        refine WX.exit ?_
        refine WX.popCodeExit ?_
        refine WC.exit_nil (hexit32 _ _ (by simp) ?_)
        refine WX.popBlkHit ?_
        exact WC.keep [] [] (by kernel_rfl) (hJ7 () h)
def bits_All (a0 : api_Bits) : Option ((api_Bits)) :=
  (bits_own a0).bind fun t2_2 => some t2_2
theorem bits_All_ok {a0 : api_Bits} {r : (api_Bits)} (h : bits_All a0 = some r) : Ans Tryd.prog 89 [.agg [i6 (a0.N), sW a0.Words]] (.fn 119 [.rop ([i6 (r.N), sW r.Words])]) := by
  refine W_fn Tryd.func89 rfl (by kernel_rfl) (by kernel_rfl) ?_
  intro X hro hn
  unfold bits_All at h
  refine WX.seq ?_
  refine WC.reg (n := 6) hn [] [1] [1] ⟨[(1, .ptr 1 0)], [(1, .box 25 [.p (i6 (a0.N)), .p (sW a0.Words)])], ⟨[], false⟩, []⟩ trivial (by kernel_rfl) ?_
  refine WX.seq ?_
  obtain ⟨t2_2, h2_1, h⟩ := bind_some h
  refine WC.reg (n := 6) hn [(1, .co [] [] [] [(4, rowV 69 (eI .u64) t2_2.Words)] (.agg [.p (i6 (t2_2.N)), .own 4]))] [1] [1, 4] ⟨[(1, .ptr 1 0)], [(1, .box 25 [.p (i6 (t2_2.N)), .own 4]), (4, rowV 69 (eI .u64) t2_2.Words)], ⟨[], false⟩, []⟩ (And.intro (And.intro ((bits_own_ok h2_1).ren 9 4 (by kernel_rfl)) (trivial)) (trivial)) (by kernel_rfl) ?_
  refine WX.seq ?_
  refine WC.reg (n := 6) hn [] [2] [1, 4] ⟨[(2, .fn 119 [.ptr 1 0])], [(1, .box 25 [.p (i6 (t2_2.N)), .own 4]), (4, rowV 69 (eI .u64) t2_2.Words)], ⟨[], false⟩, []⟩ trivial (by kernel_rfl) ?_
  refine WX.ret ?_
  exact WC.outP (by rw [← Option.some.inj h]; kernel_rfl)
def class_Has (a0 : (Arr4 Int)) (a1 : Int) : Option (Bool) :=
  (if 0 ≤ (a1.fdiv (2 ^ 6)) ∧ (a1.fdiv (2 ^ 6)) < 4 then (if ¬ (bits .and .u8 a1 63) < 0 then some (((bits .and .u64 ((((get4 a0.a0 a0.a1 a0.a2 a0.a3 ((a1.fdiv (2 ^ 6))))).fdiv (2 ^ (min ((bits .and .u8 a1 63)).toNat IntKind.u64.bits)))) 1) == 1)) else none) else none)
theorem class_Has_ok {a0 : (Arr4 Int)} {a1 : Int} {r : Bool} (h : class_Has a0 a1 = some r) : Ans Tryd.prog 90 [.agg [.s (.int .u64 a0.a0), .s (.int .u64 a0.a1), .s (.int .u64 a0.a2), .s (.int .u64 a0.a3)], .s (.int .u8 a1)] (bo (r)) := by
  refine W_fn Tryd.func90 rfl (by kernel_rfl) (by kernel_rfl) ?_
  intro X hro hn
  unfold class_Has at h
  refine WX.seq ?_
  refine WC.reg (n := 14) hn [] [1, 2] [2] ⟨[(1, .p (.s (.int .u8 a1))), (2, .ptr 2 0)], [(2, .box 71 [.p (.s (.int .u64 a0.a0)), .p (.s (.int .u64 a0.a1)), .p (.s (.int .u64 a0.a2)), .p (.s (.int .u64 a0.a3))])], ⟨[], false⟩, []⟩ trivial (by kernel_rfl) ?_
  refine WX.seq ?_
  obtain ⟨c2_1, h⟩ := if_some h
  obtain ⟨c2_2, h⟩ := if_some h
  refine WC.reg (n := 14) hn [(2, .val (.ptr 2 (0 + ((a1.fdiv (2 ^ 6))).toNat * 1))), (3, .val (.p (.s (.int .u64 ((get4 a0.a0 a0.a1 a0.a2 a0.a3 ((a1.fdiv (2 ^ 6))))))))), (6, .val (.p (.s (.int .u64 (((get4 a0.a0 a0.a1 a0.a2 a0.a3 ((a1.fdiv (2 ^ 6))))).fdiv (2 ^ (min ((bits .and .u8 a1 63)).toNat IntKind.u64.bits)))))))] [4] [] ⟨[(4, .p (bo ((((bits .and .u64 ((((get4 a0.a0 a0.a1 a0.a2 a0.a3 ((a1.fdiv (2 ^ 6))))).fdiv (2 ^ (min ((bits .and .u8 a1 63)).toNat IntKind.u64.bits)))) 1) == 1)))))], [], ⟨[], false⟩, []⟩ (And.intro (IxA4 2 0 ((a1.fdiv (2 ^ 6))) c2_1) (And.intro (LdA4 Tryd.prog 69 [] .u64 a0.a0 a0.a1 a0.a2 a0.a3 [] ((a1.fdiv (2 ^ 6))) c2_1 rfl rfl) (And.intro (Shr .u64 ((get4 a0.a0 a0.a1 a0.a2 a0.a3 ((a1.fdiv (2 ^ 6))))) ((bits .and .u8 a1 63)) c2_2) (trivial)))) (by kernel_rfl) ?_
  refine WX.ret ?_
  exact WC.outP (by rw [← Option.some.inj h]; kernel_rfl)
def bits_With (a0 : api_Bits) (a1 : Int) : Option (api_Bits) :=
  (bits_own a0).bind fun t2_2 => (if (((decide (a1 ≥ 0))) && ((decide (a1 < t2_2.N)))) = true then (at_ t2_2.Words ((IntKind.i64.wrap (a1.tdiv 64)))).bind fun t5_2 => (if ¬ (a1.tmod 64) < 0 then some ((api_Bits.mk t2_2.N (t2_2.Words.set ((IntKind.i64.wrap (a1.tdiv 64))).toNat ((bits .or .u64 t5_2 ((IntKind.u64.wrap (1 * 2 ^ (min ((a1.tmod 64)).toNat IntKind.u64.bits))))))))) else none) else some t2_2)
theorem bits_With_ok {a0 : api_Bits} {a1 : Int} {r : api_Bits} (h : bits_With a0 a1 = some r) : AnsO Tryd.prog 91 [] [.p (.agg [i6 (a0.N), sW a0.Words]), .p (i6 (a1))] [(6, rowV 69 (eI .u64) r.Words)] (.agg [.p (i6 (r.N)), .own 6]) := by
  refine W_fnO [6] Tryd.func91 rfl (by kernel_rfl) (by kernel_rfl) (by kernel_rfl) (by kernel_rfl) ?_
  intro X hro hn
  unfold bits_With at h
  refine WX.seq ?_
  refine WC.reg (n := 27) hn [] [1, 2, 4] [2, 4] ⟨[(1, .p (i6 (a1))), (2, .ptr 2 0), (4, .ptr 4 0)], [(2, .box 25 [.p (i6 (a0.N)), .p (sW a0.Words)]), (4, .box 25 [.p (i6 (0)), .p (.sl .nil 0 [])])], ⟨[], false⟩, []⟩ trivial (by kernel_rfl) ?_
  refine WX.seq ?_
  obtain ⟨t2_2, h2_1, h⟩ := bind_some h
  refine WC.reg (n := 27) hn [(1, .co [] [] [] [(6, rowV 69 (eI .u64) t2_2.Words)] (.agg [.p (i6 (t2_2.N)), .own 6]))] [1, 2, 4] [2, 4, 6] ⟨[(1, .p (i6 (a1))), (2, .ptr 2 0), (4, .ptr 4 0)], [(2, .box 25 [.p (i6 (t2_2.N)), .own 6]), (4, .box 25 [.p (i6 (0)), .p (.sl .nil 0 [])]), (6, rowV 69 (eI .u64) t2_2.Words)], ⟨[], false⟩, []⟩ (And.intro (And.intro ((bits_own_ok h2_1).ren 9 6 (by kernel_rfl)) (trivial)) (trivial)) (by kernel_rfl) ?_
  refine WX.seq ?_
  refine WX.seq ?_
  refine WC.via (α := Bool) (fun v3 => ⟨[(1, .p (i6 (a1))), (2, .ptr 2 0), (4, .ptr 4 0), (14, .p (bo (v3)))], [(2, .box 25 [.p (i6 (t2_2.N)), .own 6]), (4, .box 25 [.p (i6 (0)), .p (.sl .nil 0 [])]), (6, rowV 69 (eI .u64) t2_2.Words)], ⟨[], false⟩, []⟩) ((((decide (a1 ≥ 0))) && ((decide (a1 < t2_2.N))))) (fun hk => ?_) ?_
  · rcases Bool.eq_false_or_eq_true ((decide (a1 ≥ 0))) with b3_2 | b3_2
    · exact WC.reg (n := 27) hn [(2, .val (.p (bo (true))))] [1, 2, 4, 14] [2, 4, 6] ⟨[(1, .p (i6 (a1))), (2, .ptr 2 0), (4, .ptr 4 0), (14, .p (bo (((decide (a1 < t2_2.N))))))], [(2, .box 25 [.p (i6 (t2_2.N)), .own 6]), (4, .box 25 [.p (i6 (0)), .p (.sl .nil 0 [])]), (6, rowV 69 (eI .u64) t2_2.Words)], ⟨[], false⟩, []⟩ (And.intro (Bl b3_2) (trivial)) (by kernel_rfl) (hk ((decide (a1 < t2_2.N))) (by first | (rw [b3_2]; rfl) | simp [b3_2]))
    · exact WC.reg (n := 27) hn [(2, .val (.p (bo (false))))] [1, 2, 4, 14] [2, 4, 6] ⟨[(1, .p (i6 (a1))), (2, .ptr 2 0), (4, .ptr 4 0), (14, .p (bo (false)))], [(2, .box 25 [.p (i6 (t2_2.N)), .own 6]), (4, .box 25 [.p (i6 (0)), .p (.sl .nil 0 [])]), (6, rowV 69 (eI .u64) t2_2.Words)], ⟨[], false⟩, []⟩ (And.intro (Bl b3_2) (trivial)) (by kernel_rfl) (hk false (by first | (rw [b3_2]; rfl) | simp [b3_2]))
  rcases if_or h with ⟨c4, h⟩ | ⟨c4, h⟩
  · refine WC.condT c4 (by kernel_rfl) ?_
    obtain ⟨t5_2, h5_1, h⟩ := bind_some h
    obtain ⟨c5_3, h⟩ := if_some h
    refine WC.drw (n := 27) hn [(11, [])] [] [(4, .val (.ptr 6 (((IntKind.i64.wrap (a1.tdiv 64))).toNat * 1))), (5, .val (.p (.s (.int .u64 t5_2)))), (8, .val (.p (.s (.int .u64 (IntKind.u64.wrap (1 * 2 ^ (min ((a1.tmod 64)).toNat IntKind.u64.bits))))))), (10, .val (.ptr 6 (((IntKind.i64.wrap (a1.tdiv 64))).toNat * 1))), (11, .sto 6 (rowV 69 (eI .u64) (t2_2.Words.set ((IntKind.i64.wrap (a1.tdiv 64))).toNat ((bits .or .u64 t5_2 ((IntKind.u64.wrap (1 * 2 ^ (min ((a1.tmod 64)).toNat IntKind.u64.bits)))))))))] [2, 4] [2, 4, 6] ⟨[(2, .ptr 2 0), (4, .ptr 4 0)], [(2, .box 25 [.p (i6 (t2_2.N)), .own 6]), (4, .box 25 [.p (i6 (0)), .p (.sl .nil 0 [])]), (6, rowV 69 (eI .u64) (t2_2.Words.set ((IntKind.i64.wrap (a1.tdiv 64))).toNat ((bits .or .u64 t5_2 ((IntKind.u64.wrap (1 * 2 ^ (min ((a1.tmod 64)).toNat IntKind.u64.bits))))))))], ⟨[], false⟩, []⟩ (And.intro (IxO 6 1 h5_1) (And.intro (LdO0 Tryd.prog (eI .u64) 69 h5_1) (And.intro (Shl .u64 1 ((a1.tmod 64)) c5_3) (And.intro (IxO 6 1 h5_1) (And.intro (StO0 (eI .u64) 6 69 1 1 [.s (.int .u64 ((bits .or .u64 t5_2 ((IntKind.u64.wrap (1 * 2 ^ (min ((a1.tmod 64)).toNat IntKind.u64.bits)))))))] ((bits .or .u64 t5_2 ((IntKind.u64.wrap (1 * 2 ^ (min ((a1.tmod 64)).toNat IntKind.u64.bits)))))) h5_1 rfl rfl (by decide)) (trivial)))))) (by kernel_rfl) (by kernel_rfl) (by kernel_rfl) (by kernel_rfl) ?_
    refine WX.seq ?_
    refine WC.reg (n := 27) hn [] [4] [4, 6] ⟨[(4, .ptr 4 0)], [(4, .box 25 [.p (i6 (t2_2.N)), .own 6]), (6, rowV 69 (eI .u64) (t2_2.Words.set ((IntKind.i64.wrap (a1.tdiv 64))).toNat ((bits .or .u64 t5_2 ((IntKind.u64.wrap (1 * 2 ^ (min ((a1.tmod 64)).toNat IntKind.u64.bits))))))))], ⟨[], false⟩, []⟩ trivial (by kernel_rfl) ?_
    refine WX.ret ?_
    exact WC.outO (by rw [← Option.some.inj h]; kernel_rfl)
  · refine WC.condF c4 (by kernel_rfl) ?_
    refine WX.skip ?_
    refine WX.seq ?_
    refine WC.reg (n := 27) hn [] [4] [4, 6] ⟨[(4, .ptr 4 0)], [(4, .box 25 [.p (i6 (t2_2.N)), .own 6]), (6, rowV 69 (eI .u64) t2_2.Words)], ⟨[], false⟩, []⟩ trivial (by kernel_rfl) ?_
    refine WX.ret ?_
    exact WC.outO (by rw [← Option.some.inj h]; kernel_rfl)
theorem bits_With_okP {a0 : api_Bits} {a1 : Int} {r : api_Bits} (h : bits_With a0 a1 = some r) : Ans Tryd.prog 91 [.agg [i6 (a0.N), sW a0.Words], i6 (a1)] (.agg [i6 (r.N), sW r.Words]) := AnsO.ans (args := [.agg [i6 (a0.N), sW a0.Words], i6 (a1)]) (bits_With_ok h) (by kernel_rfl)
def bits_All_1_v1_l0 (a1 : api_Bits) : Nat → (Int × Bool) → Option (List Int)
  | 0, _ => none
  | k + 1, (x2_1_1, x2_1_2) => (if x2_1_2 = true then ((bits_First k a1 ((IntKind.i64.wrap (x2_1_1 + 1)))).bind fun t14_2 => bits_All_1_v1_l0 a1 k (t14_2.1, t14_2.2)).map (x2_1_1 :: ·) else some [])
def bits_All_1_v1 (k : Nat) (a1 : api_Bits) : Option (List Int) :=
  (bits_First k a1 0).bind fun t1_2 => bits_All_1_v1_l0 a1 k (t1_2.1, t1_2.2)
theorem bits_All_1_v1_it {k : Nat} {a1 : api_Bits} {r : List Int} (h : bits_All_1_v1 k a1 = some r) : Iter Tryd.prog 119 [.rop ([i6 (a1.N), sW a1.Words])] (r.map (fun x : Int => ([.int .i64 x] : List Value))) := by
  refine W_it Tryd.func119 rfl (by kernel_rfl) (Nat.le_of_ble_eq_true (by kernel_rfl)) ?_
  intro X hro hn hY
  obtain ⟨L, hLe⟩ : ∃ L, L = r.map (fun x : Int => ([.int .i64 x] : List Value)) := ⟨_, rfl⟩
  rw [← hLe] at hY ⊢
  have hL : ([] : List (List Value)) ++ r.map (fun x : Int => ([.int .i64 x] : List Value)) = L := by rw [hLe]; rfl
  clear hLe
  unfold bits_All_1_v1 at h
  refine WX.seq ?_
  obtain ⟨t1_2, h1_1, h⟩ := bind_some h
  refine WC.reg (n := 22) hn [(1, .resP (.tup [i6 (t1_2.1), bo (t1_2.2)]))] [0, 1, 3, 4] [] ⟨[(0, .yield), (1, .p (.rop ([i6 (a1.N), sW a1.Words]))), (3, .p (i6 (t1_2.1))), (4, .p (bo (t1_2.2)))], [], ⟨([] : List (List Value)), false⟩, []⟩ (And.intro ((bits_First_ok h1_1)) (trivial)) (by kernel_rfl) ?_
  refine WX.block ?_
  refine WC.loop (V := Int × Bool × List (List Value)) (fun k v2 => (bits_All_1_v1_l0 a1 k (v2.1, v2.2.1)).map fun r => v2.2.2 ++ r.map (fun x : Int => ([.int .i64 x] : List Value))) L (fun v2 => ⟨[(0, .yield), (1, .p (.rop ([i6 (a1.N), sW a1.Words]))), (3, .p (i6 (v2.1))), (4, .p (bo (v2.2.1)))], [], ⟨v2.2.2, false⟩, []⟩) _ (t1_2.1, t1_2.2, ([] : List (List Value))) (by rw [h]; exact congrArg some hL) (fun _ => rfl) [0, 1, 3, 4] [] (by kernel_rfl) ?_
  clear h hL; rintro k ⟨x2_1_1, x2_1_2, x2_1_3⟩ h K2 hnext2 hexit2
  obtain ⟨r, h, hL⟩ := mapO_some h
  dsimp only at h hL
  rw [bits_All_1_v1_l0] at h
  refine WX.seq ?_
  refine WX.seq ?_
  refine WC.reg (n := 22) hn [] [0, 1, 3, 10] [] ⟨[(0, .yield), (1, .p (.rop ([i6 (a1.N), sW a1.Words]))), (3, .p (i6 (x2_1_1))), (10, .p (bo (x2_1_2)))], [], ⟨x2_1_3, false⟩, []⟩ trivial (by kernel_rfl) ?_
  rcases if_or h with ⟨c12, h⟩ | ⟨c12, h⟩
  · refine WC.condT c12 (by kernel_rfl) ?_
    refine WX.skip ?_
    refine WX.seq ?_
    refine WX.block ?_
    refine WX.seq ?_
    obtain ⟨r13, hh13, hr13⟩ := mapO_some h
    subst hr13
    replace h := hh13
    refine WC.yld (n := 22) hn hY 2 [] [0, 1, 3, 21] [] (⟨[(0, .yield), (1, .p (.rop ([i6 (a1.N), sW a1.Words]))), (3, .p (i6 (x2_1_1))), (21, .p (bo (false)))], [], ⟨(x2_1_3 ++ [[.int .i64 x2_1_1]]), false⟩, []⟩) (⟨[(0, .yield), (1, .p (.rop ([i6 (a1.N), sW a1.Words]))), (3, .p (i6 (x2_1_1))), (21, .p (bo (true)))], [], ⟨(x2_1_3 ++ [[.int .i64 x2_1_1]]), true⟩, []⟩) x2_1_3 [.int .i64 x2_1_1] (And.intro True.intro (And.intro True.intro True.intro)) (by kernel_rfl) (pre_ok (val := (fun x : Int => ([.int .i64 x] : List Value))) (x := x2_1_1) (l := r13) hL) ?_ ?_
    · replace hL : (x2_1_3 ++ [[.int .i64 x2_1_1]]) ++ r13.map (fun x : Int => ([.int .i64 x] : List Value)) = L := by rw [← hL]; simp
      refine WC.condF rfl (by kernel_rfl) ?_
      refine WX.skip ?_
      refine WX.popBlk ?_
      obtain ⟨t14_2, h14_1, h⟩ := bind_some h
      refine WC.reg (n := 22) hn [(3, .resP (.tup [i6 (t14_2.1), bo (t14_2.2)]))] [0, 1, 3, 4] [] ⟨[(0, .yield), (1, .p (.rop ([i6 (a1.N), sW a1.Words]))), (3, .p (i6 (t14_2.1))), (4, .p (bo (t14_2.2)))], [], ⟨(x2_1_3 ++ [[.int .i64 x2_1_1]]), false⟩, []⟩ (And.intro ((bits_First_ok h14_1)) (trivial)) (by kernel_rfl) ?_
      exact WC.next [0, 1, 3, 4] [] (by kernel_rfl) (hnext2 (t14_2.1, t14_2.2, (x2_1_3 ++ [[.int .i64 x2_1_1]])) (by rw [h]; exact congrArg some hL))
    · refine WC.condT rfl (by kernel_rfl) ?_
      refine WX.ret ?_
      refine WC.ret_all (hexit2 _ _ (by simp) ?_)
      exact WC.ret_all ⟨by kernel_rfl, fun h => by cases h⟩
  · refine WC.condF c12 (by kernel_rfl) ?_
    refine WX.exit ?_
    refine WX.popCodeExit ?_
    refine WC.exit_nil (hexit2 _ _ (by simp) ?_)
    refine WX.popBlkHit ?_
    obtain rfl := Option.some.inj h
    exact WC.exit_nil ⟨by kernel_rfl, fun _ => by simpa using hL⟩
def nfa_step_l1 (k : Nat) (a0 : api_Nfa) (a3 : Int) : List Int → (Int × List Int) → Option (api_Bits)
  | [], (x43_1_1, x43_1_2) => some ((api_Bits.mk x43_1_1 x43_1_2))
  | x43 :: xs43, (x43_1_1, x43_1_2) => (at_ a0.Classes x43).bind fun t56_2 => (class_Has t56_2 a3).bind fun t56_4 => (if t56_4 = true then (bits_With ((api_Bits.mk x43_1_1 x43_1_2)) x43).bind fun t58_2 => nfa_step_l1 k a0 a3 xs43 (t58_2.N, t58_2.Words) else nfa_step_l1 k a0 a3 xs43 (x43_1_1, x43_1_2))
def nfa_step_l0 (k : Nat) (a0 : api_Nfa) (a3 : Int) : List Int → (Int × List Int) → Option (api_Bits)
  | [], (x8_1_1, x8_1_2) => (nfa_None k a0).bind fun t41_2 => (bits_All ((api_Bits.mk x8_1_1 x8_1_2))).bind fun t42_2 => (bits_All_1_v1 k t42_2).bind fun l43 => nfa_step_l1 k a0 a3 l43 (t41_2.N, t41_2.Words)
  | x8 :: xs8, (x8_1_1, x8_1_2) => (at_ a0.Follow x8).bind fun t60_2 => (bits_Or k ((api_Bits.mk x8_1_1 x8_1_2)) t60_2).bind fun t60_4 => nfa_step_l0 k a0 a3 xs8 (t60_4.N, t60_4.Words)
def nfa_step (k : Nat) (a0 : api_Nfa) (a1 : api_Bits) (a2 : Bool) (a3 : Int) : Option (api_Bits) :=
  (nfa_None k a0).bind fun t2_2 => jn (fun (v4 : Int × List Int) => (bits_All a1).bind fun t7_2 => (bits_All_1_v1 k t7_2).bind fun l8 => nfa_step_l0 k a0 a3 l8 (v4.1, v4.2)) fun J4 => (if a2 = true then (bits_Or k t2_2 a0.First).bind fun t62_2 => J4 (t62_2.N, t62_2.Words) else J4 (t2_2.N, t2_2.Words))
theorem nfa_step_ok {k : Nat} {a0 : api_Nfa} {a1 : api_Bits} {a2 : Bool} {a3 : Int} {r : api_Bits} (h : nfa_step k a0 a1 a2 a3 = some r) : AnsO Tryd.prog 53 [] [.p (.agg [sC a0.Classes, i6 (a0.First.N), sW a0.First.Words, i6 (a0.Last.N), sW a0.Last.Words, sB a0.Follow, bo (a0.Null)]), .p (.agg [i6 (a1.N), sW a1.Words]), .p (bo (a2)), .p (.s (.int .u8 a3))] [(31, rowV 69 (eI .u64) r.Words)] (.agg [.p (i6 (r.N)), .own 31]) := by
  refine W_fnO [31] Tryd.func53 rfl (by kernel_rfl) (by kernel_rfl) (by kernel_rfl) (by kernel_rfl) ?_
  intro X hro hn
  unfold nfa_step at h
  refine WX.seq ?_
  refine WC.reg (n := 46) hn [] [2, 4, 5, 7, 8] [4, 5, 7, 8] ⟨[(2, .p (bo (a2))), (4, .ptr 4 0), (5, .ptr 5 0), (7, .ptr 7 0), (8, .ptr 8 0)], [(4, .box 28 [.p (sC a0.Classes), .p (i6 (a0.First.N)), .p (sW a0.First.Words), .p (i6 (a0.Last.N)), .p (sW a0.Last.Words), .p (sB a0.Follow), .p (bo (a0.Null))]), (5, .box 25 [.p (i6 (a1.N)), .p (sW a1.Words)]), (7, .box 5 [.p (.s (.int .u8 a3))]), (8, .box 25 [.p (i6 (0)), .p (.sl .nil 0 [])])], ⟨[], false⟩, []⟩ trivial (by kernel_rfl) ?_
  refine WX.seq ?_
  obtain ⟨t2_2, h2_1, h⟩ := bind_some h
  refine WC.reg (n := 46) hn [(1, .co [] [] [] [(14, rowV 69 (eI .u64) t2_2.Words)] (.agg [.p (i6 (t2_2.N)), .own 14]))] [2, 4, 5, 7, 8, 9] [4, 5, 7, 8, 9, 14] ⟨[(2, .p (bo (a2))), (4, .ptr 4 0), (5, .ptr 5 0), (7, .ptr 7 0), (8, .ptr 8 0), (9, .ptr 9 0)], [(4, .box 28 [.p (sC a0.Classes), .p (i6 (a0.First.N)), .p (sW a0.First.Words), .p (i6 (a0.Last.N)), .p (sW a0.Last.Words), .p (sB a0.Follow), .p (bo (a0.Null))]), (5, .box 25 [.p (i6 (a1.N)), .p (sW a1.Words)]), (7, .box 5 [.p (.s (.int .u8 a3))]), (8, .box 25 [.p (i6 (0)), .p (.sl .nil 0 [])]), (9, .box 25 [.p (i6 (t2_2.N)), .own 14]), (14, rowV 69 (eI .u64) t2_2.Words)], ⟨[], false⟩, []⟩ (And.intro (And.intro ((nfa_None_ok h2_1).ren 10 14 (by kernel_rfl)) (trivial)) (trivial)) (by kernel_rfl) ?_
  refine WX.seq ?_
  refine WX.seq ?_
  refine WC.reg (n := 46) hn [] [4, 5, 7, 8, 9, 15] [4, 5, 7, 8, 9, 14] ⟨[(4, .ptr 4 0), (5, .ptr 5 0), (7, .ptr 7 0), (8, .ptr 8 0), (9, .ptr 9 0), (15, .p (bo (a2)))], [(4, .box 28 [.p (sC a0.Classes), .p (i6 (a0.First.N)), .p (sW a0.First.Words), .p (i6 (a0.Last.N)), .p (sW a0.Last.Words), .p (sB a0.Follow), .p (bo (a0.Null))]), (5, .box 25 [.p (i6 (a1.N)), .p (sW a1.Words)]), (7, .box 5 [.p (.s (.int .u8 a3))]), (8, .box 25 [.p (i6 (0)), .p (.sl .nil 0 [])]), (9, .box 25 [.p (i6 (t2_2.N)), .own 14]), (14, rowV 69 (eI .u64) t2_2.Words)], ⟨[], false⟩, []⟩ trivial (by kernel_rfl) ?_
  obtain ⟨J4, eJ4, h⟩ := jn_some h
  try dsimp only at h
  refine WC.join (α := Int × List Int) (fun v4 => ⟨[(4, .ptr 4 0), (5, .ptr 5 0), (7, .ptr 7 0), (8, .ptr 8 0), (9, .ptr 9 0)], [(4, .box 28 [.p (sC a0.Classes), .p (i6 (a0.First.N)), .p (sW a0.First.Words), .p (i6 (a0.Last.N)), .p (sW a0.Last.Words), .p (sB a0.Follow), .p (bo (a0.Null))]), (5, .box 25 [.p (i6 (a1.N)), .p (sW a1.Words)]), (7, .box 5 [.p (.s (.int .u8 a3))]), (8, .box 25 [.p (i6 (0)), .p (.sl .nil 0 [])]), (9, .box 25 [.p (i6 (v4.1)), .own 19]), (19, rowV 69 (eI .u64) v4.2)], ⟨[], false⟩, []⟩) (fun v4 => J4 v4 = some r) ?_ (fun hJ4 => ?_)
  · rintro ⟨y4_1, y4_2⟩ h
    rw [eJ4] at h
    try dsimp only at h
    refine WX.seq ?_
    refine WX.seq ?_
    obtain ⟨t7_2, h7_1, h⟩ := bind_some h
    refine WC.reg (n := 46) hn [(1, .resP (.fn 119 [.rop ([i6 (t7_2.N), sW t7_2.Words])]))] [4, 7, 8, 9, 21] [4, 7, 8, 9, 19] ⟨[(4, .ptr 4 0), (7, .ptr 7 0), (8, .ptr 8 0), (9, .ptr 9 0), (21, .p (.fn 119 [.rop ([i6 (t7_2.N), sW t7_2.Words])]))], [(4, .box 28 [.p (sC a0.Classes), .p (i6 (a0.First.N)), .p (sW a0.First.Words), .p (i6 (a0.Last.N)), .p (sW a0.Last.Words), .p (sB a0.Follow), .p (bo (a0.Null))]), (7, .box 5 [.p (.s (.int .u8 a3))]), (8, .box 25 [.p (i6 (0)), .p (.sl .nil 0 [])]), (9, .box 25 [.p (i6 (y4_1)), .own 19]), (19, rowV 69 (eI .u64) y4_2)], ⟨[], false⟩, []⟩ (And.intro ((bits_All_ok h7_1)) (trivial)) (by kernel_rfl) ?_
    refine WX.block ?_
    obtain ⟨l8, hI8, h⟩ := bind_some h
    refine WC.frz 19 (st' := ⟨[(4, .ptr 4 0), (7, .ptr 7 0), (8, .ptr 8 0), (9, .ptr 9 0), (21, .p (.fn 119 [.rop ([i6 (t7_2.N), sW t7_2.Words])]))], [(4, .box 28 [.p (sC a0.Classes), .p (i6 (a0.First.N)), .p (sW a0.First.Words), .p (i6 (a0.Last.N)), .p (sW a0.Last.Words), .p (sB a0.Follow), .p (bo (a0.Null))]), (7, .box 5 [.p (.s (.int .u8 a3))]), (8, .box 25 [.p (i6 (0)), .p (.sl .nil 0 [])]), (9, .box 25 [.p (i6 (y4_1)), .p (sW y4_2)])], ⟨[], false⟩, []⟩) (by kernel_rfl) ?_
    refine WC.range (V := Int × List Int) (n := 46) hn (nfa_step_l0 k a0 a3) r (fun v8 => ⟨[(4, .ptr 4 0), (7, .ptr 7 0), (8, .ptr 8 0), (9, .ptr 9 0), (21, .p (.fn 119 [.rop ([i6 (t7_2.N), sW t7_2.Words])]))], [(4, .box 28 [.p (sC a0.Classes), .p (i6 (a0.First.N)), .p (sW a0.First.Words), .p (i6 (a0.Last.N)), .p (sW a0.Last.Words), .p (sB a0.Follow), .p (bo (a0.Null))]), (7, .box 5 [.p (.s (.int .u8 a3))]), (8, .box 25 [.p (i6 (0)), .p (.sl .nil 0 [])]), (9, .box 25 [.p (i6 (v8.1)), .p (sW v8.2)])], ⟨[], false⟩, []⟩) (fun x8 v8 => ⟨[(4, .ptr 4 0), (7, .ptr 7 0), (8, .ptr 8 0), (9, .ptr 9 0), (10, .p (i6 (x8))), (21, .p (.fn 119 [.rop ([i6 (t7_2.N), sW t7_2.Words])])), (22, .p (i6 (x8)))], [(4, .box 28 [.p (sC a0.Classes), .p (i6 (a0.First.N)), .p (sW a0.First.Words), .p (i6 (a0.Last.N)), .p (sW a0.Last.Words), .p (sB a0.Follow), .p (bo (a0.Null))]), (7, .box 5 [.p (.s (.int .u8 a3))]), (8, .box 25 [.p (i6 (0)), .p (.sl .nil 0 [])]), (9, .box 25 [.p (i6 (v8.1)), .p (sW v8.2)])], ⟨[], false⟩, [[(4, .ptr 4 0), (7, .ptr 7 0), (8, .ptr 8 0), (9, .ptr 9 0), (21, .p (.fn 119 [.rop ([i6 (t7_2.N), sW t7_2.Words])]))]]⟩) (fun x : Int => ([.int .i64 x] : List Value)) l8 (y4_1, y4_2) h [4, 7, 8, 9, 21] [4, 7, 8, 9] (by kernel_rfl) (fun v8 => .p (.fn 119 [.rop ([i6 (t7_2.N), sW t7_2.Words])])) (fun v8 => by kernel_rfl) (by kernel_rfl) (bits_All_1_v1_it hI8) (by kernel_rfl) (fun v8 => by kernel_rfl) (fun x => ⟨rfl, rfl⟩) ?_ ?_ ?_
    · clear h; rintro ⟨x8_1_1, x8_1_2⟩ h
      rw [nfa_step_l0] at h
      refine WX.popBlk ?_
      refine WX.seq ?_
      obtain ⟨t41_2, h41_1, h⟩ := bind_some h
      refine WC.reg (n := 46) hn [(1, .co [] [] [] [(31, rowV 69 (eI .u64) t41_2.Words)] (.agg [.p (i6 (t41_2.N)), .own 31]))] [4, 7, 8, 9, 11] [4, 7, 8, 9, 11, 31] ⟨[(4, .ptr 4 0), (7, .ptr 7 0), (8, .ptr 8 0), (9, .ptr 9 0), (11, .ptr 11 0)], [(4, .box 28 [.p (sC a0.Classes), .p (i6 (a0.First.N)), .p (sW a0.First.Words), .p (i6 (a0.Last.N)), .p (sW a0.Last.Words), .p (sB a0.Follow), .p (bo (a0.Null))]), (7, .box 5 [.p (.s (.int .u8 a3))]), (8, .box 25 [.p (i6 (0)), .p (.sl .nil 0 [])]), (9, .box 25 [.p (i6 (x8_1_1)), .p (sW x8_1_2)]), (11, .box 25 [.p (i6 (t41_2.N)), .own 31]), (31, rowV 69 (eI .u64) t41_2.Words)], ⟨[], false⟩, []⟩ (And.intro (And.intro ((nfa_None_ok h41_1).ren 10 31 (by kernel_rfl)) (trivial)) (trivial)) (by kernel_rfl) ?_
      refine WX.seq ?_
      refine WX.seq ?_
      obtain ⟨t42_2, h42_1, h⟩ := bind_some h
      refine WC.reg (n := 46) hn [(1, .resP (.fn 119 [.rop ([i6 (t42_2.N), sW t42_2.Words])]))] [4, 7, 8, 11, 33] [4, 7, 8, 11, 31] ⟨[(4, .ptr 4 0), (7, .ptr 7 0), (8, .ptr 8 0), (11, .ptr 11 0), (33, .p (.fn 119 [.rop ([i6 (t42_2.N), sW t42_2.Words])]))], [(4, .box 28 [.p (sC a0.Classes), .p (i6 (a0.First.N)), .p (sW a0.First.Words), .p (i6 (a0.Last.N)), .p (sW a0.Last.Words), .p (sB a0.Follow), .p (bo (a0.Null))]), (7, .box 5 [.p (.s (.int .u8 a3))]), (8, .box 25 [.p (i6 (0)), .p (.sl .nil 0 [])]), (11, .box 25 [.p (i6 (t41_2.N)), .own 31]), (31, rowV 69 (eI .u64) t41_2.Words)], ⟨[], false⟩, []⟩ (And.intro ((bits_All_ok h42_1)) (trivial)) (by kernel_rfl) ?_
      refine WX.block ?_
      obtain ⟨l43, hI43, h⟩ := bind_some h
      refine WC.range (V := Int × List Int) (n := 46) hn (nfa_step_l1 k a0 a3) r (fun v43 => ⟨[(4, .ptr 4 0), (7, .ptr 7 0), (8, .ptr 8 0), (11, .ptr 11 0), (33, .p (.fn 119 [.rop ([i6 (t42_2.N), sW t42_2.Words])]))], [(4, .box 28 [.p (sC a0.Classes), .p (i6 (a0.First.N)), .p (sW a0.First.Words), .p (i6 (a0.Last.N)), .p (sW a0.Last.Words), .p (sB a0.Follow), .p (bo (a0.Null))]), (7, .box 5 [.p (.s (.int .u8 a3))]), (8, .box 25 [.p (i6 (0)), .p (.sl .nil 0 [])]), (11, .box 25 [.p (i6 (v43.1)), .own 31]), (31, rowV 69 (eI .u64) v43.2)], ⟨[], false⟩, []⟩) (fun x43 v43 => ⟨[(4, .ptr 4 0), (7, .ptr 7 0), (8, .ptr 8 0), (11, .ptr 11 0), (12, .p (i6 (x43))), (33, .p (.fn 119 [.rop ([i6 (t42_2.N), sW t42_2.Words])])), (34, .p (i6 (x43)))], [(4, .box 28 [.p (sC a0.Classes), .p (i6 (a0.First.N)), .p (sW a0.First.Words), .p (i6 (a0.Last.N)), .p (sW a0.Last.Words), .p (sB a0.Follow), .p (bo (a0.Null))]), (7, .box 5 [.p (.s (.int .u8 a3))]), (8, .box 25 [.p (i6 (0)), .p (.sl .nil 0 [])]), (11, .box 25 [.p (i6 (v43.1)), .own 31]), (31, rowV 69 (eI .u64) v43.2)], ⟨[], false⟩, [[(4, .ptr 4 0), (7, .ptr 7 0), (8, .ptr 8 0), (11, .ptr 11 0), (33, .p (.fn 119 [.rop ([i6 (t42_2.N), sW t42_2.Words])]))]]⟩) (fun x : Int => ([.int .i64 x] : List Value)) l43 (t41_2.N, t41_2.Words) h [4, 7, 8, 11, 33] [4, 7, 8, 11, 31] (by kernel_rfl) (fun v43 => .p (.fn 119 [.rop ([i6 (t42_2.N), sW t42_2.Words])])) (fun v43 => by kernel_rfl) (by kernel_rfl) (bits_All_1_v1_it hI43) (by kernel_rfl) (fun v43 => by kernel_rfl) (fun x => ⟨rfl, rfl⟩) ?_ ?_ ?_
      · clear h; rintro ⟨x43_1_1, x43_1_2⟩ h
        rw [nfa_step_l1] at h
        refine WX.popBlk ?_
        refine WX.seq ?_
        refine WC.reg (n := 46) hn [] [8] [8, 31] ⟨[(8, .ptr 8 0)], [(8, .box 25 [.p (i6 (x43_1_1)), .own 31]), (31, rowV 69 (eI .u64) x43_1_2)], ⟨[], false⟩, []⟩ trivial (by kernel_rfl) ?_
        refine WX.ret ?_
        exact WC.outO (by rw [← Option.some.inj h]; kernel_rfl)
      · clear h; intro X hn x43; rintro ⟨x43_1_1, x43_1_2⟩
        refine WC.reg (n := 46) hn [] [4, 7, 8, 11, 12, 33, 34] [4, 7, 8, 11, 31] ⟨[(4, .ptr 4 0), (7, .ptr 7 0), (8, .ptr 8 0), (11, .ptr 11 0), (12, .p (i6 (x43))), (33, .p (.fn 119 [.rop ([i6 (t42_2.N), sW t42_2.Words])])), (34, .p (i6 (x43)))], [(4, .box 28 [.p (sC a0.Classes), .p (i6 (a0.First.N)), .p (sW a0.First.Words), .p (i6 (a0.Last.N)), .p (sW a0.Last.Words), .p (sB a0.Follow), .p (bo (a0.Null))]), (7, .box 5 [.p (.s (.int .u8 a3))]), (8, .box 25 [.p (i6 (0)), .p (.sl .nil 0 [])]), (11, .box 25 [.p (i6 (x43_1_1)), .own 31]), (31, rowV 69 (eI .u64) x43_1_2)], ⟨[], false⟩, [[(4, .ptr 4 0), (7, .ptr 7 0), (8, .ptr 8 0), (11, .ptr 11 0), (33, .p (.fn 119 [.rop ([i6 (t42_2.N), sW t42_2.Words])]))]]⟩ trivial (by kernel_rfl) ?_
        exact WC.exit_nil ⟨rfl, rfl⟩
      · clear h; intro X hn x43 xs43; rintro ⟨x43_1_1, x43_1_2⟩ h K43 hnext43 hexit43
        rw [nfa_step_l1] at h
        refine WX.block ?_
        refine WX.seq ?_
        obtain ⟨t56_2, h56_1, h⟩ := bind_some h
        obtain ⟨t56_4, h56_3, h⟩ := bind_some h
        refine WC.drw (n := 46) hn [] [] [(3, .val (.p (.rop ((e4 (eI .u64)).cells t56_2 ++ encL (e4 (eI .u64)) (a0.Classes.drop (x43.toNat + 1)))))), (6, .resP (bo (t56_4)))] [11, 12, 41] [4, 7, 8, 11, 31] ⟨[(11, .ptr 11 0), (12, .p (i6 (x43))), (41, .p (bo (t56_4)))], [(4, .box 28 [.p (sC a0.Classes), .p (i6 (a0.First.N)), .p (sW a0.First.Words), .p (i6 (a0.Last.N)), .p (sW a0.Last.Words), .p (sB a0.Follow), .p (bo (a0.Null))]), (7, .box 5 [.p (.s (.int .u8 a3))]), (8, .box 25 [.p (i6 (0)), .p (.sl .nil 0 [])]), (11, .box 25 [.p (i6 (x43_1_1)), .own 31]), (31, rowV 69 (eI .u64) x43_1_2)], ⟨[], false⟩, [[(4, .ptr 4 0), (7, .ptr 7 0), (8, .ptr 8 0), (11, .ptr 11 0), (33, .p (.fn 119 [.rop ([i6 (t42_2.N), sW t42_2.Words])]))]]⟩ (And.intro (Ix (e4 (eI .u64)) h56_1) (And.intro ((class_Has_ok h56_3)) (trivial))) (by kernel_rfl) (by kernel_rfl) (by kernel_rfl) (by kernel_rfl) ?_
        rcases if_or h with ⟨c57, h⟩ | ⟨c57, h⟩
        · refine WC.condT c57 (by kernel_rfl) ?_
          obtain ⟨t58_2, h58_1, h⟩ := bind_some h
          refine WC.reg (n := 46) hn [(2, .co [] [] [31] [(44, rowV 69 (eI .u64) t58_2.Words)] (.agg [.p (i6 (t58_2.N)), .own 44]))] [] [4, 7, 8, 11, 44] ⟨[], [(4, .box 28 [.p (sC a0.Classes), .p (i6 (a0.First.N)), .p (sW a0.First.Words), .p (i6 (a0.Last.N)), .p (sW a0.Last.Words), .p (sB a0.Follow), .p (bo (a0.Null))]), (7, .box 5 [.p (.s (.int .u8 a3))]), (8, .box 25 [.p (i6 (0)), .p (.sl .nil 0 [])]), (11, .box 25 [.p (i6 (t58_2.N)), .own 44]), (44, rowV 69 (eI .u64) t58_2.Words)], ⟨[], false⟩, [[(4, .ptr 4 0), (7, .ptr 7 0), (8, .ptr 8 0), (11, .ptr 11 0), (33, .p (.fn 119 [.rop ([i6 (t42_2.N), sW t42_2.Words])]))]]⟩ (And.intro (And.intro ((bits_With_ok h58_1).ren 6 44 (by kernel_rfl)) (And.intro (rfl : (.agg [.p (i6 (t58_2.N)), .own 44] : AV).flat = true) (And.intro (flats_encL (eI .u64) (fun _ => rfl) t58_2.Words) (trivial)))) (trivial)) (by kernel_rfl) ?_
          refine WX.popBlk ?_
          refine WC.keep [] [4, 7, 8, 11, 44] (st' := ⟨[], [(4, .box 28 [.p (sC a0.Classes), .p (i6 (a0.First.N)), .p (sW a0.First.Words), .p (i6 (a0.Last.N)), .p (sW a0.Last.Words), .p (sB a0.Follow), .p (bo (a0.Null))]), (7, .box 5 [.p (.s (.int .u8 a3))]), (8, .box 25 [.p (i6 (0)), .p (.sl .nil 0 [])]), (11, .box 25 [.p (i6 (t58_2.N)), .own 44]), (44, rowV 69 (eI .u64) t58_2.Words)], ⟨[], false⟩, [[(4, .ptr 4 0), (7, .ptr 7 0), (8, .ptr 8 0), (11, .ptr 11 0), (33, .p (.fn 119 [.rop ([i6 (t42_2.N), sW t42_2.Words])]))]]⟩) (by kernel_rfl) ?_
          refine WC.ren (n := 46) hn 44 31 (by kernel_rfl) [] [4, 7, 8, 11, 31] (st' := ⟨[], [(4, .box 28 [.p (sC a0.Classes), .p (i6 (a0.First.N)), .p (sW a0.First.Words), .p (i6 (a0.Last.N)), .p (sW a0.Last.Words), .p (sB a0.Follow), .p (bo (a0.Null))]), (7, .box 5 [.p (.s (.int .u8 a3))]), (8, .box 25 [.p (i6 (0)), .p (.sl .nil 0 [])]), (11, .box 25 [.p (i6 (t58_2.N)), .own 31]), (31, rowV 69 (eI .u64) t58_2.Words)], ⟨[], false⟩, [[(4, .ptr 4 0), (7, .ptr 7 0), (8, .ptr 8 0), (11, .ptr 11 0), (33, .p (.fn 119 [.rop ([i6 (t42_2.N), sW t42_2.Words])]))]]⟩) (by kernel_rfl) ?_
          exact WC.nextR [] [4, 7, 8, 11, 31] (s := ⟨[], [(4, .box 28 [.p (sC a0.Classes), .p (i6 (a0.First.N)), .p (sW a0.First.Words), .p (i6 (a0.Last.N)), .p (sW a0.Last.Words), .p (sB a0.Follow), .p (bo (a0.Null))]), (7, .box 5 [.p (.s (.int .u8 a3))]), (8, .box 25 [.p (i6 (0)), .p (.sl .nil 0 [])]), (11, .box 25 [.p (i6 (t58_2.N)), .own 31]), (31, rowV 69 (eI .u64) t58_2.Words)], ⟨[], false⟩, [[(4, .ptr 4 0), (7, .ptr 7 0), (8, .ptr 8 0), (11, .ptr 11 0), (33, .p (.fn 119 [.rop ([i6 (t42_2.N), sW t42_2.Words])]))]]⟩) (by kernel_rfl) rfl (fun s hb => hnext43 (t58_2.N, t58_2.Words) s h hb)
        · refine WC.condF c57 (by kernel_rfl) ?_
          refine WX.skip ?_
          refine WX.popBlk ?_
          refine WC.keep [] [4, 7, 8, 11, 31] (st' := ⟨[], [(4, .box 28 [.p (sC a0.Classes), .p (i6 (a0.First.N)), .p (sW a0.First.Words), .p (i6 (a0.Last.N)), .p (sW a0.Last.Words), .p (sB a0.Follow), .p (bo (a0.Null))]), (7, .box 5 [.p (.s (.int .u8 a3))]), (8, .box 25 [.p (i6 (0)), .p (.sl .nil 0 [])]), (11, .box 25 [.p (i6 (x43_1_1)), .own 31]), (31, rowV 69 (eI .u64) x43_1_2)], ⟨[], false⟩, [[(4, .ptr 4 0), (7, .ptr 7 0), (8, .ptr 8 0), (11, .ptr 11 0), (33, .p (.fn 119 [.rop ([i6 (t42_2.N), sW t42_2.Words])]))]]⟩) (by kernel_rfl) ?_
          exact WC.nextR [] [4, 7, 8, 11, 31] (s := ⟨[], [(4, .box 28 [.p (sC a0.Classes), .p (i6 (a0.First.N)), .p (sW a0.First.Words), .p (i6 (a0.Last.N)), .p (sW a0.Last.Words), .p (sB a0.Follow), .p (bo (a0.Null))]), (7, .box 5 [.p (.s (.int .u8 a3))]), (8, .box 25 [.p (i6 (0)), .p (.sl .nil 0 [])]), (11, .box 25 [.p (i6 (x43_1_1)), .own 31]), (31, rowV 69 (eI .u64) x43_1_2)], ⟨[], false⟩, [[(4, .ptr 4 0), (7, .ptr 7 0), (8, .ptr 8 0), (11, .ptr 11 0), (33, .p (.fn 119 [.rop ([i6 (t42_2.N), sW t42_2.Words])]))]]⟩) (by kernel_rfl) rfl (fun s hb => hnext43 (x43_1_1, x43_1_2) s h hb)
    · clear h; intro X hn x8; rintro ⟨x8_1_1, x8_1_2⟩
      refine WC.reg (n := 46) hn [] [4, 7, 8, 9, 10, 21, 22] [4, 7, 8, 9] ⟨[(4, .ptr 4 0), (7, .ptr 7 0), (8, .ptr 8 0), (9, .ptr 9 0), (10, .p (i6 (x8))), (21, .p (.fn 119 [.rop ([i6 (t7_2.N), sW t7_2.Words])])), (22, .p (i6 (x8)))], [(4, .box 28 [.p (sC a0.Classes), .p (i6 (a0.First.N)), .p (sW a0.First.Words), .p (i6 (a0.Last.N)), .p (sW a0.Last.Words), .p (sB a0.Follow), .p (bo (a0.Null))]), (7, .box 5 [.p (.s (.int .u8 a3))]), (8, .box 25 [.p (i6 (0)), .p (.sl .nil 0 [])]), (9, .box 25 [.p (i6 (x8_1_1)), .p (sW x8_1_2)])], ⟨[], false⟩, [[(4, .ptr 4 0), (7, .ptr 7 0), (8, .ptr 8 0), (9, .ptr 9 0), (21, .p (.fn 119 [.rop ([i6 (t7_2.N), sW t7_2.Words])]))]]⟩ trivial (by kernel_rfl) ?_
      exact WC.exit_nil ⟨rfl, rfl⟩
    · clear h; intro X hn x8 xs8; rintro ⟨x8_1_1, x8_1_2⟩ h K8 hnext8 hexit8
      rw [nfa_step_l0] at h
      refine WX.block ?_
      obtain ⟨t60_2, h60_1, h⟩ := bind_some h
      obtain ⟨t60_4, h60_3, h⟩ := bind_some h
      refine WC.drw (n := 46) hn [(7, [])] [] [(4, .val (.p (.rop (e_api_Bits.cells t60_2 ++ encL e_api_Bits (a0.Follow.drop (x8.toNat + 1)))))), (6, .resP (.agg [i6 (t60_4.N), sW t60_4.Words]))] [] [4, 7, 8, 9] ⟨[], [(4, .box 28 [.p (sC a0.Classes), .p (i6 (a0.First.N)), .p (sW a0.First.Words), .p (i6 (a0.Last.N)), .p (sW a0.Last.Words), .p (sB a0.Follow), .p (bo (a0.Null))]), (7, .box 5 [.p (.s (.int .u8 a3))]), (8, .box 25 [.p (i6 (0)), .p (.sl .nil 0 [])]), (9, .box 25 [.p (i6 (t60_4.N)), .p (sW t60_4.Words)])], ⟨[], false⟩, [[(4, .ptr 4 0), (7, .ptr 7 0), (8, .ptr 8 0), (9, .ptr 9 0), (21, .p (.fn 119 [.rop ([i6 (t7_2.N), sW t7_2.Words])]))]]⟩ (And.intro (Ix e_api_Bits h60_1) (And.intro ((bits_Or_okP h60_3)) (trivial))) (by kernel_rfl) (by kernel_rfl) (by kernel_rfl) (by kernel_rfl) ?_
      refine WX.popBlk ?_
      refine WC.keep [] [4, 7, 8, 9] (st' := ⟨[], [(4, .box 28 [.p (sC a0.Classes), .p (i6 (a0.First.N)), .p (sW a0.First.Words), .p (i6 (a0.Last.N)), .p (sW a0.Last.Words), .p (sB a0.Follow), .p (bo (a0.Null))]), (7, .box 5 [.p (.s (.int .u8 a3))]), (8, .box 25 [.p (i6 (0)), .p (.sl .nil 0 [])]), (9, .box 25 [.p (i6 (t60_4.N)), .p (sW t60_4.Words)])], ⟨[], false⟩, [[(4, .ptr 4 0), (7, .ptr 7 0), (8, .ptr 8 0), (9, .ptr 9 0), (21, .p (.fn 119 [.rop ([i6 (t7_2.N), sW t7_2.Words])]))]]⟩) (by kernel_rfl) ?_
      exact WC.nextR [] [4, 7, 8, 9] (s := ⟨[], [(4, .box 28 [.p (sC a0.Classes), .p (i6 (a0.First.N)), .p (sW a0.First.Words), .p (i6 (a0.Last.N)), .p (sW a0.Last.Words), .p (sB a0.Follow), .p (bo (a0.Null))]), (7, .box 5 [.p (.s (.int .u8 a3))]), (8, .box 25 [.p (i6 (0)), .p (.sl .nil 0 [])]), (9, .box 25 [.p (i6 (t60_4.N)), .p (sW t60_4.Words)])], ⟨[], false⟩, [[(4, .ptr 4 0), (7, .ptr 7 0), (8, .ptr 8 0), (9, .ptr 9 0), (21, .p (.fn 119 [.rop ([i6 (t7_2.N), sW t7_2.Words])]))]]⟩) (by kernel_rfl) rfl (fun s hb => hnext8 (t60_4.N, t60_4.Words) s h hb)
  · replace hJ4 := fun y4_1 y4_2 => hJ4 (y4_1, y4_2)
    rcases if_or h with ⟨c61, h⟩ | ⟨c61, h⟩
    · refine WC.condT c61 (by kernel_rfl) ?_
      obtain ⟨t62_2, h62_1, h⟩ := bind_some h
      refine WC.reg (n := 46) hn [(3, .co [] [] [14] [(19, rowV 69 (eI .u64) t62_2.Words)] (.agg [.p (i6 (t62_2.N)), .own 19]))] [4, 5, 7, 8, 9] [4, 5, 7, 8, 9, 19] ⟨[(4, .ptr 4 0), (5, .ptr 5 0), (7, .ptr 7 0), (8, .ptr 8 0), (9, .ptr 9 0)], [(4, .box 28 [.p (sC a0.Classes), .p (i6 (a0.First.N)), .p (sW a0.First.Words), .p (i6 (a0.Last.N)), .p (sW a0.Last.Words), .p (sB a0.Follow), .p (bo (a0.Null))]), (5, .box 25 [.p (i6 (a1.N)), .p (sW a1.Words)]), (7, .box 5 [.p (.s (.int .u8 a3))]), (8, .box 25 [.p (i6 (0)), .p (.sl .nil 0 [])]), (9, .box 25 [.p (i6 (t62_2.N)), .own 19]), (19, rowV 69 (eI .u64) t62_2.Words)], ⟨[], false⟩, []⟩ (And.intro (And.intro ((bits_Or_ok h62_1).ren 7 19 (by kernel_rfl)) (And.intro (rfl : (.agg [.p (i6 (t62_2.N)), .own 19] : AV).flat = true) (And.intro (flats_encL (eI .u64) (fun _ => rfl) t62_2.Words) (trivial)))) (trivial)) (by kernel_rfl) ?_
      exact WC.keep [4, 5, 7, 8, 9] [4, 5, 7, 8, 9, 19] (by kernel_rfl) (hJ4 t62_2.N t62_2.Words h)
    · refine WC.condF c61 (by kernel_rfl) ?_
      refine WX.skip ?_
      refine WC.keep [4, 5, 7, 8, 9] [4, 5, 7, 8, 9, 14] (st' := ⟨[(4, .ptr 4 0), (5, .ptr 5 0), (7, .ptr 7 0), (8, .ptr 8 0), (9, .ptr 9 0)], [(4, .box 28 [.p (sC a0.Classes), .p (i6 (a0.First.N)), .p (sW a0.First.Words), .p (i6 (a0.Last.N)), .p (sW a0.Last.Words), .p (sB a0.Follow), .p (bo (a0.Null))]), (5, .box 25 [.p (i6 (a1.N)), .p (sW a1.Words)]), (7, .box 5 [.p (.s (.int .u8 a3))]), (8, .box 25 [.p (i6 (0)), .p (.sl .nil 0 [])]), (9, .box 25 [.p (i6 (t2_2.N)), .own 14]), (14, rowV 69 (eI .u64) t2_2.Words)], ⟨[], false⟩, []⟩) (by kernel_rfl) ?_
      refine WC.ren (n := 46) hn 14 19 (by kernel_rfl) [4, 5, 7, 8, 9] [4, 5, 7, 8, 9, 19] (st' := ⟨[(4, .ptr 4 0), (5, .ptr 5 0), (7, .ptr 7 0), (8, .ptr 8 0), (9, .ptr 9 0)], [(4, .box 28 [.p (sC a0.Classes), .p (i6 (a0.First.N)), .p (sW a0.First.Words), .p (i6 (a0.Last.N)), .p (sW a0.Last.Words), .p (sB a0.Follow), .p (bo (a0.Null))]), (5, .box 25 [.p (i6 (a1.N)), .p (sW a1.Words)]), (7, .box 5 [.p (.s (.int .u8 a3))]), (8, .box 25 [.p (i6 (0)), .p (.sl .nil 0 [])]), (9, .box 25 [.p (i6 (t2_2.N)), .own 19]), (19, rowV 69 (eI .u64) t2_2.Words)], ⟨[], false⟩, []⟩) (by kernel_rfl) ?_
      exact WC.keep [4, 5, 7, 8, 9] [4, 5, 7, 8, 9, 19] (by kernel_rfl) (hJ4 t2_2.N t2_2.Words h)
theorem nfa_step_okP {k : Nat} {a0 : api_Nfa} {a1 : api_Bits} {a2 : Bool} {a3 : Int} {r : api_Bits} (h : nfa_step k a0 a1 a2 a3 = some r) : Ans Tryd.prog 53 [.agg [sC a0.Classes, i6 (a0.First.N), sW a0.First.Words, i6 (a0.Last.N), sW a0.Last.Words, sB a0.Follow, bo (a0.Null)], .agg [i6 (a1.N), sW a1.Words], bo (a2), .s (.int .u8 a3)] (.agg [i6 (r.N), sW r.Words]) := AnsO.ans (args := [.agg [sC a0.Classes, i6 (a0.First.N), sW a0.First.Words, i6 (a0.Last.N), sW a0.Last.Words, sB a0.Follow, bo (a0.Null)], .agg [i6 (a1.N), sW a1.Words], bo (a2), .s (.int .u8 a3)]) (nfa_step_ok h) (by kernel_rfl)
def bits_And_1 (a0 : Int) (a1 : Int) : Option (Int) :=
  some ((bits .and .u64 a0 a1))
theorem bits_And_1_ok {a0 : Int} {a1 : Int} {r : Int} (h : bits_And_1 a0 a1 = some r) : Ans Tryd.prog 120 [.s (.int .u64 a0), .s (.int .u64 a1)] (.s (.int .u64 r)) := by
  refine W_fn Tryd.func120 rfl (by kernel_rfl) (by kernel_rfl) ?_
  intro X hro hn
  unfold bits_And_1 at h
  refine WX.seq ?_
  refine WC.reg (n := 8) hn [] [0, 1] [] ⟨[(0, .p (.s (.int .u64 a0))), (1, .p (.s (.int .u64 a1)))], [], ⟨[], false⟩, []⟩ trivial (by kernel_rfl) ?_
  refine WX.seq ?_
  refine WC.reg (n := 8) hn [] [4] [] ⟨[(4, .p (.s (.int .u64 ((bits .and .u64 a0 a1)))))], [], ⟨[], false⟩, []⟩ trivial (by kernel_rfl) ?_
  refine WX.ret ?_
  exact WC.outP (by rw [← Option.some.inj h]; kernel_rfl)
def bits_join_v2_l0 (t2_2 : api_Bits) (t3_4 : api_Bits) (J5 : List Int → Option (api_Bits)) : Nat → (Int × List Int) → Option (api_Bits)
  | 0, _ => none
  | k + 1, (x18_1_1, x18_1_2) => (if (decide (x18_1_1 < (t2_2.Words.length : Int))) = true then (at_ x18_1_2 x18_1_1).bind fun t32_2 => (at_ t3_4.Words x18_1_1).bind fun t32_4 => (bits_And_1 t32_2 t32_4).bind fun t32_6 => bits_join_v2_l0 t2_2 t3_4 J5 k ((IntKind.i64.wrap (x18_1_1 + 1)), x18_1_2.set x18_1_1.toNat t32_6) else J5 x18_1_2)
def bits_join_v2 (k : Nat) (a0 : api_Bits) (a1 : api_Bits) (a2 : (Unit)) : Option (api_Bits) :=
  (bits_own a0).bind fun t2_2 => (bits_own a1).bind fun t3_2 => (bits_fit t3_2 t2_2.N).bind fun t3_4 => jn (fun (v5 : List Int) => some ((api_Bits.mk t2_2.N v5))) fun J5 => bits_join_v2_l0 t2_2 t3_4 J5 k (0, t2_2.Words)
theorem bits_join_v2_ok {k : Nat} {a0 : api_Bits} {a1 : api_Bits} {a2 : (Unit)} {r : api_Bits} (h : bits_join_v2 k a0 a1 a2 = some r) : AnsO Tryd.prog 116 [] [.p (.agg [i6 (a0.N), sW a0.Words]), .p (.agg [i6 (a1.N), sW a1.Words]), .p (.fn 120 [])] [(10, rowV 69 (eI .u64) r.Words)] (.agg [.p (i6 (r.N)), .own 10]) := by
  refine W_fnO [10] Tryd.func116 rfl (by kernel_rfl) (by kernel_rfl) (by kernel_rfl) (by kernel_rfl) ?_
  intro X hro hn
  unfold bits_join_v2 at h
  refine WX.seq ?_
  refine WC.reg (n := 40) hn [] [2, 3, 4, 6] [3, 4, 6] ⟨[(2, .p (.fn 120 [])), (3, .ptr 3 0), (4, .ptr 4 0), (6, .ptr 6 0)], [(3, .box 25 [.p (i6 (a0.N)), .p (sW a0.Words)]), (4, .box 25 [.p (i6 (a1.N)), .p (sW a1.Words)]), (6, .box 25 [.p (i6 (0)), .p (.sl .nil 0 [])])], ⟨[], false⟩, []⟩ trivial (by kernel_rfl) ?_
  refine WX.seq ?_
  obtain ⟨t2_2, h2_1, h⟩ := bind_some h
  refine WC.reg (n := 40) hn [(1, .co [] [] [] [(10, rowV 69 (eI .u64) t2_2.Words)] (.agg [.p (i6 (t2_2.N)), .own 10]))] [2, 3, 4, 6] [3, 4, 6, 10] ⟨[(2, .p (.fn 120 [])), (3, .ptr 3 0), (4, .ptr 4 0), (6, .ptr 6 0)], [(3, .box 25 [.p (i6 (t2_2.N)), .own 10]), (4, .box 25 [.p (i6 (a1.N)), .p (sW a1.Words)]), (6, .box 25 [.p (i6 (0)), .p (.sl .nil 0 [])]), (10, rowV 69 (eI .u64) t2_2.Words)], ⟨[], false⟩, []⟩ (And.intro (And.intro ((bits_own_ok h2_1).ren 9 10 (by kernel_rfl)) (trivial)) (trivial)) (by kernel_rfl) ?_
  refine WX.seq ?_
  obtain ⟨t3_2, h3_1, h⟩ := bind_some h
  obtain ⟨t3_4, h3_3, h⟩ := bind_some h
  refine WC.drw (n := 40) hn [(6, [])] [7] [(1, .resP (.agg [i6 (t3_2.N), sW t3_2.Words])), (4, .resP (.agg [i6 (t3_4.N), sW t3_4.Words]))] [2, 3, 6, 7] [3, 6, 7, 10] ⟨[(2, .p (.fn 120 [])), (3, .ptr 3 0), (6, .ptr 6 0), (7, .ptr 7 0)], [(3, .box 25 [.p (i6 (t2_2.N)), .own 10]), (6, .box 25 [.p (i6 (0)), .p (.sl .nil 0 [])]), (7, .box 25 [.p (i6 (t3_4.N)), .p (sW t3_4.Words)]), (10, rowV 69 (eI .u64) t2_2.Words)], ⟨[], false⟩, []⟩ (And.intro ((bits_own_okP h3_1)) (And.intro ((bits_fit_okP h3_3)) (trivial))) (by kernel_rfl) (by kernel_rfl) (by kernel_rfl) (by kernel_rfl) ?_
  refine WX.seq ?_
  refine WX.seq ?_
  refine WC.reg (n := 40) hn [] [2, 3, 6, 7, 18, 19] [3, 6, 7, 10] ⟨[(2, .p (.fn 120 [])), (3, .ptr 3 0), (6, .ptr 6 0), (7, .ptr 7 0), (18, .p (i6 (((t2_2.Words.length : Int))))), (19, .p (i6 (0)))], [(3, .box 25 [.p (i6 (t2_2.N)), .own 10]), (6, .box 25 [.p (i6 (0)), .p (.sl .nil 0 [])]), (7, .box 25 [.p (i6 (t3_4.N)), .p (sW t3_4.Words)]), (10, rowV 69 (eI .u64) t2_2.Words)], ⟨[], false⟩, []⟩ trivial (by kernel_rfl) ?_
  obtain ⟨J5, eJ5, h⟩ := jn_some h
  try dsimp only at h
  refine WC.join (α := List Int) (fun v5 => ⟨[(3, .ptr 3 0), (6, .ptr 6 0)], [(3, .box 25 [.p (i6 (t2_2.N)), .own 10]), (6, .box 25 [.p (i6 (0)), .p (.sl .nil 0 [])]), (10, rowV 69 (eI .u64) v5)], ⟨[], false⟩, []⟩) (fun v5 => J5 v5 = some r) ?_ (fun hJ5 => ?_)
  · rintro y5_1 h
    rw [eJ5] at h
    try dsimp only at h
    refine WX.seq ?_
    refine WC.reg (n := 40) hn [] [6] [6, 10] ⟨[(6, .ptr 6 0)], [(6, .box 25 [.p (i6 (t2_2.N)), .own 10]), (10, rowV 69 (eI .u64) y5_1)], ⟨[], false⟩, []⟩ trivial (by kernel_rfl) ?_
    refine WX.ret ?_
    exact WC.outO (by rw [← Option.some.inj h]; kernel_rfl)
  · replace hJ5 := fun y5_1 => hJ5 y5_1
    refine WX.block ?_
    refine WC.loop (V := Int × List Int) (bits_join_v2_l0 t2_2 t3_4 J5) r (fun v18 => ⟨[(2, .p (.fn 120 [])), (3, .ptr 3 0), (6, .ptr 6 0), (7, .ptr 7 0), (18, .p (i6 (((t2_2.Words.length : Int))))), (19, .p (i6 (v18.1)))], [(3, .box 25 [.p (i6 (t2_2.N)), .own 10]), (6, .box 25 [.p (i6 (0)), .p (.sl .nil 0 [])]), (7, .box 25 [.p (i6 (t3_4.N)), .p (sW t3_4.Words)]), (10, rowV 69 (eI .u64) v18.2)], ⟨[], false⟩, []⟩) _ (0, t2_2.Words) h (fun _ => rfl) [2, 3, 6, 7, 18, 19] [3, 6, 7, 10] (by kernel_rfl) ?_
    clear h; rintro k ⟨x18_1_1, x18_1_2⟩ h K18 hnext18 hexit18
    rw [bits_join_v2_l0] at h
    refine WX.seq ?_
    refine WC.reg (n := 40) hn [] [2, 3, 6, 7, 18, 19, 20] [3, 6, 7, 10] ⟨[(2, .p (.fn 120 [])), (3, .ptr 3 0), (6, .ptr 6 0), (7, .ptr 7 0), (18, .p (i6 (((t2_2.Words.length : Int))))), (19, .p (i6 (x18_1_1))), (20, .p (bo (((decide (x18_1_1 < (t2_2.Words.length : Int)))))))], [(3, .box 25 [.p (i6 (t2_2.N)), .own 10]), (6, .box 25 [.p (i6 (0)), .p (.sl .nil 0 [])]), (7, .box 25 [.p (i6 (t3_4.N)), .p (sW t3_4.Words)]), (10, rowV 69 (eI .u64) x18_1_2)], ⟨[], false⟩, []⟩ trivial (by kernel_rfl) ?_
    refine WX.seq ?_
    rcases if_or h with ⟨c30, h⟩ | ⟨c30, h⟩
    · refine WC.condT c30 (by kernel_rfl) ?_
      refine WX.skip ?_
      refine WX.seq ?_
      refine WX.block ?_
      refine WX.seq ?_
      refine WC.reg (n := 40) hn [] [2, 3, 6, 7, 8, 18, 19] [3, 6, 7, 10] ⟨[(2, .p (.fn 120 [])), (3, .ptr 3 0), (6, .ptr 6 0), (7, .ptr 7 0), (8, .p (i6 (x18_1_1))), (18, .p (i6 (((t2_2.Words.length : Int))))), (19, .p (i6 (x18_1_1)))], [(3, .box 25 [.p (i6 (t2_2.N)), .own 10]), (6, .box 25 [.p (i6 (0)), .p (.sl .nil 0 [])]), (7, .box 25 [.p (i6 (t3_4.N)), .p (sW t3_4.Words)]), (10, rowV 69 (eI .u64) x18_1_2)], ⟨[], false⟩, []⟩ trivial (by kernel_rfl) ?_
      obtain ⟨t32_2, h32_1, h⟩ := bind_some h
      obtain ⟨t32_4, h32_3, h⟩ := bind_some h
      obtain ⟨t32_6, h32_5, h⟩ := bind_some h
      refine WC.drw (n := 40) hn [(16, [])] [] [(7, .val (.ptr 10 (x18_1_1.toNat * 1))), (8, .val (.p (.s (.int .u64 t32_2)))), (12, .val (.p (.rop ((eI .u64).cells t32_4 ++ encL (eI .u64) (t3_4.Words.drop (x18_1_1.toNat + 1)))))), (14, .resP (.s (.int .u64 t32_6))), (15, .val (.ptr 10 (x18_1_1.toNat * 1))), (16, .sto 10 (rowV 69 (eI .u64) (x18_1_2.set x18_1_1.toNat t32_6)))] [2, 3, 6, 7, 18, 19] [3, 6, 7, 10] ⟨[(2, .p (.fn 120 [])), (3, .ptr 3 0), (6, .ptr 6 0), (7, .ptr 7 0), (18, .p (i6 (((t2_2.Words.length : Int))))), (19, .p (i6 (x18_1_1)))], [(3, .box 25 [.p (i6 (t2_2.N)), .own 10]), (6, .box 25 [.p (i6 (0)), .p (.sl .nil 0 [])]), (7, .box 25 [.p (i6 (t3_4.N)), .p (sW t3_4.Words)]), (10, rowV 69 (eI .u64) (x18_1_2.set x18_1_1.toNat t32_6))], ⟨[], false⟩, []⟩ (And.intro (IxO 10 1 h32_1) (And.intro (LdO0 Tryd.prog (eI .u64) 69 h32_1) (And.intro (Ix (eI .u64) h32_3) (And.intro ((bits_And_1_ok h32_5)) (And.intro (IxO 10 1 h32_1) (And.intro (StO0 (eI .u64) 10 69 1 1 [.s (.int .u64 t32_6)] t32_6 h32_1 rfl rfl (by decide)) (trivial))))))) (by kernel_rfl) (by kernel_rfl) (by kernel_rfl) (by kernel_rfl) ?_
      refine WX.popBlk ?_
      refine WC.reg (n := 40) hn [] [2, 3, 6, 7, 18, 19] [3, 6, 7, 10] ⟨[(2, .p (.fn 120 [])), (3, .ptr 3 0), (6, .ptr 6 0), (7, .ptr 7 0), (18, .p (i6 (((t2_2.Words.length : Int))))), (19, .p (i6 (((IntKind.i64.wrap (x18_1_1 + 1))))))], [(3, .box 25 [.p (i6 (t2_2.N)), .own 10]), (6, .box 25 [.p (i6 (0)), .p (.sl .nil 0 [])]), (7, .box 25 [.p (i6 (t3_4.N)), .p (sW t3_4.Words)]), (10, rowV 69 (eI .u64) (x18_1_2.set x18_1_1.toNat t32_6))], ⟨[], false⟩, []⟩ trivial (by kernel_rfl) ?_
      exact WC.next [2, 3, 6, 7, 18, 19] [3, 6, 7, 10] (by kernel_rfl) (hnext18 ((IntKind.i64.wrap (x18_1_1 + 1)), x18_1_2.set x18_1_1.toNat t32_6) h)
    · refine WC.condF c30 (by kernel_rfl) ?_
      refine WX.exit ?_
      refine WX.popCodeExit ?_
      refine WC.exit_nil (hexit18 _ _ (by simp) ?_)
      refine WX.popBlkHit ?_
      exact WC.keep [3, 6] [3, 6, 10] (by kernel_rfl) (hJ5 x18_1_2 h)
theorem bits_join_v2_okP {k : Nat} {a0 : api_Bits} {a1 : api_Bits} {a2 : (Unit)} {r : api_Bits} (h : bits_join_v2 k a0 a1 a2 = some r) : Ans Tryd.prog 116 [.agg [i6 (a0.N), sW a0.Words], .agg [i6 (a1.N), sW a1.Words], .fn 120 []] (.agg [i6 (r.N), sW r.Words]) := AnsO.ans (args := [.agg [i6 (a0.N), sW a0.Words], .agg [i6 (a1.N), sW a1.Words], .fn 120 []]) (bits_join_v2_ok h) (by kernel_rfl)
def bits_And (k : Nat) (a0 : api_Bits) (a1 : api_Bits) : Option (api_Bits) :=
  (bits_join_v2 k a0 a1 (())).bind fun t2_2 => some t2_2
theorem bits_And_ok {k : Nat} {a0 : api_Bits} {a1 : api_Bits} {r : api_Bits} (h : bits_And k a0 a1 = some r) : AnsO Tryd.prog 97 [] [.p (.agg [i6 (a0.N), sW a0.Words]), .p (.agg [i6 (a1.N), sW a1.Words])] [(7, rowV 69 (eI .u64) r.Words)] (.agg [.p (i6 (r.N)), .own 7]) := by
  refine W_fnO [7] Tryd.func97 rfl (by kernel_rfl) (by kernel_rfl) (by kernel_rfl) (by kernel_rfl) ?_
  intro X hro hn
  unfold bits_And at h
  refine WX.seq ?_
  refine WC.reg (n := 8) hn [] [2, 3, 4] [2, 3, 4] ⟨[(2, .ptr 2 0), (3, .ptr 3 0), (4, .ptr 4 0)], [(2, .box 25 [.p (i6 (a0.N)), .p (sW a0.Words)]), (3, .box 25 [.p (i6 (a1.N)), .p (sW a1.Words)]), (4, .box 25 [.p (i6 (0)), .p (.sl .nil 0 [])])], ⟨[], false⟩, []⟩ trivial (by kernel_rfl) ?_
  refine WX.seq ?_
  obtain ⟨t2_2, h2_1, h⟩ := bind_some h
  refine WC.reg (n := 8) hn [(2, .co [] [] [] [(7, rowV 69 (eI .u64) t2_2.Words)] (.agg [.p (i6 (t2_2.N)), .own 7]))] [4] [4, 7] ⟨[(4, .ptr 4 0)], [(4, .box 25 [.p (i6 (t2_2.N)), .own 7]), (7, rowV 69 (eI .u64) t2_2.Words)], ⟨[], false⟩, []⟩ (And.intro (And.intro ((bits_join_v2_ok h2_1).ren 10 7 (by kernel_rfl)) (trivial)) (trivial)) (by kernel_rfl) ?_
  refine WX.ret ?_
  exact WC.outO (by rw [← Option.some.inj h]; kernel_rfl)
theorem bits_And_okP {k : Nat} {a0 : api_Bits} {a1 : api_Bits} {r : api_Bits} (h : bits_And k a0 a1 = some r) : Ans Tryd.prog 97 [.agg [i6 (a0.N), sW a0.Words], .agg [i6 (a1.N), sW a1.Words]] (.agg [i6 (r.N), sW r.Words]) := AnsO.ans (args := [.agg [i6 (a0.N), sW a0.Words], .agg [i6 (a1.N), sW a1.Words]]) (bits_And_ok h) (by kernel_rfl)
def bits_Meet (k : Nat) (a0 : api_Bits) (a1 : api_Bits) : Option (Bool) :=
  (bits_And k a0 a1).bind fun t2_2 => (bits_First k t2_2 0).bind fun t2_4 => some t2_4.2
theorem bits_Meet_ok {k : Nat} {a0 : api_Bits} {a1 : api_Bits} {r : Bool} (h : bits_Meet k a0 a1 = some r) : Ans Tryd.prog 62 [.agg [i6 (a0.N), sW a0.Words], .agg [i6 (a1.N), sW a1.Words]] (bo (r)) := by
  refine W_fn Tryd.func62 rfl (by kernel_rfl) (by kernel_rfl) ?_
  intro X hro hn
  unfold bits_Meet at h
  refine WX.seq ?_
  refine WC.reg (n := 15) hn [] [2, 3] [2, 3] ⟨[(2, .ptr 2 0), (3, .ptr 3 0)], [(2, .box 25 [.p (i6 (a0.N)), .p (sW a0.Words)]), (3, .box 25 [.p (i6 (a1.N)), .p (sW a1.Words)])], ⟨[], false⟩, []⟩ trivial (by kernel_rfl) ?_
  refine WX.seq ?_
  obtain ⟨t2_2, h2_1, h⟩ := bind_some h
  obtain ⟨t2_4, h2_3, h⟩ := bind_some h
  refine WC.reg (n := 15) hn [(2, .co [] [] [] [(10, rowV 69 (eI .u64) t2_2.Words)] (.agg [.p (i6 (t2_2.N)), .own 10])), (3, .res (.tup [i6 (t2_4.1), bo (t2_4.2)]))] [6] [] ⟨[(6, .p (bo (t2_4.2)))], [], ⟨[], false⟩, []⟩ (And.intro (And.intro ((bits_And_ok h2_1).ren 7 10 (by kernel_rfl)) (trivial)) (And.intro (And.intro (bits_First_ok h2_3) (rfl : (.tup [i6 (t2_4.1), bo (t2_4.2)] : PV).flat = true)) (trivial))) (by kernel_rfl) ?_
  refine WX.seq ?_
  refine WC.reg (n := 15) hn [] [4] [] ⟨[(4, .p (bo (t2_4.2)))], [], ⟨[], false⟩, []⟩ trivial (by kernel_rfl) ?_
  refine WX.ret ?_
  exact WC.outP (by rw [← Option.some.inj h]; kernel_rfl)
def nfa_Ends (k : Nat) (a0 : api_Nfa) (a1 : (List Int)) (a2 : Int) : Option ((Int × (List Int) × api_Nfa)) :=
  (nfa_may k a0).bind fun t2_2 => some ((a2, a1, t2_2))
theorem nfa_Ends_ok {k : Nat} {a0 : api_Nfa} {a1 : (List Int)} {a2 : Int} {r : (Int × (List Int) × api_Nfa)} (h : nfa_Ends k a0 a1 a2 = some r) : Ans Tryd.prog 35 [.agg [sC a0.Classes, i6 (a0.First.N), sW a0.First.Words, i6 (a0.Last.N), sW a0.Last.Words, sB a0.Follow, bo (a0.Null)], slV (eI .u8) a1, i6 (a2)] (.fn 72 [.rop ([i6 (r.1)]), .rop ([slV (eI .u8) r.2.1]), .rop ([sC r.2.2.Classes, i6 (r.2.2.First.N), sW r.2.2.First.Words, i6 (r.2.2.Last.N), sW r.2.2.Last.Words, sB r.2.2.Follow, bo (r.2.2.Null)])]) := by
  refine W_fn Tryd.func35 rfl (by kernel_rfl) (by kernel_rfl) ?_
  intro X hro hn
  unfold nfa_Ends at h
  refine WX.seq ?_
  refine WC.reg (n := 10) hn [] [3, 4, 5] [3, 4, 5] ⟨[(3, .ptr 3 0), (4, .ptr 4 0), (5, .ptr 5 0)], [(3, .box 28 [.p (sC a0.Classes), .p (i6 (a0.First.N)), .p (sW a0.First.Words), .p (i6 (a0.Last.N)), .p (sW a0.Last.Words), .p (sB a0.Follow), .p (bo (a0.Null))]), (4, .box 29 [.p (slV (eI .u8) a1)]), (5, .box 3 [.p (i6 (a2))])], ⟨[], false⟩, []⟩ trivial (by kernel_rfl) ?_
  refine WX.seq ?_
  obtain ⟨t2_2, h2_1, h⟩ := bind_some h
  refine WC.reg (n := 10) hn [(1, .resP (.agg [sC t2_2.Classes, i6 (t2_2.First.N), sW t2_2.First.Words, i6 (t2_2.Last.N), sW t2_2.Last.Words, sB t2_2.Follow, bo (t2_2.Null)]))] [3, 4, 5] [3, 4, 5] ⟨[(3, .ptr 3 0), (4, .ptr 4 0), (5, .ptr 5 0)], [(3, .box 28 [.p (sC t2_2.Classes), .p (i6 (t2_2.First.N)), .p (sW t2_2.First.Words), .p (i6 (t2_2.Last.N)), .p (sW t2_2.Last.Words), .p (sB t2_2.Follow), .p (bo (t2_2.Null))]), (4, .box 29 [.p (slV (eI .u8) a1)]), (5, .box 3 [.p (i6 (a2))])], ⟨[], false⟩, []⟩ (And.intro ((nfa_may_ok h2_1)) (trivial)) (by kernel_rfl) ?_
  refine WX.seq ?_
  refine WC.reg (n := 10) hn [] [6] [3, 4, 5] ⟨[(6, .fn 72 [.ptr 5 0, .ptr 4 0, .ptr 3 0])], [(3, .box 28 [.p (sC t2_2.Classes), .p (i6 (t2_2.First.N)), .p (sW t2_2.First.Words), .p (i6 (t2_2.Last.N)), .p (sW t2_2.Last.Words), .p (sB t2_2.Follow), .p (bo (t2_2.Null))]), (4, .box 29 [.p (slV (eI .u8) a1)]), (5, .box 3 [.p (i6 (a2))])], ⟨[], false⟩, []⟩ trivial (by kernel_rfl) ?_
  refine WX.ret ?_
  exact WC.outP (by rw [← Option.some.inj h]; kernel_rfl)
def nfa_Ends_1_v1_l0 (a1 : Int) (a2 : (List Int)) (a3 : api_Nfa) : Nat → (Int × Int × List Int) → Option (List Int)
  | 0, _ => none
  | k + 1, (x1_1_1, x1_1_2, x1_1_3) => (if (x1_1_1 == (a2.length : Int)) = true then some [] else (at_ a2 x1_1_1).bind fun t27_2 => (nfa_step k a3 ((api_Bits.mk x1_1_2 x1_1_3)) ((x1_1_1 == a1)) t27_2).bind fun t27_4 => (bits_Meet k t27_4 a3.Last).bind fun t29_2 => (if t29_2 = true then (nfa_Ends_1_v1_l0 a1 a2 a3 k ((IntKind.i64.wrap (x1_1_1 + 1)), t27_4.N, t27_4.Words)).map ((IntKind.i64.wrap (x1_1_1 + 1)) :: ·) else nfa_Ends_1_v1_l0 a1 a2 a3 k ((IntKind.i64.wrap (x1_1_1 + 1)), t27_4.N, t27_4.Words)))
def nfa_Ends_1_v1 (k : Nat) (a1 : Int) (a2 : (List Int)) (a3 : api_Nfa) : Option (List Int) :=
  (if (decide (a1 < 0)) = true then some [] else (if (decide (a1 > (a2.length : Int))) = true then some [] else (if a3.Null = true then ((nfa_None k a3).bind fun t31_2 => nfa_Ends_1_v1_l0 a1 a2 a3 k (a1, t31_2.N, t31_2.Words)).map (a1 :: ·) else (nfa_None k a3).bind fun t32_2 => nfa_Ends_1_v1_l0 a1 a2 a3 k (a1, t32_2.N, t32_2.Words))))
theorem nfa_Ends_1_v1_it {k : Nat} {a1 : Int} {a2 : (List Int)} {a3 : api_Nfa} {r : List Int} (h : nfa_Ends_1_v1 k a1 a2 a3 = some r) : Iter Tryd.prog 72 [.rop ([i6 (a1)]), .rop ([slV (eI .u8) a2]), .rop ([sC a3.Classes, i6 (a3.First.N), sW a3.First.Words, i6 (a3.Last.N), sW a3.Last.Words, sB a3.Follow, bo (a3.Null)])] (r.map (fun x : Int => ([.int .i64 x] : List Value))) := by
  refine W_it Tryd.func72 rfl (by kernel_rfl) (Nat.le_of_ble_eq_true (by kernel_rfl)) ?_
  intro X hro hn hY
  obtain ⟨L, hLe⟩ : ∃ L, L = r.map (fun x : Int => ([.int .i64 x] : List Value)) := ⟨_, rfl⟩
  rw [← hLe] at hY ⊢
  have hL : ([] : List (List Value)) ++ r.map (fun x : Int => ([.int .i64 x] : List Value)) = L := by rw [hLe]; rfl
  clear hLe
  unfold nfa_Ends_1_v1 at h
  refine WC.jumps (V := Int × Int × List Int × List (List Value)) (l := 0) rfl (fun k v1 => (nfa_Ends_1_v1_l0 a1 a2 a3 k (v1.1, v1.2.1, v1.2.2.1)).map fun r => v1.2.2.2 ++ r.map (fun x : Int => ([.int .i64 x] : List Value))) L (fun v1 => ⟨[(0, .yield), (1, .p (.rop ([i6 (a1)]))), (2, .p (.rop ([slV (eI .u8) a2]))), (3, .p (.rop ([sC a3.Classes, i6 (a3.First.N), sW a3.First.Words, i6 (a3.Last.N), sW a3.Last.Words, sB a3.Follow, bo (a3.Null)]))), (5, .ptr 5 0), (6, .p (i6 (v1.1)))], [(5, .box 25 [.p (i6 (v1.2.1)), .p (sW v1.2.2.1)])], ⟨v1.2.2.2, false⟩, []⟩) (fun _ => rfl) (fun K1 hfirst1 hsc1 => ?_) ?_
  · refine WX.seq ?_
    refine WX.seq ?_
    rcases if_or h with ⟨b30_2, h⟩ | ⟨b30_2, h⟩
    · refine WC.reg (n := 54) hn [(2, .val (.p (bo (true))))] [0, 1, 2, 3, 24] [] ⟨[(0, .yield), (1, .p (.rop ([i6 (a1)]))), (2, .p (.rop ([slV (eI .u8) a2]))), (3, .p (.rop ([sC a3.Classes, i6 (a3.First.N), sW a3.First.Words, i6 (a3.Last.N), sW a3.Last.Words, sB a3.Follow, bo (a3.Null)]))), (24, .p (bo (true)))], [], ⟨([] : List (List Value)), false⟩, []⟩ (And.intro (Bl b30_2) (trivial)) (by kernel_rfl) ?_
      refine WC.condT rfl (by kernel_rfl) ?_
      refine WX.ret ?_
      refine WC.ret_all (hsc1 _ _ (fun _ h => by cases h) ?_)
      obtain rfl := Option.some.inj h
      exact WC.ret_all ⟨by kernel_rfl, fun _ => by simpa using hL⟩
    · rcases if_or h with ⟨b30_8, h⟩ | ⟨b30_8, h⟩
      · refine WC.reg (n := 54) hn [(2, .val (.p (bo (false)))), (8, .val (.p (bo (true))))] [0, 1, 2, 3, 24] [] ⟨[(0, .yield), (1, .p (.rop ([i6 (a1)]))), (2, .p (.rop ([slV (eI .u8) a2]))), (3, .p (.rop ([sC a3.Classes, i6 (a3.First.N), sW a3.First.Words, i6 (a3.Last.N), sW a3.Last.Words, sB a3.Follow, bo (a3.Null)]))), (24, .p (bo (true)))], [], ⟨([] : List (List Value)), false⟩, []⟩ (And.intro (Bl b30_2) (And.intro (Bl b30_8) (trivial))) (by kernel_rfl) ?_
        refine WC.condT rfl (by kernel_rfl) ?_
        refine WX.ret ?_
        refine WC.ret_all (hsc1 _ _ (fun _ h => by cases h) ?_)
        obtain rfl := Option.some.inj h
        exact WC.ret_all ⟨by kernel_rfl, fun _ => by simpa using hL⟩
      · rcases if_or h with ⟨b30_11, h⟩ | ⟨b30_11, h⟩
        · obtain ⟨r30, hh30, hr30⟩ := mapO_some h
          subst hr30
          replace h := hh30
          refine WC.yld (n := 54) hn hY 14 [(2, .val (.p (bo (false)))), (8, .val (.p (bo (false)))), (11, .val (.p (bo (true))))] [0, 1, 2, 3, 24] [] (⟨[(0, .yield), (1, .p (.rop ([i6 (a1)]))), (2, .p (.rop ([slV (eI .u8) a2]))), (3, .p (.rop ([sC a3.Classes, i6 (a3.First.N), sW a3.First.Words, i6 (a3.Last.N), sW a3.Last.Words, sB a3.Follow, bo (a3.Null)]))), (24, .p (bo (false)))], [], ⟨(([] : List (List Value)) ++ [[.int .i64 a1]]), false⟩, []⟩) (⟨[(0, .yield), (1, .p (.rop ([i6 (a1)]))), (2, .p (.rop ([slV (eI .u8) a2]))), (3, .p (.rop ([sC a3.Classes, i6 (a3.First.N), sW a3.First.Words, i6 (a3.Last.N), sW a3.Last.Words, sB a3.Follow, bo (a3.Null)]))), (24, .p (bo (true)))], [], ⟨(([] : List (List Value)) ++ [[.int .i64 a1]]), true⟩, []⟩) ([] : List (List Value)) [.int .i64 a1] (And.intro (And.intro (Bl b30_2) (And.intro (Bl b30_8) (And.intro (Bl b30_11) (True.intro)))) (And.intro True.intro True.intro)) (by kernel_rfl) (pre_ok (val := (fun x : Int => ([.int .i64 x] : List Value))) (x := a1) (l := r30) hL) ?_ ?_
          · replace hL : (([] : List (List Value)) ++ [[.int .i64 a1]]) ++ r30.map (fun x : Int => ([.int .i64 x] : List Value)) = L := by rw [← hL]; simp
            refine WC.condF rfl (by kernel_rfl) ?_
            refine WX.skip ?_
            refine WX.seq ?_
            obtain ⟨t31_2, h31_1, h⟩ := bind_some h
            refine WC.drw (n := 54) hn [(4, [2])] [5] [(1, .resP (.agg [i6 (t31_2.N), sW t31_2.Words]))] [0, 1, 2, 3, 5, 6] [5] ⟨[(0, .yield), (1, .p (.rop ([i6 (a1)]))), (2, .p (.rop ([slV (eI .u8) a2]))), (3, .p (.rop ([sC a3.Classes, i6 (a3.First.N), sW a3.First.Words, i6 (a3.Last.N), sW a3.Last.Words, sB a3.Follow, bo (a3.Null)]))), (5, .ptr 5 0), (6, .p (i6 (a1)))], [(5, .box 25 [.p (i6 (t31_2.N)), .p (sW t31_2.Words)])], ⟨(([] : List (List Value)) ++ [[.int .i64 a1]]), false⟩, []⟩ (And.intro ((nfa_None_okP h31_1)) (And.intro (And.intro (Eq.refl (some (.p (i6 (a1)) : AV))) (trivial)) (trivial))) (by kernel_rfl) (by kernel_rfl) (by kernel_rfl) (by kernel_rfl) ?_
            refine WX.seq ?_
            refine WX.label ?_
            exact WC.keep [0, 1, 2, 3, 5, 6] [5] (by kernel_rfl) (hfirst1 _ (a1, t31_2.N, t31_2.Words, (([] : List (List Value)) ++ [[.int .i64 a1]])) (by rw [h]; exact congrArg some hL))
          · refine WC.condT rfl (by kernel_rfl) ?_
            refine WX.ret ?_
            refine WC.ret_all (hsc1 _ _ (fun _ h => by cases h) ?_)
            exact WC.ret_all ⟨by kernel_rfl, fun h => by cases h⟩
        · refine WC.reg (n := 54) hn [(2, .val (.p (bo (false)))), (8, .val (.p (bo (false)))), (11, .val (.p (bo (false))))] [0, 1, 2, 3, 24] [] ⟨[(0, .yield), (1, .p (.rop ([i6 (a1)]))), (2, .p (.rop ([slV (eI .u8) a2]))), (3, .p (.rop ([sC a3.Classes, i6 (a3.First.N), sW a3.First.Words, i6 (a3.Last.N), sW a3.Last.Words, sB a3.Follow, bo (a3.Null)]))), (24, .p (bo (false)))], [], ⟨([] : List (List Value)), false⟩, []⟩ (And.intro (Bl b30_2) (And.intro (Bl b30_8) (And.intro (Bl b30_11) (trivial)))) (by kernel_rfl) ?_
          refine WC.condF rfl (by kernel_rfl) ?_
          refine WX.skip ?_
          refine WX.seq ?_
          obtain ⟨t32_2, h32_1, h⟩ := bind_some h
          refine WC.drw (n := 54) hn [(4, [2])] [5] [(1, .resP (.agg [i6 (t32_2.N), sW t32_2.Words]))] [0, 1, 2, 3, 5, 6] [5] ⟨[(0, .yield), (1, .p (.rop ([i6 (a1)]))), (2, .p (.rop ([slV (eI .u8) a2]))), (3, .p (.rop ([sC a3.Classes, i6 (a3.First.N), sW a3.First.Words, i6 (a3.Last.N), sW a3.Last.Words, sB a3.Follow, bo (a3.Null)]))), (5, .ptr 5 0), (6, .p (i6 (a1)))], [(5, .box 25 [.p (i6 (t32_2.N)), .p (sW t32_2.Words)])], ⟨([] : List (List Value)), false⟩, []⟩ (And.intro ((nfa_None_okP h32_1)) (And.intro (And.intro (Eq.refl (some (.p (i6 (a1)) : AV))) (trivial)) (trivial))) (by kernel_rfl) (by kernel_rfl) (by kernel_rfl) (by kernel_rfl) ?_
          refine WX.seq ?_
          refine WX.label ?_
          exact WC.keep [0, 1, 2, 3, 5, 6] [5] (by kernel_rfl) (hfirst1 _ (a1, t32_2.N, t32_2.Words, ([] : List (List Value))) (by rw [h]; exact congrArg some hL))
  · clear h hL; rintro k ⟨x1_1_1, x1_1_2, x1_1_3, x1_1_4⟩ h K1 hnext1 hsc1
    obtain ⟨r, h, hL⟩ := mapO_some h
    dsimp only at h hL
    rw [nfa_Ends_1_v1_l0] at h
    dsimp only [List.map]
    refine WX.seq ?_
    refine WX.seq ?_
    refine WC.reg (n := 54) hn [] [0, 1, 2, 3, 5, 6, 31] [5] ⟨[(0, .yield), (1, .p (.rop ([i6 (a1)]))), (2, .p (.rop ([slV (eI .u8) a2]))), (3, .p (.rop ([sC a3.Classes, i6 (a3.First.N), sW a3.First.Words, i6 (a3.Last.N), sW a3.Last.Words, sB a3.Follow, bo (a3.Null)]))), (5, .ptr 5 0), (6, .p (i6 (x1_1_1))), (31, .p (bo (((x1_1_1 == (a2.length : Int))))))], [(5, .box 25 [.p (i6 (x1_1_2)), .p (sW x1_1_3)])], ⟨x1_1_4, false⟩, []⟩ trivial (by kernel_rfl) ?_
    rcases if_or h with ⟨c26, h⟩ | ⟨c26, h⟩
    · refine WC.condT c26 (by kernel_rfl) ?_
      refine WX.ret ?_
      refine WC.ret_all (hsc1 _ _ (fun _ h => by cases h) ?_)
      obtain rfl := Option.some.inj h
      exact WC.ret_all ⟨by kernel_rfl, fun _ => by simpa using hL⟩
    · refine WC.condF c26 (by kernel_rfl) ?_
      refine WX.skip ?_
      refine WX.seq ?_
      obtain ⟨t27_2, h27_1, h⟩ := bind_some h
      obtain ⟨t27_4, h27_3, h⟩ := bind_some h
      refine WC.drw (n := 54) hn [(10, [])] [] [(7, .val (.p (.rop ((eI .u8).cells t27_2 ++ encL (eI .u8) (a2.drop (x1_1_1.toNat + 1)))))), (9, .resP (.agg [i6 (t27_4.N), sW t27_4.Words]))] [0, 1, 2, 3, 5, 6] [5] ⟨[(0, .yield), (1, .p (.rop ([i6 (a1)]))), (2, .p (.rop ([slV (eI .u8) a2]))), (3, .p (.rop ([sC a3.Classes, i6 (a3.First.N), sW a3.First.Words, i6 (a3.Last.N), sW a3.Last.Words, sB a3.Follow, bo (a3.Null)]))), (5, .ptr 5 0), (6, .p (i6 (x1_1_1)))], [(5, .box 25 [.p (i6 (t27_4.N)), .p (sW t27_4.Words)])], ⟨x1_1_4, false⟩, []⟩ (And.intro (Ix (eI .u8) h27_1) (And.intro ((nfa_step_okP h27_3)) (trivial))) (by kernel_rfl) (by kernel_rfl) (by kernel_rfl) (by kernel_rfl) ?_
      refine WX.seq ?_
      refine WC.reg (n := 54) hn [] [0, 1, 2, 3, 5, 6] [5] ⟨[(0, .yield), (1, .p (.rop ([i6 (a1)]))), (2, .p (.rop ([slV (eI .u8) a2]))), (3, .p (.rop ([sC a3.Classes, i6 (a3.First.N), sW a3.First.Words, i6 (a3.Last.N), sW a3.Last.Words, sB a3.Follow, bo (a3.Null)]))), (5, .ptr 5 0), (6, .p (i6 (((IntKind.i64.wrap (x1_1_1 + 1))))))], [(5, .box 25 [.p (i6 (t27_4.N)), .p (sW t27_4.Words)])], ⟨x1_1_4, false⟩, []⟩ trivial (by kernel_rfl) ?_
      refine WX.seq ?_
      refine WX.seq ?_
      obtain ⟨t29_2, h29_1, h⟩ := bind_some h
      rcases if_or h with ⟨b29_4, h⟩ | ⟨b29_4, h⟩
      · obtain ⟨r29, hh29, hr29⟩ := mapO_some h
        subst hr29
        replace h := hh29
        refine WC.yld (n := 54) hn hY 7 [(3, .resP (bo (t29_2))), (4, .val (.p (bo (true))))] [0, 1, 2, 3, 5, 6, 53] [5] (⟨[(0, .yield), (1, .p (.rop ([i6 (a1)]))), (2, .p (.rop ([slV (eI .u8) a2]))), (3, .p (.rop ([sC a3.Classes, i6 (a3.First.N), sW a3.First.Words, i6 (a3.Last.N), sW a3.Last.Words, sB a3.Follow, bo (a3.Null)]))), (5, .ptr 5 0), (6, .p (i6 (((IntKind.i64.wrap (x1_1_1 + 1)))))), (53, .p (bo (false)))], [(5, .box 25 [.p (i6 (t27_4.N)), .p (sW t27_4.Words)])], ⟨(x1_1_4 ++ [[.int .i64 ((IntKind.i64.wrap (x1_1_1 + 1)))]]), false⟩, []⟩) (⟨[(0, .yield), (1, .p (.rop ([i6 (a1)]))), (2, .p (.rop ([slV (eI .u8) a2]))), (3, .p (.rop ([sC a3.Classes, i6 (a3.First.N), sW a3.First.Words, i6 (a3.Last.N), sW a3.Last.Words, sB a3.Follow, bo (a3.Null)]))), (5, .ptr 5 0), (6, .p (i6 (((IntKind.i64.wrap (x1_1_1 + 1)))))), (53, .p (bo (true)))], [(5, .box 25 [.p (i6 (t27_4.N)), .p (sW t27_4.Words)])], ⟨(x1_1_4 ++ [[.int .i64 ((IntKind.i64.wrap (x1_1_1 + 1)))]]), true⟩, []⟩) x1_1_4 [.int .i64 ((IntKind.i64.wrap (x1_1_1 + 1)))] (And.intro (And.intro ((bits_Meet_ok h29_1)) (And.intro (Bl b29_4) (True.intro))) (And.intro True.intro True.intro)) (by kernel_rfl) (pre_ok (val := (fun x : Int => ([.int .i64 x] : List Value))) (x := (IntKind.i64.wrap (x1_1_1 + 1))) (l := r29) hL) ?_ ?_
        · replace hL : (x1_1_4 ++ [[.int .i64 ((IntKind.i64.wrap (x1_1_1 + 1)))]]) ++ r29.map (fun x : Int => ([.int .i64 x] : List Value)) = L := by rw [← hL]; simp
          refine WC.condF rfl (by kernel_rfl) ?_
          refine WX.skip ?_
          refine WX.goto ?_
          exact WC.keep [0, 1, 2, 3, 5, 6] [5] (by kernel_rfl) (WC.exit_nil (hnext1 ((IntKind.i64.wrap (x1_1_1 + 1)), t27_4.N, t27_4.Words, (x1_1_4 ++ [[.int .i64 ((IntKind.i64.wrap (x1_1_1 + 1)))]])) (by rw [h]; exact congrArg some hL)))
        · refine WC.condT rfl (by kernel_rfl) ?_
          refine WX.ret ?_
          refine WC.ret_all (hsc1 _ _ (fun _ h => by cases h) ?_)
          exact WC.ret_all ⟨by kernel_rfl, fun h => by cases h⟩
      · refine WC.reg (n := 54) hn [(3, .resP (bo (t29_2))), (4, .val (.p (bo (false))))] [0, 1, 2, 3, 5, 6, 53] [5] ⟨[(0, .yield), (1, .p (.rop ([i6 (a1)]))), (2, .p (.rop ([slV (eI .u8) a2]))), (3, .p (.rop ([sC a3.Classes, i6 (a3.First.N), sW a3.First.Words, i6 (a3.Last.N), sW a3.Last.Words, sB a3.Follow, bo (a3.Null)]))), (5, .ptr 5 0), (6, .p (i6 (((IntKind.i64.wrap (x1_1_1 + 1)))))), (53, .p (bo (false)))], [(5, .box 25 [.p (i6 (t27_4.N)), .p (sW t27_4.Words)])], ⟨x1_1_4, false⟩, []⟩ (And.intro ((bits_Meet_ok h29_1)) (And.intro (Bl b29_4) (trivial))) (by kernel_rfl) ?_
        refine WC.condF rfl (by kernel_rfl) ?_
        refine WX.skip ?_
        refine WX.goto ?_
        exact WC.keep [0, 1, 2, 3, 5, 6] [5] (by kernel_rfl) (WC.exit_nil (hnext1 ((IntKind.i64.wrap (x1_1_1 + 1)), t27_4.N, t27_4.Words, x1_1_4) (by rw [h]; exact congrArg some hL)))
def riddlelaw11_ends_l0 (k : Nat) : List Int → List Int → Option ((List Int))
  | [], x6_1_1 => some x6_1_1
  | x6 :: xs6, x6_1_1 => (if okApp 8 (x6_1_1.length + ([x6]).length) then riddlelaw11_ends_l0 k xs6 (x6_1_1 ++ ([x6])) else none)
def riddlelaw11_ends (k : Nat) (a0 : api_Nfa) (a1 : (List Int)) (a2 : Int) : Option ((List Int)) :=
  (nfa_Ends k a0 a1 a2).bind fun t3_2 => (nfa_Ends_1_v1 k t3_2.1 t3_2.2.1 t3_2.2.2).bind fun l6 => riddlelaw11_ends_l0 k l6 (([] : List Int))
theorem riddlelaw11_ends_ok {k : Nat} {a0 : api_Nfa} {a1 : (List Int)} {a2 : Int} {r : (List Int)} (h : riddlelaw11_ends k a0 a1 a2 = some r) : AnsO Tryd.prog 11 [] [.p (.agg [sC a0.Classes, i6 (a0.First.N), sW a0.First.Words, i6 (a0.Last.N), sW a0.Last.Words, sB a0.Follow, bo (a0.Null)]), .p (slV (eI .u8) a1), .p (i6 (a2))] [(21, rowV 3 (eI .i64) r)] (.own 21) := by
  refine W_fnO [21] Tryd.func11 rfl (by kernel_rfl) (by kernel_rfl) (by kernel_rfl) (by kernel_rfl) ?_
  intro X hro hn
  unfold riddlelaw11_ends at h
  refine WX.seq ?_
  refine WC.reg (n := 23) hn [] [1, 2, 3] [3] ⟨[(1, .p (slV (eI .u8) a1)), (2, .p (i6 (a2))), (3, .ptr 3 0)], [(3, .box 28 [.p (sC a0.Classes), .p (i6 (a0.First.N)), .p (sW a0.First.Words), .p (i6 (a0.Last.N)), .p (sW a0.Last.Words), .p (sB a0.Follow), .p (bo (a0.Null))])], ⟨[], false⟩, []⟩ trivial (by kernel_rfl) ?_
  refine WX.seq ?_
  refine WC.reg (n := 23) hn [] [1, 2, 3, 7] [3, 7] ⟨[(1, .p (slV (eI .u8) a1)), (2, .p (i6 (a2))), (3, .ptr 3 0), (7, .ptr 7 0)], [(3, .box 28 [.p (sC a0.Classes), .p (i6 (a0.First.N)), .p (sW a0.First.Words), .p (i6 (a0.Last.N)), .p (sW a0.Last.Words), .p (sB a0.Follow), .p (bo (a0.Null))]), (7, .box 35 [.p (.sl .nil 0 [])])], ⟨[], false⟩, []⟩ trivial (by kernel_rfl) ?_
  refine WX.seq ?_
  obtain ⟨t3_2, h3_1, h⟩ := bind_some h
  refine WC.reg (n := 23) hn [(3, .resP (.fn 72 [.rop ([i6 (t3_2.1)]), .rop ([slV (eI .u8) t3_2.2.1]), .rop ([sC t3_2.2.2.Classes, i6 (t3_2.2.2.First.N), sW t3_2.2.2.First.Words, i6 (t3_2.2.2.Last.N), sW t3_2.2.2.Last.Words, sB t3_2.2.2.Follow, bo (t3_2.2.2.Null)])]))] [7, 8] [7] ⟨[(7, .ptr 7 0), (8, .p (.fn 72 [.rop ([i6 (t3_2.1)]), .rop ([slV (eI .u8) t3_2.2.1]), .rop ([sC t3_2.2.2.Classes, i6 (t3_2.2.2.First.N), sW t3_2.2.2.First.Words, i6 (t3_2.2.2.Last.N), sW t3_2.2.2.Last.Words, sB t3_2.2.2.Follow, bo (t3_2.2.2.Null)])]))], [(7, .box 35 [.p (.sl .nil 0 [])])], ⟨[], false⟩, []⟩ (And.intro ((nfa_Ends_ok h3_1)) (trivial)) (by kernel_rfl) ?_
  refine WX.seq ?_
  refine WX.seq ?_
  refine WC.reg (n := 23) hn [] [7, 8, 15] [7] ⟨[(7, .ptr 7 0), (8, .p (.fn 72 [.rop ([i6 (t3_2.1)]), .rop ([slV (eI .u8) t3_2.2.1]), .rop ([sC t3_2.2.2.Classes, i6 (t3_2.2.2.First.N), sW t3_2.2.2.First.Words, i6 (t3_2.2.2.Last.N), sW t3_2.2.2.Last.Words, sB t3_2.2.2.Follow, bo (t3_2.2.2.Null)])])), (15, .p (bo (false)))], [(7, .box 35 [.p (.sl .nil 0 [])])], ⟨[], false⟩, []⟩ trivial (by kernel_rfl) ?_
  refine WC.condF rfl (by kernel_rfl) ?_
  refine WX.skip ?_
  refine WX.seq ?_
  refine WX.seq ?_
  refine WC.reg (n := 23) hn [] [7, 16] [7] ⟨[(7, .ptr 7 0), (16, .p (.fn 72 [.rop ([i6 (t3_2.1)]), .rop ([slV (eI .u8) t3_2.2.1]), .rop ([sC t3_2.2.2.Classes, i6 (t3_2.2.2.First.N), sW t3_2.2.2.First.Words, i6 (t3_2.2.2.Last.N), sW t3_2.2.2.Last.Words, sB t3_2.2.2.Follow, bo (t3_2.2.2.Null)])]))], [(7, .box 35 [.p (.sl .nil 0 [])])], ⟨[], false⟩, []⟩ trivial (by kernel_rfl) ?_
  refine WX.block ?_
  obtain ⟨l6, hI6, h⟩ := bind_some h
  refine WC.nil (n := 23) hn [] (some (7, 0)) 21 3 1 (by kernel_rfl) [7, 16] [7, 21] (st' := ⟨[(7, .ptr 7 0), (16, .p (.fn 72 [.rop ([i6 (t3_2.1)]), .rop ([slV (eI .u8) t3_2.2.1]), .rop ([sC t3_2.2.2.Classes, i6 (t3_2.2.2.First.N), sW t3_2.2.2.First.Words, i6 (t3_2.2.2.Last.N), sW t3_2.2.2.Last.Words, sB t3_2.2.2.Follow, bo (t3_2.2.2.Null)])]))], [(7, .box 35 [.own 21]), (21, rowV 3 (eI .i64) (([] : List Int)))], ⟨[], false⟩, []⟩) (by kernel_rfl) ?_
  refine WC.range (V := List Int) (n := 23) hn (riddlelaw11_ends_l0 k) r (fun v6 => ⟨[(7, .ptr 7 0), (16, .p (.fn 72 [.rop ([i6 (t3_2.1)]), .rop ([slV (eI .u8) t3_2.2.1]), .rop ([sC t3_2.2.2.Classes, i6 (t3_2.2.2.First.N), sW t3_2.2.2.First.Words, i6 (t3_2.2.2.Last.N), sW t3_2.2.2.Last.Words, sB t3_2.2.2.Follow, bo (t3_2.2.2.Null)])]))], [(7, .box 35 [.own 21]), (21, rowV 3 (eI .i64) v6)], ⟨[], false⟩, []⟩) (fun x6 v6 => ⟨[(7, .ptr 7 0), (9, .p (i6 (x6))), (16, .p (.fn 72 [.rop ([i6 (t3_2.1)]), .rop ([slV (eI .u8) t3_2.2.1]), .rop ([sC t3_2.2.2.Classes, i6 (t3_2.2.2.First.N), sW t3_2.2.2.First.Words, i6 (t3_2.2.2.Last.N), sW t3_2.2.2.Last.Words, sB t3_2.2.2.Follow, bo (t3_2.2.2.Null)])])), (17, .p (i6 (x6)))], [(7, .box 35 [.own 21]), (21, rowV 3 (eI .i64) v6)], ⟨[], false⟩, [[(7, .ptr 7 0), (16, .p (.fn 72 [.rop ([i6 (t3_2.1)]), .rop ([slV (eI .u8) t3_2.2.1]), .rop ([sC t3_2.2.2.Classes, i6 (t3_2.2.2.First.N), sW t3_2.2.2.First.Words, i6 (t3_2.2.2.Last.N), sW t3_2.2.2.Last.Words, sB t3_2.2.2.Follow, bo (t3_2.2.2.Null)])]))]]⟩) (fun x : Int => ([.int .i64 x] : List Value)) l6 (([] : List Int)) h [7, 16] [7, 21] (by kernel_rfl) (fun v6 => .p (.fn 72 [.rop ([i6 (t3_2.1)]), .rop ([slV (eI .u8) t3_2.2.1]), .rop ([sC t3_2.2.2.Classes, i6 (t3_2.2.2.First.N), sW t3_2.2.2.First.Words, i6 (t3_2.2.2.Last.N), sW t3_2.2.2.Last.Words, sB t3_2.2.2.Follow, bo (t3_2.2.2.Null)])])) (fun v6 => by kernel_rfl) (by kernel_rfl) (nfa_Ends_1_v1_it hI6) (by kernel_rfl) (fun v6 => by kernel_rfl) (fun x => ⟨rfl, rfl⟩) ?_ ?_ ?_
  · clear h; rintro x6_1_1 h
    rw [riddlelaw11_ends_l0] at h
    refine WX.popBlk ?_
    refine WX.seq ?_
    refine WC.reg (n := 23) hn [] [6] [21] ⟨[(6, .own 21)], [(21, rowV 3 (eI .i64) x6_1_1)], ⟨[], false⟩, []⟩ trivial (by kernel_rfl) ?_
    refine WX.ret ?_
    exact WC.outO (by rw [← Option.some.inj h]; kernel_rfl)
  · clear h; intro X hn x6; rintro x6_1_1
    refine WC.reg (n := 23) hn [] [7, 9, 16, 17] [7, 21] ⟨[(7, .ptr 7 0), (9, .p (i6 (x6))), (16, .p (.fn 72 [.rop ([i6 (t3_2.1)]), .rop ([slV (eI .u8) t3_2.2.1]), .rop ([sC t3_2.2.2.Classes, i6 (t3_2.2.2.First.N), sW t3_2.2.2.First.Words, i6 (t3_2.2.2.Last.N), sW t3_2.2.2.Last.Words, sB t3_2.2.2.Follow, bo (t3_2.2.2.Null)])])), (17, .p (i6 (x6)))], [(7, .box 35 [.own 21]), (21, rowV 3 (eI .i64) x6_1_1)], ⟨[], false⟩, [[(7, .ptr 7 0), (16, .p (.fn 72 [.rop ([i6 (t3_2.1)]), .rop ([slV (eI .u8) t3_2.2.1]), .rop ([sC t3_2.2.2.Classes, i6 (t3_2.2.2.First.N), sW t3_2.2.2.First.Words, i6 (t3_2.2.2.Last.N), sW t3_2.2.2.Last.Words, sB t3_2.2.2.Follow, bo (t3_2.2.2.Null)])]))]]⟩ trivial (by kernel_rfl) ?_
    exact WC.exit_nil ⟨rfl, rfl⟩
  · clear h; intro X hn x6 xs6; rintro x6_1_1 h K6 hnext6 hexit6
    rw [riddlelaw11_ends_l0] at h
    refine WX.block ?_
    obtain ⟨c15_1, h⟩ := if_some h
    refine WC.reg (n := 23) hn [(3, .app (some 21) (rowV 3 (eI .i64) (x6_1_1 ++ ([x6]))))] [] [7, 21] ⟨[], [(7, .box 35 [.own 21]), (21, rowV 3 (eI .i64) (x6_1_1 ++ ([x6])))], ⟨[], false⟩, [[(7, .ptr 7 0), (16, .p (.fn 72 [.rop ([i6 (t3_2.1)]), .rop ([slV (eI .u8) t3_2.2.1]), .rop ([sC t3_2.2.2.Classes, i6 (t3_2.2.2.First.N), sW t3_2.2.2.First.Words, i6 (t3_2.2.2.Last.N), sW t3_2.2.2.Last.Words, sB t3_2.2.2.Follow, bo (t3_2.2.2.Null)])]))]]⟩ (And.intro (Ap (eI .i64) (some 21) 3 8 1 x6_1_1 ([x6]) c15_1) (trivial)) (by kernel_rfl) ?_
    refine WX.popBlk ?_
    refine WC.keep [] [7, 21] (st' := ⟨[], [(7, .box 35 [.own 21]), (21, rowV 3 (eI .i64) (x6_1_1 ++ ([x6])))], ⟨[], false⟩, [[(7, .ptr 7 0), (16, .p (.fn 72 [.rop ([i6 (t3_2.1)]), .rop ([slV (eI .u8) t3_2.2.1]), .rop ([sC t3_2.2.2.Classes, i6 (t3_2.2.2.First.N), sW t3_2.2.2.First.Words, i6 (t3_2.2.2.Last.N), sW t3_2.2.2.Last.Words, sB t3_2.2.2.Follow, bo (t3_2.2.2.Null)])]))]]⟩) (by kernel_rfl) ?_
    exact WC.nextR [] [7, 21] (s := ⟨[], [(7, .box 35 [.own 21]), (21, rowV 3 (eI .i64) (x6_1_1 ++ ([x6])))], ⟨[], false⟩, [[(7, .ptr 7 0), (16, .p (.fn 72 [.rop ([i6 (t3_2.1)]), .rop ([slV (eI .u8) t3_2.2.1]), .rop ([sC t3_2.2.2.Classes, i6 (t3_2.2.2.First.N), sW t3_2.2.2.First.Words, i6 (t3_2.2.2.Last.N), sW t3_2.2.2.Last.Words, sB t3_2.2.2.Follow, bo (t3_2.2.2.Null)])]))]]⟩) (by kernel_rfl) rfl (fun s hb => hnext6 (x6_1_1 ++ ([x6])) s h hb)
theorem riddlelaw11_ends_okP {k : Nat} {a0 : api_Nfa} {a1 : (List Int)} {a2 : Int} {r : (List Int)} (h : riddlelaw11_ends k a0 a1 a2 = some r) : Ans Tryd.prog 11 [.agg [sC a0.Classes, i6 (a0.First.N), sW a0.First.Words, i6 (a0.Last.N), sW a0.Last.Words, sB a0.Follow, bo (a0.Null)], slV (eI .u8) a1, i6 (a2)] (slV (eI .i64) r) := AnsO.ans (args := [.agg [sC a0.Classes, i6 (a0.First.N), sW a0.First.Words, i6 (a0.Last.N), sW a0.Last.Words, sB a0.Follow, bo (a0.Null)], slV (eI .u8) a1, i6 (a2)]) (riddlelaw11_ends_ok h) (by kernel_rfl)
def nfa_Events (k : Nat) (a0 : api_Nfa) (a1 : (List Int)) (a2 : Bool) (a3 : Bool) : Option ((api_Nfa × (List Int) × Bool × Bool)) :=
  (nfa_may k a0).bind fun t2_2 => some ((t2_2, a1, a2, a3))
theorem nfa_Events_ok {k : Nat} {a0 : api_Nfa} {a1 : (List Int)} {a2 : Bool} {a3 : Bool} {r : (api_Nfa × (List Int) × Bool × Bool)} (h : nfa_Events k a0 a1 a2 a3 = some r) : Ans Tryd.prog 37 [.agg [sC a0.Classes, i6 (a0.First.N), sW a0.First.Words, i6 (a0.Last.N), sW a0.Last.Words, sB a0.Follow, bo (a0.Null)], slV (eI .u8) a1, bo (a2), bo (a3)] (.fn 74 [.rop ([sC r.1.Classes, i6 (r.1.First.N), sW r.1.First.Words, i6 (r.1.Last.N), sW r.1.Last.Words, sB r.1.Follow, bo (r.1.Null)]), .rop ([slV (eI .u8) r.2.1]), .rop ([bo (r.2.2.1)]), .rop ([bo (r.2.2.2)])]) := by
  refine W_fn Tryd.func37 rfl (by kernel_rfl) (by kernel_rfl) ?_
  intro X hro hn
  unfold nfa_Events at h
  refine WX.seq ?_
  refine WC.reg (n := 12) hn [] [4, 5, 6, 7] [4, 5, 6, 7] ⟨[(4, .ptr 4 0), (5, .ptr 5 0), (6, .ptr 6 0), (7, .ptr 7 0)], [(4, .box 28 [.p (sC a0.Classes), .p (i6 (a0.First.N)), .p (sW a0.First.Words), .p (i6 (a0.Last.N)), .p (sW a0.Last.Words), .p (sB a0.Follow), .p (bo (a0.Null))]), (5, .box 29 [.p (slV (eI .u8) a1)]), (6, .box 4 [.p (bo (a2))]), (7, .box 4 [.p (bo (a3))])], ⟨[], false⟩, []⟩ trivial (by kernel_rfl) ?_
  refine WX.seq ?_
  obtain ⟨t2_2, h2_1, h⟩ := bind_some h
  refine WC.reg (n := 12) hn [(1, .resP (.agg [sC t2_2.Classes, i6 (t2_2.First.N), sW t2_2.First.Words, i6 (t2_2.Last.N), sW t2_2.Last.Words, sB t2_2.Follow, bo (t2_2.Null)]))] [4, 5, 6, 7] [4, 5, 6, 7] ⟨[(4, .ptr 4 0), (5, .ptr 5 0), (6, .ptr 6 0), (7, .ptr 7 0)], [(4, .box 28 [.p (sC t2_2.Classes), .p (i6 (t2_2.First.N)), .p (sW t2_2.First.Words), .p (i6 (t2_2.Last.N)), .p (sW t2_2.Last.Words), .p (sB t2_2.Follow), .p (bo (t2_2.Null))]), (5, .box 29 [.p (slV (eI .u8) a1)]), (6, .box 4 [.p (bo (a2))]), (7, .box 4 [.p (bo (a3))])], ⟨[], false⟩, []⟩ (And.intro ((nfa_may_ok h2_1)) (trivial)) (by kernel_rfl) ?_
  refine WX.seq ?_
  refine WC.reg (n := 12) hn [] [8] [4, 5, 6, 7] ⟨[(8, .fn 74 [.ptr 4 0, .ptr 5 0, .ptr 6 0, .ptr 7 0])], [(4, .box 28 [.p (sC t2_2.Classes), .p (i6 (t2_2.First.N)), .p (sW t2_2.First.Words), .p (i6 (t2_2.Last.N)), .p (sW t2_2.Last.Words), .p (sB t2_2.Follow), .p (bo (t2_2.Null))]), (5, .box 29 [.p (slV (eI .u8) a1)]), (6, .box 4 [.p (bo (a2))]), (7, .box 4 [.p (bo (a3))])], ⟨[], false⟩, []⟩ trivial (by kernel_rfl) ?_
  refine WX.ret ?_
  exact WC.outP (by rw [← Option.some.inj h]; kernel_rfl)
def nfa_Events_1_v1_l0 (a1 : api_Nfa) (a2 : (List Int)) (a3 : Bool) (a4 : Bool) : Nat → (Int × Int × List Int) → Option (List Int)
  | 0, _ => none
  | k + 1, (x3_1_1, x3_1_2, x3_1_3) => (if (decide (x3_1_1 < (a2.length : Int))) = true then (at_ a2 x3_1_1).bind fun t21_2 => ((if (!a3) = true then (nfa_step k a1 ((api_Bits.mk x3_1_2 x3_1_3)) true t21_2).bind fun t22_2 => some (t22_2.N, t22_2.Words) else (if (x3_1_1 == 0) = true then (nfa_step k a1 ((api_Bits.mk x3_1_2 x3_1_3)) true t21_2).bind fun t22_2 => some (t22_2.N, t22_2.Words) else (if a4 = true then (at_ a2 ((IntKind.i64.wrap (x3_1_1 - 1)))).bind fun t22_2 => (nfa_step k a1 ((api_Bits.mk x3_1_2 x3_1_3)) ((t22_2 == 10)) t21_2).bind fun t22_4 => some (t22_4.N, t22_4.Words) else (nfa_step k a1 ((api_Bits.mk x3_1_2 x3_1_3)) false t21_2).bind fun t22_2 => some (t22_2.N, t22_2.Words)))) : Option (Int × List Int)).bind fun v22 => (bits_Meet k ((api_Bits.mk v22.1 v22.2)) a1.Last).bind fun t23_2 => (if t23_2 = true then (nfa_Events_1_v1_l0 a1 a2 a3 a4 k ((IntKind.i64.wrap (x3_1_1 + 1)), v22.1, v22.2)).map ((IntKind.i64.wrap (x3_1_1 + 1)) :: ·) else nfa_Events_1_v1_l0 a1 a2 a3 a4 k ((IntKind.i64.wrap (x3_1_1 + 1)), v22.1, v22.2)) else some [])
def nfa_Events_1_v1 (k : Nat) (a1 : api_Nfa) (a2 : (List Int)) (a3 : Bool) (a4 : Bool) : Option (List Int) :=
  (nfa_None k a1).bind fun t1_2 => nfa_Events_1_v1_l0 a1 a2 a3 a4 k (0, t1_2.N, t1_2.Words)
theorem nfa_Events_1_v1_it {k : Nat} {a1 : api_Nfa} {a2 : (List Int)} {a3 : Bool} {a4 : Bool} {r : List Int} (h : nfa_Events_1_v1 k a1 a2 a3 a4 = some r) : Iter Tryd.prog 74 [.rop ([sC a1.Classes, i6 (a1.First.N), sW a1.First.Words, i6 (a1.Last.N), sW a1.Last.Words, sB a1.Follow, bo (a1.Null)]), .rop ([slV (eI .u8) a2]), .rop ([bo (a3)]), .rop ([bo (a4)])] (r.map (fun x : Int => ([.int .i64 x] : List Value))) := by
  refine W_it Tryd.func74 rfl (by kernel_rfl) (Nat.le_of_ble_eq_true (by kernel_rfl)) ?_
  intro X hro hn hY
  obtain ⟨L, hLe⟩ : ∃ L, L = r.map (fun x : Int => ([.int .i64 x] : List Value)) := ⟨_, rfl⟩
  rw [← hLe] at hY ⊢
  have hL : ([] : List (List Value)) ++ r.map (fun x : Int => ([.int .i64 x] : List Value)) = L := by rw [hLe]; rfl
  clear hLe
  unfold nfa_Events_1_v1 at h
  refine WX.seq ?_
  obtain ⟨t1_2, h1_1, h⟩ := bind_some h
  refine WC.reg (n := 51) hn [(1, .co [] [] [] [(10, rowV 69 (eI .u64) t1_2.Words)] (.agg [.p (i6 (t1_2.N)), .own 10]))] [0, 1, 2, 3, 4, 6] [6, 10] ⟨[(0, .yield), (1, .p (.rop ([sC a1.Classes, i6 (a1.First.N), sW a1.First.Words, i6 (a1.Last.N), sW a1.Last.Words, sB a1.Follow, bo (a1.Null)]))), (2, .p (.rop ([slV (eI .u8) a2]))), (3, .p (.rop ([bo (a3)]))), (4, .p (.rop ([bo (a4)]))), (6, .ptr 6 0)], [(6, .box 25 [.p (i6 (t1_2.N)), .own 10]), (10, rowV 69 (eI .u64) t1_2.Words)], ⟨([] : List (List Value)), false⟩, []⟩ (And.intro (And.intro (nfa_None_ok h1_1) (trivial)) (trivial)) (by kernel_rfl) ?_
  refine WX.seq ?_
  refine WC.reg (n := 51) hn [] [0, 1, 2, 3, 4, 6, 11, 12, 13] [6, 10] ⟨[(0, .yield), (1, .p (.rop ([sC a1.Classes, i6 (a1.First.N), sW a1.First.Words, i6 (a1.Last.N), sW a1.Last.Words, sB a1.Follow, bo (a1.Null)]))), (2, .p (.rop ([slV (eI .u8) a2]))), (3, .p (.rop ([bo (a3)]))), (4, .p (.rop ([bo (a4)]))), (6, .ptr 6 0), (11, .p (slV (eI .u8) a2)), (12, .p (i6 (((a2.length : Int))))), (13, .p (i6 (0)))], [(6, .box 25 [.p (i6 (t1_2.N)), .own 10]), (10, rowV 69 (eI .u64) t1_2.Words)], ⟨([] : List (List Value)), false⟩, []⟩ trivial (by kernel_rfl) ?_
  refine WX.block ?_
  refine WC.frz 10 (st' := ⟨[(0, .yield), (1, .p (.rop ([sC a1.Classes, i6 (a1.First.N), sW a1.First.Words, i6 (a1.Last.N), sW a1.Last.Words, sB a1.Follow, bo (a1.Null)]))), (2, .p (.rop ([slV (eI .u8) a2]))), (3, .p (.rop ([bo (a3)]))), (4, .p (.rop ([bo (a4)]))), (6, .ptr 6 0), (11, .p (slV (eI .u8) a2)), (12, .p (i6 (((a2.length : Int))))), (13, .p (i6 (0)))], [(6, .box 25 [.p (i6 (t1_2.N)), .p (sW t1_2.Words)])], ⟨([] : List (List Value)), false⟩, []⟩) (by kernel_rfl) ?_
  refine WC.loop (V := Int × Int × List Int × List (List Value)) (fun k v3 => (nfa_Events_1_v1_l0 a1 a2 a3 a4 k (v3.1, v3.2.1, v3.2.2.1)).map fun r => v3.2.2.2 ++ r.map (fun x : Int => ([.int .i64 x] : List Value))) L (fun v3 => ⟨[(0, .yield), (1, .p (.rop ([sC a1.Classes, i6 (a1.First.N), sW a1.First.Words, i6 (a1.Last.N), sW a1.Last.Words, sB a1.Follow, bo (a1.Null)]))), (2, .p (.rop ([slV (eI .u8) a2]))), (3, .p (.rop ([bo (a3)]))), (4, .p (.rop ([bo (a4)]))), (6, .ptr 6 0), (11, .p (slV (eI .u8) a2)), (12, .p (i6 (((a2.length : Int))))), (13, .p (i6 (v3.1)))], [(6, .box 25 [.p (i6 (v3.2.1)), .p (sW v3.2.2.1)])], ⟨v3.2.2.2, false⟩, []⟩) _ (0, t1_2.N, t1_2.Words, ([] : List (List Value))) (by rw [h]; exact congrArg some hL) (fun _ => rfl) [0, 1, 2, 3, 4, 6, 11, 12, 13] [6] (by kernel_rfl) ?_
  clear h hL; rintro k ⟨x3_1_1, x3_1_2, x3_1_3, x3_1_4⟩ h K3 hnext3 hexit3
  obtain ⟨r, h, hL⟩ := mapO_some h
  dsimp only at h hL
  rw [nfa_Events_1_v1_l0] at h
  refine WX.seq ?_
  refine WC.reg (n := 51) hn [] [0, 1, 2, 3, 4, 6, 11, 12, 13, 14] [6] ⟨[(0, .yield), (1, .p (.rop ([sC a1.Classes, i6 (a1.First.N), sW a1.First.Words, i6 (a1.Last.N), sW a1.Last.Words, sB a1.Follow, bo (a1.Null)]))), (2, .p (.rop ([slV (eI .u8) a2]))), (3, .p (.rop ([bo (a3)]))), (4, .p (.rop ([bo (a4)]))), (6, .ptr 6 0), (11, .p (slV (eI .u8) a2)), (12, .p (i6 (((a2.length : Int))))), (13, .p (i6 (x3_1_1))), (14, .p (bo (((decide (x3_1_1 < (a2.length : Int)))))))], [(6, .box 25 [.p (i6 (x3_1_2)), .p (sW x3_1_3)])], ⟨x3_1_4, false⟩, []⟩ trivial (by kernel_rfl) ?_
  refine WX.seq ?_
  rcases if_or h with ⟨c20, h⟩ | ⟨c20, h⟩
  · refine WC.condT c20 (by kernel_rfl) ?_
    refine WX.skip ?_
    refine WX.seq ?_
    refine WX.block ?_
    refine WX.seq ?_
    obtain ⟨t21_2, h21_1, h⟩ := bind_some h
    refine WC.reg (n := 51) hn [(1, .val (.p (.rop ((eI .u8).cells t21_2 ++ encL (eI .u8) (a2.drop (x3_1_1.toNat + 1))))))] [0, 1, 2, 3, 4, 6, 7, 8, 11, 12, 13] [6] ⟨[(0, .yield), (1, .p (.rop ([sC a1.Classes, i6 (a1.First.N), sW a1.First.Words, i6 (a1.Last.N), sW a1.Last.Words, sB a1.Follow, bo (a1.Null)]))), (2, .p (.rop ([slV (eI .u8) a2]))), (3, .p (.rop ([bo (a3)]))), (4, .p (.rop ([bo (a4)]))), (6, .ptr 6 0), (7, .p (i6 (x3_1_1))), (8, .p (.s (.int .u8 t21_2))), (11, .p (slV (eI .u8) a2)), (12, .p (i6 (((a2.length : Int))))), (13, .p (i6 (x3_1_1)))], [(6, .box 25 [.p (i6 (x3_1_2)), .p (sW x3_1_3)])], ⟨x3_1_4, false⟩, []⟩ (And.intro (Ix (eI .u8) h21_1) (trivial)) (by kernel_rfl) ?_
    refine WX.seq ?_
    obtain ⟨v22, g22, h⟩ := bind_some h
    obtain ⟨m22_1, m22_2⟩ := v22
    try dsimp only at h
    refine WC.via (α := Int × List Int) (fun v22 => ⟨[(0, .yield), (1, .p (.rop ([sC a1.Classes, i6 (a1.First.N), sW a1.First.Words, i6 (a1.Last.N), sW a1.Last.Words, sB a1.Follow, bo (a1.Null)]))), (2, .p (.rop ([slV (eI .u8) a2]))), (3, .p (.rop ([bo (a3)]))), (4, .p (.rop ([bo (a4)]))), (6, .ptr 6 0), (7, .p (i6 (x3_1_1))), (11, .p (slV (eI .u8) a2)), (12, .p (i6 (((a2.length : Int))))), (13, .p (i6 (x3_1_1)))], [(6, .box 25 [.p (i6 (v22.1)), .p (sW v22.2)])], ⟨x3_1_4, false⟩, []⟩) (m22_1, m22_2) (fun hk => ?_) ?_
    · rcases if_or g22 with ⟨b22_4, g22⟩ | ⟨b22_4, g22⟩
      · obtain ⟨t22_2, h22_1, g22⟩ := bind_some g22
        exact WC.drw (n := 51) hn [(21, [])] [] [(4, .val (.p (bo (true)))), (20, .resP (.agg [i6 (t22_2.N), sW t22_2.Words]))] [0, 1, 2, 3, 4, 6, 7, 11, 12, 13] [6] ⟨[(0, .yield), (1, .p (.rop ([sC a1.Classes, i6 (a1.First.N), sW a1.First.Words, i6 (a1.Last.N), sW a1.Last.Words, sB a1.Follow, bo (a1.Null)]))), (2, .p (.rop ([slV (eI .u8) a2]))), (3, .p (.rop ([bo (a3)]))), (4, .p (.rop ([bo (a4)]))), (6, .ptr 6 0), (7, .p (i6 (x3_1_1))), (11, .p (slV (eI .u8) a2)), (12, .p (i6 (((a2.length : Int))))), (13, .p (i6 (x3_1_1)))], [(6, .box 25 [.p (i6 (t22_2.N)), .p (sW t22_2.Words)])], ⟨x3_1_4, false⟩, []⟩ (And.intro (Bl b22_4) (And.intro ((nfa_step_okP h22_1)) (trivial))) (by kernel_rfl) (by kernel_rfl) (by kernel_rfl) (by kernel_rfl) (hk (t22_2.N, t22_2.Words) (Option.some.inj g22))
      · rcases if_or g22 with ⟨b22_8, g22⟩ | ⟨b22_8, g22⟩
        · obtain ⟨t22_2, h22_1, g22⟩ := bind_some g22
          exact WC.drw (n := 51) hn [(21, [])] [] [(4, .val (.p (bo (false)))), (8, .val (.p (bo (true)))), (20, .resP (.agg [i6 (t22_2.N), sW t22_2.Words]))] [0, 1, 2, 3, 4, 6, 7, 11, 12, 13] [6] ⟨[(0, .yield), (1, .p (.rop ([sC a1.Classes, i6 (a1.First.N), sW a1.First.Words, i6 (a1.Last.N), sW a1.Last.Words, sB a1.Follow, bo (a1.Null)]))), (2, .p (.rop ([slV (eI .u8) a2]))), (3, .p (.rop ([bo (a3)]))), (4, .p (.rop ([bo (a4)]))), (6, .ptr 6 0), (7, .p (i6 (x3_1_1))), (11, .p (slV (eI .u8) a2)), (12, .p (i6 (((a2.length : Int))))), (13, .p (i6 (x3_1_1)))], [(6, .box 25 [.p (i6 (t22_2.N)), .p (sW t22_2.Words)])], ⟨x3_1_4, false⟩, []⟩ (And.intro (Bl b22_4) (And.intro (Bl b22_8) (And.intro ((nfa_step_okP h22_1)) (trivial)))) (by kernel_rfl) (by kernel_rfl) (by kernel_rfl) (by kernel_rfl) (hk (t22_2.N, t22_2.Words) (Option.some.inj g22))
        · rcases if_or g22 with ⟨b22_10, g22⟩ | ⟨b22_10, g22⟩
          · obtain ⟨t22_2, h22_1, g22⟩ := bind_some g22
            obtain ⟨t22_4, h22_3, g22⟩ := bind_some g22
            exact WC.drw (n := 51) hn [(21, [])] [] [(4, .val (.p (bo (false)))), (8, .val (.p (bo (false)))), (10, .val (.p (bo (true)))), (14, .val (.p (.rop ((eI .u8).cells t22_2 ++ encL (eI .u8) (a2.drop (((IntKind.i64.wrap (x3_1_1 - 1))).toNat + 1)))))), (20, .resP (.agg [i6 (t22_4.N), sW t22_4.Words]))] [0, 1, 2, 3, 4, 6, 7, 11, 12, 13] [6] ⟨[(0, .yield), (1, .p (.rop ([sC a1.Classes, i6 (a1.First.N), sW a1.First.Words, i6 (a1.Last.N), sW a1.Last.Words, sB a1.Follow, bo (a1.Null)]))), (2, .p (.rop ([slV (eI .u8) a2]))), (3, .p (.rop ([bo (a3)]))), (4, .p (.rop ([bo (a4)]))), (6, .ptr 6 0), (7, .p (i6 (x3_1_1))), (11, .p (slV (eI .u8) a2)), (12, .p (i6 (((a2.length : Int))))), (13, .p (i6 (x3_1_1)))], [(6, .box 25 [.p (i6 (t22_4.N)), .p (sW t22_4.Words)])], ⟨x3_1_4, false⟩, []⟩ (And.intro (Bl b22_4) (And.intro (Bl b22_8) (And.intro (Bl b22_10) (And.intro (Ix (eI .u8) h22_1) (And.intro ((nfa_step_okP h22_3)) (trivial)))))) (by kernel_rfl) (by kernel_rfl) (by kernel_rfl) (by kernel_rfl) (hk (t22_4.N, t22_4.Words) (Option.some.inj g22))
          · obtain ⟨t22_2, h22_1, g22⟩ := bind_some g22
            exact WC.drw (n := 51) hn [(21, [])] [] [(4, .val (.p (bo (false)))), (8, .val (.p (bo (false)))), (10, .val (.p (bo (false)))), (20, .resP (.agg [i6 (t22_2.N), sW t22_2.Words]))] [0, 1, 2, 3, 4, 6, 7, 11, 12, 13] [6] ⟨[(0, .yield), (1, .p (.rop ([sC a1.Classes, i6 (a1.First.N), sW a1.First.Words, i6 (a1.Last.N), sW a1.Last.Words, sB a1.Follow, bo (a1.Null)]))), (2, .p (.rop ([slV (eI .u8) a2]))), (3, .p (.rop ([bo (a3)]))), (4, .p (.rop ([bo (a4)]))), (6, .ptr 6 0), (7, .p (i6 (x3_1_1))), (11, .p (slV (eI .u8) a2)), (12, .p (i6 (((a2.length : Int))))), (13, .p (i6 (x3_1_1)))], [(6, .box 25 [.p (i6 (t22_2.N)), .p (sW t22_2.Words)])], ⟨x3_1_4, false⟩, []⟩ (And.intro (Bl b22_4) (And.intro (Bl b22_8) (And.intro (Bl b22_10) (And.intro ((nfa_step_okP h22_1)) (trivial))))) (by kernel_rfl) (by kernel_rfl) (by kernel_rfl) (by kernel_rfl) (hk (t22_2.N, t22_2.Words) (Option.some.inj g22))
    refine WX.seq ?_
    obtain ⟨t23_2, h23_1, h⟩ := bind_some h
    rcases if_or h with ⟨b23_4, h⟩ | ⟨b23_4, h⟩
    · obtain ⟨r23, hh23, hr23⟩ := mapO_some h
      subst hr23
      replace h := hh23
      refine WC.yld (n := 51) hn hY 8 [(3, .resP (bo (t23_2))), (4, .val (.p (bo (true))))] [0, 1, 2, 3, 4, 6, 11, 12, 13, 49] [6] (⟨[(0, .yield), (1, .p (.rop ([sC a1.Classes, i6 (a1.First.N), sW a1.First.Words, i6 (a1.Last.N), sW a1.Last.Words, sB a1.Follow, bo (a1.Null)]))), (2, .p (.rop ([slV (eI .u8) a2]))), (3, .p (.rop ([bo (a3)]))), (4, .p (.rop ([bo (a4)]))), (6, .ptr 6 0), (11, .p (slV (eI .u8) a2)), (12, .p (i6 (((a2.length : Int))))), (13, .p (i6 (x3_1_1))), (49, .p (bo (false)))], [(6, .box 25 [.p (i6 (m22_1)), .p (sW m22_2)])], ⟨(x3_1_4 ++ [[.int .i64 ((IntKind.i64.wrap (x3_1_1 + 1)))]]), false⟩, []⟩) (⟨[(0, .yield), (1, .p (.rop ([sC a1.Classes, i6 (a1.First.N), sW a1.First.Words, i6 (a1.Last.N), sW a1.Last.Words, sB a1.Follow, bo (a1.Null)]))), (2, .p (.rop ([slV (eI .u8) a2]))), (3, .p (.rop ([bo (a3)]))), (4, .p (.rop ([bo (a4)]))), (6, .ptr 6 0), (11, .p (slV (eI .u8) a2)), (12, .p (i6 (((a2.length : Int))))), (13, .p (i6 (x3_1_1))), (49, .p (bo (true)))], [(6, .box 25 [.p (i6 (m22_1)), .p (sW m22_2)])], ⟨(x3_1_4 ++ [[.int .i64 ((IntKind.i64.wrap (x3_1_1 + 1)))]]), true⟩, []⟩) x3_1_4 [.int .i64 ((IntKind.i64.wrap (x3_1_1 + 1)))] (And.intro (And.intro ((bits_Meet_ok h23_1)) (And.intro (Bl b23_4) (True.intro))) (And.intro True.intro True.intro)) (by kernel_rfl) (pre_ok (val := (fun x : Int => ([.int .i64 x] : List Value))) (x := (IntKind.i64.wrap (x3_1_1 + 1))) (l := r23) hL) ?_ ?_
      · replace hL : (x3_1_4 ++ [[.int .i64 ((IntKind.i64.wrap (x3_1_1 + 1)))]]) ++ r23.map (fun x : Int => ([.int .i64 x] : List Value)) = L := by rw [← hL]; simp
        refine WC.condF rfl (by kernel_rfl) ?_
        refine WX.skip ?_
        refine WX.popBlk ?_
        refine WC.reg (n := 51) hn [] [0, 1, 2, 3, 4, 6, 11, 12, 13] [6] ⟨[(0, .yield), (1, .p (.rop ([sC a1.Classes, i6 (a1.First.N), sW a1.First.Words, i6 (a1.Last.N), sW a1.Last.Words, sB a1.Follow, bo (a1.Null)]))), (2, .p (.rop ([slV (eI .u8) a2]))), (3, .p (.rop ([bo (a3)]))), (4, .p (.rop ([bo (a4)]))), (6, .ptr 6 0), (11, .p (slV (eI .u8) a2)), (12, .p (i6 (((a2.length : Int))))), (13, .p (i6 (((IntKind.i64.wrap (x3_1_1 + 1))))))], [(6, .box 25 [.p (i6 (m22_1)), .p (sW m22_2)])], ⟨(x3_1_4 ++ [[.int .i64 ((IntKind.i64.wrap (x3_1_1 + 1)))]]), false⟩, []⟩ trivial (by kernel_rfl) ?_
        exact WC.next [0, 1, 2, 3, 4, 6, 11, 12, 13] [6] (by kernel_rfl) (hnext3 ((IntKind.i64.wrap (x3_1_1 + 1)), m22_1, m22_2, (x3_1_4 ++ [[.int .i64 ((IntKind.i64.wrap (x3_1_1 + 1)))]])) (by rw [h]; exact congrArg some hL))
      · refine WC.condT rfl (by kernel_rfl) ?_
        refine WX.ret ?_
        refine WC.ret_all (hexit3 _ _ (by simp) ?_)
        exact WC.ret_all ⟨by kernel_rfl, fun h => by cases h⟩
    · refine WC.reg (n := 51) hn [(3, .resP (bo (t23_2))), (4, .val (.p (bo (false))))] [0, 1, 2, 3, 4, 6, 11, 12, 13, 49] [6] ⟨[(0, .yield), (1, .p (.rop ([sC a1.Classes, i6 (a1.First.N), sW a1.First.Words, i6 (a1.Last.N), sW a1.Last.Words, sB a1.Follow, bo (a1.Null)]))), (2, .p (.rop ([slV (eI .u8) a2]))), (3, .p (.rop ([bo (a3)]))), (4, .p (.rop ([bo (a4)]))), (6, .ptr 6 0), (11, .p (slV (eI .u8) a2)), (12, .p (i6 (((a2.length : Int))))), (13, .p (i6 (x3_1_1))), (49, .p (bo (false)))], [(6, .box 25 [.p (i6 (m22_1)), .p (sW m22_2)])], ⟨x3_1_4, false⟩, []⟩ (And.intro ((bits_Meet_ok h23_1)) (And.intro (Bl b23_4) (trivial))) (by kernel_rfl) ?_
      refine WC.condF rfl (by kernel_rfl) ?_
      refine WX.skip ?_
      refine WX.popBlk ?_
      refine WC.reg (n := 51) hn [] [0, 1, 2, 3, 4, 6, 11, 12, 13] [6] ⟨[(0, .yield), (1, .p (.rop ([sC a1.Classes, i6 (a1.First.N), sW a1.First.Words, i6 (a1.Last.N), sW a1.Last.Words, sB a1.Follow, bo (a1.Null)]))), (2, .p (.rop ([slV (eI .u8) a2]))), (3, .p (.rop ([bo (a3)]))), (4, .p (.rop ([bo (a4)]))), (6, .ptr 6 0), (11, .p (slV (eI .u8) a2)), (12, .p (i6 (((a2.length : Int))))), (13, .p (i6 (((IntKind.i64.wrap (x3_1_1 + 1))))))], [(6, .box 25 [.p (i6 (m22_1)), .p (sW m22_2)])], ⟨x3_1_4, false⟩, []⟩ trivial (by kernel_rfl) ?_
      exact WC.next [0, 1, 2, 3, 4, 6, 11, 12, 13] [6] (by kernel_rfl) (hnext3 ((IntKind.i64.wrap (x3_1_1 + 1)), m22_1, m22_2, x3_1_4) (by rw [h]; exact congrArg some hL))
  · refine WC.condF c20 (by kernel_rfl) ?_
    refine WX.exit ?_
    refine WX.popCodeExit ?_
    refine WC.exit_nil (hexit3 _ _ (by simp) ?_)
    refine WX.popBlkHit ?_
    obtain rfl := Option.some.inj h
    exact WC.exit_nil ⟨by kernel_rfl, fun _ => by simpa using hL⟩
def riddlelaw11_events_l0 (k : Nat) : List Int → List Int → Option ((List Int))
  | [], x6_1_1 => some x6_1_1
  | x6 :: xs6, x6_1_1 => (if okApp 8 (x6_1_1.length + ([x6]).length) then riddlelaw11_events_l0 k xs6 (x6_1_1 ++ ([x6])) else none)
def riddlelaw11_events (k : Nat) (a0 : api_Nfa) (a1 : (List Int)) (a2 : Bool) (a3 : Bool) : Option ((List Int)) :=
  (nfa_Events k a0 a1 a2 a3).bind fun t3_2 => (nfa_Events_1_v1 k t3_2.1 t3_2.2.1 t3_2.2.2.1 t3_2.2.2.2).bind fun l6 => riddlelaw11_events_l0 k l6 (([] : List Int))
theorem riddlelaw11_events_ok {k : Nat} {a0 : api_Nfa} {a1 : (List Int)} {a2 : Bool} {a3 : Bool} {r : (List Int)} (h : riddlelaw11_events k a0 a1 a2 a3 = some r) : AnsO Tryd.prog 13 [] [.p (.agg [sC a0.Classes, i6 (a0.First.N), sW a0.First.Words, i6 (a0.Last.N), sW a0.Last.Words, sB a0.Follow, bo (a0.Null)]), .p (slV (eI .u8) a1), .p (bo (a2)), .p (bo (a3))] [(24, rowV 3 (eI .i64) r)] (.own 24) := by
  refine W_fnO [24] Tryd.func13 rfl (by kernel_rfl) (by kernel_rfl) (by kernel_rfl) (by kernel_rfl) ?_
  intro X hro hn
  unfold riddlelaw11_events at h
  refine WX.seq ?_
  refine WC.reg (n := 26) hn [] [1, 2, 3, 4] [4] ⟨[(1, .p (slV (eI .u8) a1)), (2, .p (bo (a2))), (3, .p (bo (a3))), (4, .ptr 4 0)], [(4, .box 28 [.p (sC a0.Classes), .p (i6 (a0.First.N)), .p (sW a0.First.Words), .p (i6 (a0.Last.N)), .p (sW a0.Last.Words), .p (sB a0.Follow), .p (bo (a0.Null))])], ⟨[], false⟩, []⟩ trivial (by kernel_rfl) ?_
  refine WX.seq ?_
  refine WC.reg (n := 26) hn [] [1, 2, 3, 4, 9] [4, 9] ⟨[(1, .p (slV (eI .u8) a1)), (2, .p (bo (a2))), (3, .p (bo (a3))), (4, .ptr 4 0), (9, .ptr 9 0)], [(4, .box 28 [.p (sC a0.Classes), .p (i6 (a0.First.N)), .p (sW a0.First.Words), .p (i6 (a0.Last.N)), .p (sW a0.Last.Words), .p (sB a0.Follow), .p (bo (a0.Null))]), (9, .box 35 [.p (.sl .nil 0 [])])], ⟨[], false⟩, []⟩ trivial (by kernel_rfl) ?_
  refine WX.seq ?_
  obtain ⟨t3_2, h3_1, h⟩ := bind_some h
  refine WC.reg (n := 26) hn [(4, .resP (.fn 74 [.rop ([sC t3_2.1.Classes, i6 (t3_2.1.First.N), sW t3_2.1.First.Words, i6 (t3_2.1.Last.N), sW t3_2.1.Last.Words, sB t3_2.1.Follow, bo (t3_2.1.Null)]), .rop ([slV (eI .u8) t3_2.2.1]), .rop ([bo (t3_2.2.2.1)]), .rop ([bo (t3_2.2.2.2)])]))] [9, 10] [9] ⟨[(9, .ptr 9 0), (10, .p (.fn 74 [.rop ([sC t3_2.1.Classes, i6 (t3_2.1.First.N), sW t3_2.1.First.Words, i6 (t3_2.1.Last.N), sW t3_2.1.Last.Words, sB t3_2.1.Follow, bo (t3_2.1.Null)]), .rop ([slV (eI .u8) t3_2.2.1]), .rop ([bo (t3_2.2.2.1)]), .rop ([bo (t3_2.2.2.2)])]))], [(9, .box 35 [.p (.sl .nil 0 [])])], ⟨[], false⟩, []⟩ (And.intro ((nfa_Events_ok h3_1)) (trivial)) (by kernel_rfl) ?_
  refine WX.seq ?_
  refine WX.seq ?_
  refine WC.reg (n := 26) hn [] [9, 10, 18] [9] ⟨[(9, .ptr 9 0), (10, .p (.fn 74 [.rop ([sC t3_2.1.Classes, i6 (t3_2.1.First.N), sW t3_2.1.First.Words, i6 (t3_2.1.Last.N), sW t3_2.1.Last.Words, sB t3_2.1.Follow, bo (t3_2.1.Null)]), .rop ([slV (eI .u8) t3_2.2.1]), .rop ([bo (t3_2.2.2.1)]), .rop ([bo (t3_2.2.2.2)])])), (18, .p (bo (false)))], [(9, .box 35 [.p (.sl .nil 0 [])])], ⟨[], false⟩, []⟩ trivial (by kernel_rfl) ?_
  refine WC.condF rfl (by kernel_rfl) ?_
  refine WX.skip ?_
  refine WX.seq ?_
  refine WX.seq ?_
  refine WC.reg (n := 26) hn [] [9, 19] [9] ⟨[(9, .ptr 9 0), (19, .p (.fn 74 [.rop ([sC t3_2.1.Classes, i6 (t3_2.1.First.N), sW t3_2.1.First.Words, i6 (t3_2.1.Last.N), sW t3_2.1.Last.Words, sB t3_2.1.Follow, bo (t3_2.1.Null)]), .rop ([slV (eI .u8) t3_2.2.1]), .rop ([bo (t3_2.2.2.1)]), .rop ([bo (t3_2.2.2.2)])]))], [(9, .box 35 [.p (.sl .nil 0 [])])], ⟨[], false⟩, []⟩ trivial (by kernel_rfl) ?_
  refine WX.block ?_
  obtain ⟨l6, hI6, h⟩ := bind_some h
  refine WC.nil (n := 26) hn [] (some (9, 0)) 24 3 1 (by kernel_rfl) [9, 19] [9, 24] (st' := ⟨[(9, .ptr 9 0), (19, .p (.fn 74 [.rop ([sC t3_2.1.Classes, i6 (t3_2.1.First.N), sW t3_2.1.First.Words, i6 (t3_2.1.Last.N), sW t3_2.1.Last.Words, sB t3_2.1.Follow, bo (t3_2.1.Null)]), .rop ([slV (eI .u8) t3_2.2.1]), .rop ([bo (t3_2.2.2.1)]), .rop ([bo (t3_2.2.2.2)])]))], [(9, .box 35 [.own 24]), (24, rowV 3 (eI .i64) (([] : List Int)))], ⟨[], false⟩, []⟩) (by kernel_rfl) ?_
  refine WC.range (V := List Int) (n := 26) hn (riddlelaw11_events_l0 k) r (fun v6 => ⟨[(9, .ptr 9 0), (19, .p (.fn 74 [.rop ([sC t3_2.1.Classes, i6 (t3_2.1.First.N), sW t3_2.1.First.Words, i6 (t3_2.1.Last.N), sW t3_2.1.Last.Words, sB t3_2.1.Follow, bo (t3_2.1.Null)]), .rop ([slV (eI .u8) t3_2.2.1]), .rop ([bo (t3_2.2.2.1)]), .rop ([bo (t3_2.2.2.2)])]))], [(9, .box 35 [.own 24]), (24, rowV 3 (eI .i64) v6)], ⟨[], false⟩, []⟩) (fun x6 v6 => ⟨[(9, .ptr 9 0), (11, .p (i6 (x6))), (19, .p (.fn 74 [.rop ([sC t3_2.1.Classes, i6 (t3_2.1.First.N), sW t3_2.1.First.Words, i6 (t3_2.1.Last.N), sW t3_2.1.Last.Words, sB t3_2.1.Follow, bo (t3_2.1.Null)]), .rop ([slV (eI .u8) t3_2.2.1]), .rop ([bo (t3_2.2.2.1)]), .rop ([bo (t3_2.2.2.2)])])), (20, .p (i6 (x6)))], [(9, .box 35 [.own 24]), (24, rowV 3 (eI .i64) v6)], ⟨[], false⟩, [[(9, .ptr 9 0), (19, .p (.fn 74 [.rop ([sC t3_2.1.Classes, i6 (t3_2.1.First.N), sW t3_2.1.First.Words, i6 (t3_2.1.Last.N), sW t3_2.1.Last.Words, sB t3_2.1.Follow, bo (t3_2.1.Null)]), .rop ([slV (eI .u8) t3_2.2.1]), .rop ([bo (t3_2.2.2.1)]), .rop ([bo (t3_2.2.2.2)])]))]]⟩) (fun x : Int => ([.int .i64 x] : List Value)) l6 (([] : List Int)) h [9, 19] [9, 24] (by kernel_rfl) (fun v6 => .p (.fn 74 [.rop ([sC t3_2.1.Classes, i6 (t3_2.1.First.N), sW t3_2.1.First.Words, i6 (t3_2.1.Last.N), sW t3_2.1.Last.Words, sB t3_2.1.Follow, bo (t3_2.1.Null)]), .rop ([slV (eI .u8) t3_2.2.1]), .rop ([bo (t3_2.2.2.1)]), .rop ([bo (t3_2.2.2.2)])])) (fun v6 => by kernel_rfl) (by kernel_rfl) (nfa_Events_1_v1_it hI6) (by kernel_rfl) (fun v6 => by kernel_rfl) (fun x => ⟨rfl, rfl⟩) ?_ ?_ ?_
  · clear h; rintro x6_1_1 h
    rw [riddlelaw11_events_l0] at h
    refine WX.popBlk ?_
    refine WX.seq ?_
    refine WC.reg (n := 26) hn [] [8] [24] ⟨[(8, .own 24)], [(24, rowV 3 (eI .i64) x6_1_1)], ⟨[], false⟩, []⟩ trivial (by kernel_rfl) ?_
    refine WX.ret ?_
    exact WC.outO (by rw [← Option.some.inj h]; kernel_rfl)
  · clear h; intro X hn x6; rintro x6_1_1
    refine WC.reg (n := 26) hn [] [9, 11, 19, 20] [9, 24] ⟨[(9, .ptr 9 0), (11, .p (i6 (x6))), (19, .p (.fn 74 [.rop ([sC t3_2.1.Classes, i6 (t3_2.1.First.N), sW t3_2.1.First.Words, i6 (t3_2.1.Last.N), sW t3_2.1.Last.Words, sB t3_2.1.Follow, bo (t3_2.1.Null)]), .rop ([slV (eI .u8) t3_2.2.1]), .rop ([bo (t3_2.2.2.1)]), .rop ([bo (t3_2.2.2.2)])])), (20, .p (i6 (x6)))], [(9, .box 35 [.own 24]), (24, rowV 3 (eI .i64) x6_1_1)], ⟨[], false⟩, [[(9, .ptr 9 0), (19, .p (.fn 74 [.rop ([sC t3_2.1.Classes, i6 (t3_2.1.First.N), sW t3_2.1.First.Words, i6 (t3_2.1.Last.N), sW t3_2.1.Last.Words, sB t3_2.1.Follow, bo (t3_2.1.Null)]), .rop ([slV (eI .u8) t3_2.2.1]), .rop ([bo (t3_2.2.2.1)]), .rop ([bo (t3_2.2.2.2)])]))]]⟩ trivial (by kernel_rfl) ?_
    exact WC.exit_nil ⟨rfl, rfl⟩
  · clear h; intro X hn x6 xs6; rintro x6_1_1 h K6 hnext6 hexit6
    rw [riddlelaw11_events_l0] at h
    refine WX.block ?_
    obtain ⟨c15_1, h⟩ := if_some h
    refine WC.reg (n := 26) hn [(3, .app (some 24) (rowV 3 (eI .i64) (x6_1_1 ++ ([x6]))))] [] [9, 24] ⟨[], [(9, .box 35 [.own 24]), (24, rowV 3 (eI .i64) (x6_1_1 ++ ([x6])))], ⟨[], false⟩, [[(9, .ptr 9 0), (19, .p (.fn 74 [.rop ([sC t3_2.1.Classes, i6 (t3_2.1.First.N), sW t3_2.1.First.Words, i6 (t3_2.1.Last.N), sW t3_2.1.Last.Words, sB t3_2.1.Follow, bo (t3_2.1.Null)]), .rop ([slV (eI .u8) t3_2.2.1]), .rop ([bo (t3_2.2.2.1)]), .rop ([bo (t3_2.2.2.2)])]))]]⟩ (And.intro (Ap (eI .i64) (some 24) 3 8 1 x6_1_1 ([x6]) c15_1) (trivial)) (by kernel_rfl) ?_
    refine WX.popBlk ?_
    refine WC.keep [] [9, 24] (st' := ⟨[], [(9, .box 35 [.own 24]), (24, rowV 3 (eI .i64) (x6_1_1 ++ ([x6])))], ⟨[], false⟩, [[(9, .ptr 9 0), (19, .p (.fn 74 [.rop ([sC t3_2.1.Classes, i6 (t3_2.1.First.N), sW t3_2.1.First.Words, i6 (t3_2.1.Last.N), sW t3_2.1.Last.Words, sB t3_2.1.Follow, bo (t3_2.1.Null)]), .rop ([slV (eI .u8) t3_2.2.1]), .rop ([bo (t3_2.2.2.1)]), .rop ([bo (t3_2.2.2.2)])]))]]⟩) (by kernel_rfl) ?_
    exact WC.nextR [] [9, 24] (s := ⟨[], [(9, .box 35 [.own 24]), (24, rowV 3 (eI .i64) (x6_1_1 ++ ([x6])))], ⟨[], false⟩, [[(9, .ptr 9 0), (19, .p (.fn 74 [.rop ([sC t3_2.1.Classes, i6 (t3_2.1.First.N), sW t3_2.1.First.Words, i6 (t3_2.1.Last.N), sW t3_2.1.Last.Words, sB t3_2.1.Follow, bo (t3_2.1.Null)]), .rop ([slV (eI .u8) t3_2.2.1]), .rop ([bo (t3_2.2.2.1)]), .rop ([bo (t3_2.2.2.2)])]))]]⟩) (by kernel_rfl) rfl (fun s hb => hnext6 (x6_1_1 ++ ([x6])) s h hb)
theorem riddlelaw11_events_okP {k : Nat} {a0 : api_Nfa} {a1 : (List Int)} {a2 : Bool} {a3 : Bool} {r : (List Int)} (h : riddlelaw11_events k a0 a1 a2 a3 = some r) : Ans Tryd.prog 13 [.agg [sC a0.Classes, i6 (a0.First.N), sW a0.First.Words, i6 (a0.Last.N), sW a0.Last.Words, sB a0.Follow, bo (a0.Null)], slV (eI .u8) a1, bo (a2), bo (a3)] (slV (eI .i64) r) := AnsO.ans (args := [.agg [sC a0.Classes, i6 (a0.First.N), sW a0.First.Words, i6 (a0.Last.N), sW a0.Last.Words, sB a0.Follow, bo (a0.Null)], slV (eI .u8) a1, bo (a2), bo (a3)]) (riddlelaw11_events_ok h) (by kernel_rfl)
def riddleref05_bare (a0 : api_Node) : Option (api_Node) :=
  (if (a0.Kind == 2) = true then some ((api_Node.mk a0.Kind a0.Class 0 0 0 0 false)) else jn (fun (v9 : Bool) => (if v9 = true then some ((api_Node.mk a0.Kind ((Arr4.mk 0 0 0 0)) a0.A a0.B 0 0 false)) else (if (a0.Kind == 5) = true then some ((api_Node.mk a0.Kind ((Arr4.mk 0 0 0 0)) a0.A 0 a0.Least a0.Most a0.Lazy)) else some ((api_Node.mk a0.Kind ((Arr4.mk 0 0 0 0)) 0 0 0 0 false))))) fun J9 => (if (a0.Kind == 3) = true then J9 ((a0.Kind == 3)) else J9 ((a0.Kind == 4))))
theorem riddleref05_bare_ok {a0 : api_Node} {r : api_Node} (h : riddleref05_bare a0 = some r) : Ans Tryd.prog 127 [.agg [i6 (a0.Kind), .s (.int .u64 a0.Class.a0), .s (.int .u64 a0.Class.a1), .s (.int .u64 a0.Class.a2), .s (.int .u64 a0.Class.a3), i6 (a0.A), i6 (a0.B), i6 (a0.Least), i6 (a0.Most), bo (a0.Lazy)]] (.agg [i6 (r.Kind), .s (.int .u64 r.Class.a0), .s (.int .u64 r.Class.a1), .s (.int .u64 r.Class.a2), .s (.int .u64 r.Class.a3), i6 (r.A), i6 (r.B), i6 (r.Least), i6 (r.Most), bo (r.Lazy)]) := by
  refine W_fn Tryd.func127 rfl (by kernel_rfl) (by kernel_rfl) ?_
  intro X hro hn
  unfold riddleref05_bare at h
  refine WX.seq ?_
  refine WC.reg (n := 38) hn [] [1, 2] [1, 2] ⟨[(1, .ptr 1 0), (2, .ptr 2 0)], [(1, .box 73 [.p (i6 (a0.Kind)), .p (.s (.int .u64 a0.Class.a0)), .p (.s (.int .u64 a0.Class.a1)), .p (.s (.int .u64 a0.Class.a2)), .p (.s (.int .u64 a0.Class.a3)), .p (i6 (a0.A)), .p (i6 (a0.B)), .p (i6 (a0.Least)), .p (i6 (a0.Most)), .p (bo (a0.Lazy))]), (2, .box 73 [.p (i6 (0)), .p (.s (.int .u64 0)), .p (.s (.int .u64 0)), .p (.s (.int .u64 0)), .p (.s (.int .u64 0)), .p (i6 (0)), .p (i6 (0)), .p (i6 (0)), .p (i6 (0)), .p (bo (false))])], ⟨[], false⟩, []⟩ trivial (by kernel_rfl) ?_
  refine WX.seq ?_
  refine WC.reg (n := 38) hn [] [1, 2, 3] [1, 2, 3] ⟨[(1, .ptr 1 0), (2, .ptr 2 0), (3, .ptr 3 0)], [(1, .box 73 [.p (i6 (a0.Kind)), .p (.s (.int .u64 a0.Class.a0)), .p (.s (.int .u64 a0.Class.a1)), .p (.s (.int .u64 a0.Class.a2)), .p (.s (.int .u64 a0.Class.a3)), .p (i6 (a0.A)), .p (i6 (a0.B)), .p (i6 (a0.Least)), .p (i6 (a0.Most)), .p (bo (a0.Lazy))]), (2, .box 73 [.p (i6 (0)), .p (.s (.int .u64 0)), .p (.s (.int .u64 0)), .p (.s (.int .u64 0)), .p (.s (.int .u64 0)), .p (i6 (0)), .p (i6 (0)), .p (i6 (0)), .p (i6 (0)), .p (bo (false))]), (3, .box 73 [.p (i6 (a0.Kind)), .p (.s (.int .u64 0)), .p (.s (.int .u64 0)), .p (.s (.int .u64 0)), .p (.s (.int .u64 0)), .p (i6 (0)), .p (i6 (0)), .p (i6 (0)), .p (i6 (0)), .p (bo (false))])], ⟨[], false⟩, []⟩ trivial (by kernel_rfl) ?_
  refine WX.seq ?_
  refine WX.seq ?_
  refine WC.reg (n := 38) hn [] [1, 2, 3, 8] [1, 2, 3] ⟨[(1, .ptr 1 0), (2, .ptr 2 0), (3, .ptr 3 0), (8, .p (i6 (a0.Kind)))], [(1, .box 73 [.p (i6 (a0.Kind)), .p (.s (.int .u64 a0.Class.a0)), .p (.s (.int .u64 a0.Class.a1)), .p (.s (.int .u64 a0.Class.a2)), .p (.s (.int .u64 a0.Class.a3)), .p (i6 (a0.A)), .p (i6 (a0.B)), .p (i6 (a0.Least)), .p (i6 (a0.Most)), .p (bo (a0.Lazy))]), (2, .box 73 [.p (i6 (0)), .p (.s (.int .u64 0)), .p (.s (.int .u64 0)), .p (.s (.int .u64 0)), .p (.s (.int .u64 0)), .p (i6 (0)), .p (i6 (0)), .p (i6 (0)), .p (i6 (0)), .p (bo (false))]), (3, .box 73 [.p (i6 (a0.Kind)), .p (.s (.int .u64 0)), .p (.s (.int .u64 0)), .p (.s (.int .u64 0)), .p (.s (.int .u64 0)), .p (i6 (0)), .p (i6 (0)), .p (i6 (0)), .p (i6 (0)), .p (bo (false))])], ⟨[], false⟩, []⟩ trivial (by kernel_rfl) ?_
  refine WX.block ?_
  refine WX.seq ?_
  refine WC.reg (n := 38) hn [] [1, 2, 3, 8, 9] [1, 2, 3] ⟨[(1, .ptr 1 0), (2, .ptr 2 0), (3, .ptr 3 0), (8, .p (i6 (a0.Kind))), (9, .p (bo (((a0.Kind == 2)))))], [(1, .box 73 [.p (i6 (a0.Kind)), .p (.s (.int .u64 a0.Class.a0)), .p (.s (.int .u64 a0.Class.a1)), .p (.s (.int .u64 a0.Class.a2)), .p (.s (.int .u64 a0.Class.a3)), .p (i6 (a0.A)), .p (i6 (a0.B)), .p (i6 (a0.Least)), .p (i6 (a0.Most)), .p (bo (a0.Lazy))]), (2, .box 73 [.p (i6 (0)), .p (.s (.int .u64 0)), .p (.s (.int .u64 0)), .p (.s (.int .u64 0)), .p (.s (.int .u64 0)), .p (i6 (0)), .p (i6 (0)), .p (i6 (0)), .p (i6 (0)), .p (bo (false))]), (3, .box 73 [.p (i6 (a0.Kind)), .p (.s (.int .u64 0)), .p (.s (.int .u64 0)), .p (.s (.int .u64 0)), .p (.s (.int .u64 0)), .p (i6 (0)), .p (i6 (0)), .p (i6 (0)), .p (i6 (0)), .p (bo (false))])], ⟨[], false⟩, []⟩ trivial (by kernel_rfl) ?_
  rcases if_or h with ⟨c5, h⟩ | ⟨c5, h⟩
  · refine WC.condT c5 (by kernel_rfl) ?_
    refine WC.reg (n := 38) hn [] [2, 3] [2, 3] ⟨[(2, .ptr 2 0), (3, .ptr 3 0)], [(2, .box 73 [.p (i6 (0)), .p (.s (.int .u64 0)), .p (.s (.int .u64 0)), .p (.s (.int .u64 0)), .p (.s (.int .u64 0)), .p (i6 (0)), .p (i6 (0)), .p (i6 (0)), .p (i6 (0)), .p (bo (false))]), (3, .box 73 [.p (i6 (a0.Kind)), .p (.s (.int .u64 a0.Class.a0)), .p (.s (.int .u64 a0.Class.a1)), .p (.s (.int .u64 a0.Class.a2)), .p (.s (.int .u64 a0.Class.a3)), .p (i6 (0)), .p (i6 (0)), .p (i6 (0)), .p (i6 (0)), .p (bo (false))])], ⟨[], false⟩, []⟩ trivial (by kernel_rfl) ?_
    refine WX.popBlk ?_
    refine WX.seq ?_
    refine WC.reg (n := 38) hn [] [2] [2] ⟨[(2, .ptr 2 0)], [(2, .box 73 [.p (i6 (a0.Kind)), .p (.s (.int .u64 a0.Class.a0)), .p (.s (.int .u64 a0.Class.a1)), .p (.s (.int .u64 a0.Class.a2)), .p (.s (.int .u64 a0.Class.a3)), .p (i6 (0)), .p (i6 (0)), .p (i6 (0)), .p (i6 (0)), .p (bo (false))])], ⟨[], false⟩, []⟩ trivial (by kernel_rfl) ?_
    refine WX.ret ?_
    exact WC.outP (by rw [← Option.some.inj h]; kernel_rfl)
  · refine WC.condF c5 (by kernel_rfl) ?_
    refine WX.seq ?_
    refine WX.seq ?_
    refine WC.reg (n := 38) hn [] [1, 2, 3, 8, 14] [1, 2, 3] ⟨[(1, .ptr 1 0), (2, .ptr 2 0), (3, .ptr 3 0), (8, .p (i6 (a0.Kind))), (14, .p (bo (((a0.Kind == 3)))))], [(1, .box 73 [.p (i6 (a0.Kind)), .p (.s (.int .u64 a0.Class.a0)), .p (.s (.int .u64 a0.Class.a1)), .p (.s (.int .u64 a0.Class.a2)), .p (.s (.int .u64 a0.Class.a3)), .p (i6 (a0.A)), .p (i6 (a0.B)), .p (i6 (a0.Least)), .p (i6 (a0.Most)), .p (bo (a0.Lazy))]), (2, .box 73 [.p (i6 (0)), .p (.s (.int .u64 0)), .p (.s (.int .u64 0)), .p (.s (.int .u64 0)), .p (.s (.int .u64 0)), .p (i6 (0)), .p (i6 (0)), .p (i6 (0)), .p (i6 (0)), .p (bo (false))]), (3, .box 73 [.p (i6 (a0.Kind)), .p (.s (.int .u64 0)), .p (.s (.int .u64 0)), .p (.s (.int .u64 0)), .p (.s (.int .u64 0)), .p (i6 (0)), .p (i6 (0)), .p (i6 (0)), .p (i6 (0)), .p (bo (false))])], ⟨[], false⟩, []⟩ trivial (by kernel_rfl) ?_
    obtain ⟨J9, eJ9, h⟩ := jn_some h
    try dsimp only at h
    refine WC.join (α := Bool) (fun v9 => ⟨[(1, .ptr 1 0), (2, .ptr 2 0), (3, .ptr 3 0), (8, .p (i6 (a0.Kind))), (14, .p (bo (v9)))], [(1, .box 73 [.p (i6 (a0.Kind)), .p (.s (.int .u64 a0.Class.a0)), .p (.s (.int .u64 a0.Class.a1)), .p (.s (.int .u64 a0.Class.a2)), .p (.s (.int .u64 a0.Class.a3)), .p (i6 (a0.A)), .p (i6 (a0.B)), .p (i6 (a0.Least)), .p (i6 (a0.Most)), .p (bo (a0.Lazy))]), (2, .box 73 [.p (i6 (0)), .p (.s (.int .u64 0)), .p (.s (.int .u64 0)), .p (.s (.int .u64 0)), .p (.s (.int .u64 0)), .p (i6 (0)), .p (i6 (0)), .p (i6 (0)), .p (i6 (0)), .p (bo (false))]), (3, .box 73 [.p (i6 (a0.Kind)), .p (.s (.int .u64 0)), .p (.s (.int .u64 0)), .p (.s (.int .u64 0)), .p (.s (.int .u64 0)), .p (i6 (0)), .p (i6 (0)), .p (i6 (0)), .p (i6 (0)), .p (bo (false))])], ⟨[], false⟩, []⟩) (fun v9 => J9 v9 = some r) ?_ (fun hJ9 => ?_)
    · rintro y9_1 h
      rw [eJ9] at h
      try dsimp only at h
      rcases if_or h with ⟨c12, h⟩ | ⟨c12, h⟩
      · refine WC.condT c12 (by kernel_rfl) ?_
        refine WX.seq ?_
        refine WC.reg (n := 38) hn [] [1, 2, 3] [1, 2, 3] ⟨[(1, .ptr 1 0), (2, .ptr 2 0), (3, .ptr 3 0)], [(1, .box 73 [.p (i6 (a0.Kind)), .p (.s (.int .u64 a0.Class.a0)), .p (.s (.int .u64 a0.Class.a1)), .p (.s (.int .u64 a0.Class.a2)), .p (.s (.int .u64 a0.Class.a3)), .p (i6 (a0.A)), .p (i6 (a0.B)), .p (i6 (a0.Least)), .p (i6 (a0.Most)), .p (bo (a0.Lazy))]), (2, .box 73 [.p (i6 (0)), .p (.s (.int .u64 0)), .p (.s (.int .u64 0)), .p (.s (.int .u64 0)), .p (.s (.int .u64 0)), .p (i6 (0)), .p (i6 (0)), .p (i6 (0)), .p (i6 (0)), .p (bo (false))]), (3, .box 73 [.p (i6 (a0.Kind)), .p (.s (.int .u64 0)), .p (.s (.int .u64 0)), .p (.s (.int .u64 0)), .p (.s (.int .u64 0)), .p (i6 (a0.A)), .p (i6 (0)), .p (i6 (0)), .p (i6 (0)), .p (bo (false))])], ⟨[], false⟩, []⟩ trivial (by kernel_rfl) ?_
        refine WC.reg (n := 38) hn [] [2, 3] [2, 3] ⟨[(2, .ptr 2 0), (3, .ptr 3 0)], [(2, .box 73 [.p (i6 (0)), .p (.s (.int .u64 0)), .p (.s (.int .u64 0)), .p (.s (.int .u64 0)), .p (.s (.int .u64 0)), .p (i6 (0)), .p (i6 (0)), .p (i6 (0)), .p (i6 (0)), .p (bo (false))]), (3, .box 73 [.p (i6 (a0.Kind)), .p (.s (.int .u64 0)), .p (.s (.int .u64 0)), .p (.s (.int .u64 0)), .p (.s (.int .u64 0)), .p (i6 (a0.A)), .p (i6 (a0.B)), .p (i6 (0)), .p (i6 (0)), .p (bo (false))])], ⟨[], false⟩, []⟩ trivial (by kernel_rfl) ?_
        refine WX.popBlk ?_
        refine WX.seq ?_
        refine WC.reg (n := 38) hn [] [2] [2] ⟨[(2, .ptr 2 0)], [(2, .box 73 [.p (i6 (a0.Kind)), .p (.s (.int .u64 0)), .p (.s (.int .u64 0)), .p (.s (.int .u64 0)), .p (.s (.int .u64 0)), .p (i6 (a0.A)), .p (i6 (a0.B)), .p (i6 (0)), .p (i6 (0)), .p (bo (false))])], ⟨[], false⟩, []⟩ trivial (by kernel_rfl) ?_
        refine WX.ret ?_
        exact WC.outP (by rw [← Option.some.inj h]; kernel_rfl)
      · refine WC.condF c12 (by kernel_rfl) ?_
        refine WX.seq ?_
        refine WC.reg (n := 38) hn [] [1, 2, 3, 23] [1, 2, 3] ⟨[(1, .ptr 1 0), (2, .ptr 2 0), (3, .ptr 3 0), (23, .p (bo (((a0.Kind == 5)))))], [(1, .box 73 [.p (i6 (a0.Kind)), .p (.s (.int .u64 a0.Class.a0)), .p (.s (.int .u64 a0.Class.a1)), .p (.s (.int .u64 a0.Class.a2)), .p (.s (.int .u64 a0.Class.a3)), .p (i6 (a0.A)), .p (i6 (a0.B)), .p (i6 (a0.Least)), .p (i6 (a0.Most)), .p (bo (a0.Lazy))]), (2, .box 73 [.p (i6 (0)), .p (.s (.int .u64 0)), .p (.s (.int .u64 0)), .p (.s (.int .u64 0)), .p (.s (.int .u64 0)), .p (i6 (0)), .p (i6 (0)), .p (i6 (0)), .p (i6 (0)), .p (bo (false))]), (3, .box 73 [.p (i6 (a0.Kind)), .p (.s (.int .u64 0)), .p (.s (.int .u64 0)), .p (.s (.int .u64 0)), .p (.s (.int .u64 0)), .p (i6 (0)), .p (i6 (0)), .p (i6 (0)), .p (i6 (0)), .p (bo (false))])], ⟨[], false⟩, []⟩ trivial (by kernel_rfl) ?_
        rcases if_or h with ⟨c17, h⟩ | ⟨c17, h⟩
        · refine WC.condT c17 (by kernel_rfl) ?_
          refine WX.seq ?_
          refine WC.reg (n := 38) hn [] [1, 2, 3] [1, 2, 3] ⟨[(1, .ptr 1 0), (2, .ptr 2 0), (3, .ptr 3 0)], [(1, .box 73 [.p (i6 (a0.Kind)), .p (.s (.int .u64 a0.Class.a0)), .p (.s (.int .u64 a0.Class.a1)), .p (.s (.int .u64 a0.Class.a2)), .p (.s (.int .u64 a0.Class.a3)), .p (i6 (a0.A)), .p (i6 (a0.B)), .p (i6 (a0.Least)), .p (i6 (a0.Most)), .p (bo (a0.Lazy))]), (2, .box 73 [.p (i6 (0)), .p (.s (.int .u64 0)), .p (.s (.int .u64 0)), .p (.s (.int .u64 0)), .p (.s (.int .u64 0)), .p (i6 (0)), .p (i6 (0)), .p (i6 (0)), .p (i6 (0)), .p (bo (false))]), (3, .box 73 [.p (i6 (a0.Kind)), .p (.s (.int .u64 0)), .p (.s (.int .u64 0)), .p (.s (.int .u64 0)), .p (.s (.int .u64 0)), .p (i6 (a0.A)), .p (i6 (0)), .p (i6 (0)), .p (i6 (0)), .p (bo (false))])], ⟨[], false⟩, []⟩ trivial (by kernel_rfl) ?_
          refine WX.seq ?_
          refine WC.reg (n := 38) hn [] [1, 2, 3] [1, 2, 3] ⟨[(1, .ptr 1 0), (2, .ptr 2 0), (3, .ptr 3 0)], [(1, .box 73 [.p (i6 (a0.Kind)), .p (.s (.int .u64 a0.Class.a0)), .p (.s (.int .u64 a0.Class.a1)), .p (.s (.int .u64 a0.Class.a2)), .p (.s (.int .u64 a0.Class.a3)), .p (i6 (a0.A)), .p (i6 (a0.B)), .p (i6 (a0.Least)), .p (i6 (a0.Most)), .p (bo (a0.Lazy))]), (2, .box 73 [.p (i6 (0)), .p (.s (.int .u64 0)), .p (.s (.int .u64 0)), .p (.s (.int .u64 0)), .p (.s (.int .u64 0)), .p (i6 (0)), .p (i6 (0)), .p (i6 (0)), .p (i6 (0)), .p (bo (false))]), (3, .box 73 [.p (i6 (a0.Kind)), .p (.s (.int .u64 0)), .p (.s (.int .u64 0)), .p (.s (.int .u64 0)), .p (.s (.int .u64 0)), .p (i6 (a0.A)), .p (i6 (0)), .p (i6 (a0.Least)), .p (i6 (0)), .p (bo (false))])], ⟨[], false⟩, []⟩ trivial (by kernel_rfl) ?_
          refine WX.seq ?_
          refine WC.reg (n := 38) hn [] [1, 2, 3] [1, 2, 3] ⟨[(1, .ptr 1 0), (2, .ptr 2 0), (3, .ptr 3 0)], [(1, .box 73 [.p (i6 (a0.Kind)), .p (.s (.int .u64 a0.Class.a0)), .p (.s (.int .u64 a0.Class.a1)), .p (.s (.int .u64 a0.Class.a2)), .p (.s (.int .u64 a0.Class.a3)), .p (i6 (a0.A)), .p (i6 (a0.B)), .p (i6 (a0.Least)), .p (i6 (a0.Most)), .p (bo (a0.Lazy))]), (2, .box 73 [.p (i6 (0)), .p (.s (.int .u64 0)), .p (.s (.int .u64 0)), .p (.s (.int .u64 0)), .p (.s (.int .u64 0)), .p (i6 (0)), .p (i6 (0)), .p (i6 (0)), .p (i6 (0)), .p (bo (false))]), (3, .box 73 [.p (i6 (a0.Kind)), .p (.s (.int .u64 0)), .p (.s (.int .u64 0)), .p (.s (.int .u64 0)), .p (.s (.int .u64 0)), .p (i6 (a0.A)), .p (i6 (0)), .p (i6 (a0.Least)), .p (i6 (a0.Most)), .p (bo (false))])], ⟨[], false⟩, []⟩ trivial (by kernel_rfl) ?_
          refine WC.reg (n := 38) hn [] [2, 3] [2, 3] ⟨[(2, .ptr 2 0), (3, .ptr 3 0)], [(2, .box 73 [.p (i6 (0)), .p (.s (.int .u64 0)), .p (.s (.int .u64 0)), .p (.s (.int .u64 0)), .p (.s (.int .u64 0)), .p (i6 (0)), .p (i6 (0)), .p (i6 (0)), .p (i6 (0)), .p (bo (false))]), (3, .box 73 [.p (i6 (a0.Kind)), .p (.s (.int .u64 0)), .p (.s (.int .u64 0)), .p (.s (.int .u64 0)), .p (.s (.int .u64 0)), .p (i6 (a0.A)), .p (i6 (0)), .p (i6 (a0.Least)), .p (i6 (a0.Most)), .p (bo (a0.Lazy))])], ⟨[], false⟩, []⟩ trivial (by kernel_rfl) ?_
          refine WX.popBlk ?_
          refine WX.seq ?_
          refine WC.reg (n := 38) hn [] [2] [2] ⟨[(2, .ptr 2 0)], [(2, .box 73 [.p (i6 (a0.Kind)), .p (.s (.int .u64 0)), .p (.s (.int .u64 0)), .p (.s (.int .u64 0)), .p (.s (.int .u64 0)), .p (i6 (a0.A)), .p (i6 (0)), .p (i6 (a0.Least)), .p (i6 (a0.Most)), .p (bo (a0.Lazy))])], ⟨[], false⟩, []⟩ trivial (by kernel_rfl) ?_
          refine WX.ret ?_
          exact WC.outP (by rw [← Option.some.inj h]; kernel_rfl)
        · refine WC.condF c17 (by kernel_rfl) ?_
          refine WX.skip ?_
          refine WX.popBlk ?_
          refine WX.seq ?_
          refine WC.reg (n := 38) hn [] [2] [2] ⟨[(2, .ptr 2 0)], [(2, .box 73 [.p (i6 (a0.Kind)), .p (.s (.int .u64 0)), .p (.s (.int .u64 0)), .p (.s (.int .u64 0)), .p (.s (.int .u64 0)), .p (i6 (0)), .p (i6 (0)), .p (i6 (0)), .p (i6 (0)), .p (bo (false))])], ⟨[], false⟩, []⟩ trivial (by kernel_rfl) ?_
          refine WX.ret ?_
          exact WC.outP (by rw [← Option.some.inj h]; kernel_rfl)
    · replace hJ9 := fun y9_1 => hJ9 y9_1
      rcases if_or h with ⟨c24, h⟩ | ⟨c24, h⟩
      · refine WC.condT c24 (by kernel_rfl) ?_
        refine WX.skip ?_
        exact WC.keep [1, 2, 3, 8, 14] [1, 2, 3] (by kernel_rfl) (hJ9 ((a0.Kind == 3)) h)
      · refine WC.condF c24 (by kernel_rfl) ?_
        refine WC.reg (n := 38) hn [] [1, 2, 3, 8, 14] [1, 2, 3] ⟨[(1, .ptr 1 0), (2, .ptr 2 0), (3, .ptr 3 0), (8, .p (i6 (a0.Kind))), (14, .p (bo (((a0.Kind == 4)))))], [(1, .box 73 [.p (i6 (a0.Kind)), .p (.s (.int .u64 a0.Class.a0)), .p (.s (.int .u64 a0.Class.a1)), .p (.s (.int .u64 a0.Class.a2)), .p (.s (.int .u64 a0.Class.a3)), .p (i6 (a0.A)), .p (i6 (a0.B)), .p (i6 (a0.Least)), .p (i6 (a0.Most)), .p (bo (a0.Lazy))]), (2, .box 73 [.p (i6 (0)), .p (.s (.int .u64 0)), .p (.s (.int .u64 0)), .p (.s (.int .u64 0)), .p (.s (.int .u64 0)), .p (i6 (0)), .p (i6 (0)), .p (i6 (0)), .p (i6 (0)), .p (bo (false))]), (3, .box 73 [.p (i6 (a0.Kind)), .p (.s (.int .u64 0)), .p (.s (.int .u64 0)), .p (.s (.int .u64 0)), .p (.s (.int .u64 0)), .p (i6 (0)), .p (i6 (0)), .p (i6 (0)), .p (i6 (0)), .p (bo (false))])], ⟨[], false⟩, []⟩ trivial (by kernel_rfl) ?_
        exact WC.keep [1, 2, 3, 8, 14] [1, 2, 3] (by kernel_rfl) (hJ9 ((a0.Kind == 4)) h)
end Go.Proofs.YtfejcecgnonabaaDoor
