/- YtegjbjnmedgdoaaDoorGd: a part of the proof; see the last text for what is proved. -/
import Derived.Test.YtegjbjnmedgdoaaDoorGc
import Derived.Test.YtegjbjnmedgdoaaDoorProg
import Derived.KernelRfl
set_option maxRecDepth 100000
set_option linter.unusedVariables false
set_option linter.unusedSimpArgs false
namespace Go.Proofs.YtegjbjnmedgdoaaDoor
open Go.AE
def riddleref11_None (k : Nat) (a0 : api_Nfa) : Option (api_Bits) :=
  (riddleref11_may k a0).bind fun t2_2 => (riddleref01_Zero ((t2_2.Classes.length : Int))).bind fun t2_4 => some t2_4
theorem riddleref11_None_ok {k : Nat} {a0 : api_Nfa} {r : api_Bits} (h : riddleref11_None k a0 = some r) : AnsO Tryd.prog 101 [] [.p (pP1 a0)] [(7, rW 58 r.Words)] (.agg [.p (i6 (r.N)), .own 7]) := by
  refine W_fnO [7] Tryd.func101 rfl (by kernel_rfl) (by kernel_rfl) (by kernel_rfl) (by kernel_rfl) ?_
  intro X hro hn
  unfold riddleref11_None at h
  refine WC.rg hn [] [1, 2] [1, 2] ⟨[(1, .ptr 1 0), (2, .ptr 2 0)], [(1, .box 28 (vV1 a0)), (2, .box 25 [.p (i6 (0)), .p (.sl .nil 0 [])])], L0, []⟩ trivial ?_
  refine WX.seq ?_
  obtain ⟨t2_2, h2_1, h⟩ := bind_some h
  obtain ⟨t2_4, h2_3, h⟩ := bind_some h
  refine WC.r1 hn [(1, .resP (pP1 t2_2)), (4, .co [] [] [] [(7, rW 58 t2_4.Words)] (.agg [.p (i6 (t2_4.N)), .own 7]))] [2] [2, 7] ⟨[(2, .ptr 2 0)], [(2, .box 25 [.p (i6 (t2_4.N)), .own 7]), (7, rW 58 t2_4.Words)], L0, []⟩ (And.intro ((riddleref11_may_ok h2_1)) (And.intro (And.intro (riddleref01_Zero_ok h2_3) (trivial)) (trivial))) ?_
  refine WX.ret ?_
  exact WC.outO (by rw [← Option.some.inj h]; kernel_rfl)
theorem riddleref11_None_okP {k : Nat} {a0 : api_Nfa} {r : api_Bits} (h : riddleref11_None k a0 = some r) : Ans Tryd.prog 101 [pP1 a0] (pP4 r) := AnsO.ans (args := [pP1 a0]) (riddleref11_None_ok h) (by kernel_rfl)
def riddleref11_state (k : Nat) (a0 : api_Nfa) (a1 : api_Bits) : Option (api_Bits) :=
  (riddleref01_Check k a1).bind fun t2_2 => (if (((t2_2 != 0)) || ((a1.N != (a0.Classes.length : Int)))) = true then (riddleref11_None k a0).bind fun t4_2 => some t4_2 else some a1)
theorem riddleref11_state_ok {k : Nat} {a0 : api_Nfa} {a1 : api_Bits} {r : api_Bits} (h : riddleref11_state k a0 a1 = some r) : Ans Tryd.prog 70 [pP1 a0, pP4 a1] (pP4 r) := by
  refine W_fn Tryd.func70 rfl (by kernel_rfl) (by kernel_rfl) ?_
  intro X hro hn
  unfold riddleref11_state at h
  refine WC.rg hn [] [2, 3, 4] [2, 3, 4] ⟨[(2, .ptr 2 0), (3, .ptr 3 0), (4, .ptr 4 0)], [(2, .box 28 (vV1 a0)), (3, .box 25 (vV4 a1)), (4, .box 25 [.p (i6 (0)), .p (.sl .nil 0 [])])], L0, []⟩ trivial ?_
  refine WX.seq ?_
  refine WX.seq ?_
  obtain ⟨t2_2, h2_1, h⟩ := bind_some h
  refine WC.via (α := Bool) (fun v2 => ⟨[(2, .ptr 2 0), (3, .ptr 3 0), (4, .ptr 4 0), (15, .p (bo (v2)))], [(2, .box 28 (vV1 a0)), (3, .box 25 (vV4 a1)), (4, .box 25 [.p (i6 (0)), .p (.sl .nil 0 [])])], L0, []⟩) ((((t2_2 != 0)) || ((a1.N != (a0.Classes.length : Int))))) (fun hk => ?_) ?_
  · rcases Bool.eq_false_or_eq_true ((t2_2 != 0)) with b2_3 | b2_3
    · exact WC.reg hn [(1, .resP (i6 (t2_2))), (3, .val (.p (bo (true))))] [2, 3, 4, 15] [2, 3, 4] ⟨[(2, .ptr 2 0), (3, .ptr 3 0), (4, .ptr 4 0), (15, .p (bo (true)))], [(2, .box 28 (vV1 a0)), (3, .box 25 (vV4 a1)), (4, .box 25 [.p (i6 (0)), .p (.sl .nil 0 [])])], L0, []⟩ (And.intro ((riddleref01_Check_ok h2_1)) (And.intro (Bl b2_3) (trivial))) (by kernel_rfl) (hk true (by first | (rw [b2_3]; rfl) | simp [b2_3]))
    · exact WC.reg hn [(1, .resP (i6 (t2_2))), (3, .val (.p (bo (false))))] [2, 3, 4, 15] [2, 3, 4] ⟨[(2, .ptr 2 0), (3, .ptr 3 0), (4, .ptr 4 0), (15, .p (bo (((a1.N != (a0.Classes.length : Int))))))], [(2, .box 28 (vV1 a0)), (3, .box 25 (vV4 a1)), (4, .box 25 [.p (i6 (0)), .p (.sl .nil 0 [])])], L0, []⟩ (And.intro ((riddleref01_Check_ok h2_1)) (And.intro (Bl b2_3) (trivial))) (by kernel_rfl) (hk ((a1.N != (a0.Classes.length : Int))) (by first | (rw [b2_3]; rfl) | simp [b2_3]))
  rcases if_or h with ⟨c3, h⟩ | ⟨c3, h⟩
  · refine WC.condT c3 (by kernel_rfl) ?_
    refine WX.seq ?_
    obtain ⟨t4_2, h4_1, h⟩ := bind_some h
    refine WC.r1 hn [(1, .co [] [] [] [(17, rW 58 t4_2.Words)] (.agg [.p (i6 (t4_2.N)), .own 17]))] [4] [4, 17] ⟨[(4, .ptr 4 0)], [(4, .box 25 [.p (i6 (t4_2.N)), .own 17]), (17, rW 58 t4_2.Words)], L0, []⟩ (And.intro (And.intro ((riddleref11_None_ok h4_1).ren 7 17 (by kernel_rfl)) (trivial)) (trivial)) ?_
    refine WX.ret ?_
    exact WC.outP (by rw [← Option.some.inj h]; kernel_rfl)
  · refine WC.condF c3 (by kernel_rfl) ?_
    refine WX.skip ?_
    refine WC.rg hn [] [4] [4] ⟨[(4, .ptr 4 0)], [(4, .box 25 (vV4 a1))], L0, []⟩ trivial ?_
    refine WX.ret ?_
    exact WC.outP (by rw [← Option.some.inj h]; kernel_rfl)
def riddleref11_Next_l1 (t2_2 : api_Nfa) (t3_2 : api_Bits) (x48_1_2 : Int) (J91 : Bool → Option (api_Bits)) : Nat → (Bool × Int) → Option (api_Bits)
  | 0, _ => none
  | k + 1, (x106_1_1, x106_1_2) => (if (decide (x106_1_2 < (t2_2.Follow.length : Int))) = true then ((if x106_1_1 = true then some true else (riddleref01_Has k t3_2 x106_1_2).bind fun t117_2 => (if t117_2 = true then (at_ t2_2.Follow x106_1_2).bind fun t117_4 => (riddleref01_Has k t117_4 x48_1_2).bind fun t117_6 => some t117_6 else some false)) : Option (Bool)).bind fun v117 => riddleref11_Next_l1 t2_2 t3_2 x48_1_2 J91 k (v117, (IntKind.i64.wrap (x106_1_2 + 1))) else J91 x106_1_1)
def riddleref11_Next_l0 (a2 : Bool) (a3 : Int) (t2_2 : api_Nfa) (t3_2 : api_Bits) (J6 : List Int → Option (api_Bits)) : Nat → (List Int × Int) → Option (api_Bits)
  | 0, _ => none
  | k + 1, (x48_1_1, x48_1_2) => (if (decide (x48_1_2 < (t2_2.Classes.length : Int))) = true then ((if a2 = true then (riddleref01_Has k t2_2.First x48_1_2).bind fun t89_2 => some t89_2 else some false) : Option (Bool)).bind fun v89 => jn (fun (v91 : Bool) => ((if v91 = true then (at_ t2_2.Classes x48_1_2).bind fun t101_2 => (riddleref02_Has t101_2 a3).bind fun t101_4 => some t101_4 else some false) : Option (Bool)).bind fun v101 => (if v101 = true then (if okApp 8 (x48_1_1.length + ([x48_1_2]).length) then riddleref11_Next_l0 a2 a3 t2_2 t3_2 J6 k (x48_1_1 ++ ([x48_1_2]), (IntKind.i64.wrap (x48_1_2 + 1))) else none) else riddleref11_Next_l0 a2 a3 t2_2 t3_2 J6 k (x48_1_1, (IntKind.i64.wrap (x48_1_2 + 1))))) fun J91 => riddleref11_Next_l1 t2_2 t3_2 x48_1_2 J91 k (v89, 0) else J6 x48_1_1)
def riddleref11_Next (k : Nat) (a0 : api_Nfa) (a1 : api_Bits) (a2 : Bool) (a3 : Int) : Option (api_Bits) :=
  (riddleref11_may k a0).bind fun t2_2 => (riddleref11_state k t2_2 a1).bind fun t3_2 => jn (fun (v6 : List Int) => (riddleref01_New k ((t2_2.Classes.length : Int)) v6).bind fun t46_2 => some t46_2.1) fun J6 => riddleref11_Next_l0 a2 a3 t2_2 t3_2 J6 k (([] : List Int), 0)
theorem riddleref11_Next_ok {k : Nat} {a0 : api_Nfa} {a1 : api_Bits} {a2 : Bool} {a3 : Int} {r : api_Bits} (h : riddleref11_Next k a0 a1 a2 a3 = some r) : AnsO Tryd.prog 33 [] [.p (pP1 a0), .p (pP4 a1), .p (bo (a2)), .p (.s (.int .u8 a3))] [(75, rW 58 r.Words)] (.agg [.p (i6 (r.N)), .own 75]) := by
  refine W_fnO [75] Tryd.func33 rfl (by kernel_rfl) (by kernel_rfl) (by kernel_rfl) (by kernel_rfl) ?_
  intro X hro hn
  unfold riddleref11_Next at h
  refine WC.rg hn [] [2, 3, 4, 5, 8] [4, 5, 8] ⟨[(2, .p (bo (a2))), (3, .p (.s (.int .u8 a3))), (4, .ptr 4 0), (5, .ptr 5 0), (8, .ptr 8 0)], [(4, .box 28 (vV1 a0)), (5, .box 25 (vV4 a1)), (8, .box 25 [.p (i6 (0)), .p (.sl .nil 0 [])])], L0, []⟩ trivial ?_
  refine WX.seq ?_
  obtain ⟨t2_2, h2_1, h⟩ := bind_some h
  refine WC.r1 hn [(1, .resP (pP1 t2_2))] [2, 3, 4, 5, 8] [4, 5, 8] ⟨[(2, .p (bo (a2))), (3, .p (.s (.int .u8 a3))), (4, .ptr 4 0), (5, .ptr 5 0), (8, .ptr 8 0)], [(4, .box 28 (vV1 t2_2)), (5, .box 25 (vV4 a1)), (8, .box 25 [.p (i6 (0)), .p (.sl .nil 0 [])])], L0, []⟩ (And.intro ((riddleref11_may_ok h2_1)) (trivial)) ?_
  refine WX.seq ?_
  obtain ⟨t3_2, h3_1, h⟩ := bind_some h
  refine WC.r1 hn [(2, .resP (pP4 t3_2))] [2, 3, 4, 5, 8] [4, 5, 8] ⟨[(2, .p (bo (a2))), (3, .p (.s (.int .u8 a3))), (4, .ptr 4 0), (5, .ptr 5 0), (8, .ptr 8 0)], [(4, .box 28 (vV1 t2_2)), (5, .box 25 (vV4 t3_2)), (8, .box 25 [.p (i6 (0)), .p (.sl .nil 0 [])])], L0, []⟩ (And.intro ((riddleref11_state_ok h3_1)) (trivial)) ?_
  refine WC.rg hn [] [2, 3, 4, 5, 8, 9] [4, 5, 8] ⟨[(2, .p (bo (a2))), (3, .p (.s (.int .u8 a3))), (4, .ptr 4 0), (5, .ptr 5 0), (8, .ptr 8 0), (9, .p (.sl .nil 0 []))], [(4, .box 28 (vV1 t2_2)), (5, .box 25 (vV4 t3_2)), (8, .box 25 [.p (i6 (0)), .p (.sl .nil 0 [])])], L0, []⟩ trivial ?_
  refine WX.seq ?_
  refine WC.rg hn [] [2, 3, 4, 5, 8, 9, 10] [4, 5, 8] ⟨[(2, .p (bo (a2))), (3, .p (.s (.int .u8 a3))), (4, .ptr 4 0), (5, .ptr 5 0), (8, .ptr 8 0), (9, .p (.sl .nil 0 [])), (10, .p (i6 (0)))], [(4, .box 28 (vV1 t2_2)), (5, .box 25 (vV4 t3_2)), (8, .box 25 [.p (i6 (0)), .p (.sl .nil 0 [])])], L0, []⟩ trivial ?_
  obtain ⟨J6, eJ6, h⟩ := jn_some h
  try dsimp only at h
  refine WC.join (α := List Int) (fun v6 => ⟨[(4, .ptr 4 0), (8, .ptr 8 0), (9, .own 69)], [(4, .box 28 (vV1 t2_2)), (8, .box 25 [.p (i6 (0)), .p (.sl .nil 0 [])]), (69, rI 3 v6)], L0, []⟩) (fun v6 => J6 v6 = some r) ?_ (fun hJ6 => ?_)
  · rintro y6_1 h
    rw [eJ6] at h
    try dsimp only at h
    refine WX.seq ?_
    obtain ⟨t46_2, h46_1, h⟩ := bind_some h
    refine WC.r1 hn [(4, .co [] [] [69] [(75, rW 58 t46_2.1.Words)] (.tup [.agg [.p (i6 (t46_2.1.N)), .own 75], .p (i6 (t46_2.2))]))] [8, 13] [8, 13, 75] ⟨[(8, .ptr 8 0), (13, .ptr 13 0)], [(8, .box 25 [.p (i6 (0)), .p (.sl .nil 0 [])]), (13, .box 25 [.p (i6 (t46_2.1.N)), .own 75]), (75, rW 58 t46_2.1.Words)], L0, []⟩ (And.intro (And.intro ((riddleref01_New_ok h46_1).ren 16 75 (by kernel_rfl)) (And.intro (rfl : (.tup [.agg [.p (i6 (t46_2.1.N)), .own 75], .p (i6 (t46_2.2))] : AV).flat = true) (And.intro (flats_encL (eI .u64) (fun _ => rfl) t46_2.1.Words) (trivial)))) (trivial)) ?_
    refine WC.rg hn [] [8] [8, 75] ⟨[(8, .ptr 8 0)], [(8, .box 25 [.p (i6 (t46_2.1.N)), .own 75]), (75, rW 58 t46_2.1.Words)], L0, []⟩ trivial ?_
    refine WX.ret ?_
    exact WC.outO (by rw [← Option.some.inj h]; kernel_rfl)
  · replace hJ6 := fun y6_1 => hJ6 y6_1
    refine WX.block ?_
    refine WC.nil hn [9] none 69 3 1 (by kernel_rfl) [2, 3, 4, 5, 8, 9, 10] [4, 5, 8, 69] (st' := ⟨[(2, .p (bo (a2))), (3, .p (.s (.int .u8 a3))), (4, .ptr 4 0), (5, .ptr 5 0), (8, .ptr 8 0), (9, .own 69), (10, .p (i6 (0)))], [(4, .box 28 (vV1 t2_2)), (5, .box 25 (vV4 t3_2)), (8, .box 25 [.p (i6 (0)), .p (.sl .nil 0 [])]), (69, rI 3 (([] : List Int)))], L0, []⟩) (by kernel_rfl) ?_
    refine WC.loop (V := List Int × Int) (riddleref11_Next_l0 a2 a3 t2_2 t3_2 J6) r (fun v48 => ⟨[(2, .p (bo (a2))), (3, .p (.s (.int .u8 a3))), (4, .ptr 4 0), (5, .ptr 5 0), (8, .ptr 8 0), (9, .own 69), (10, .p (i6 (v48.2)))], [(4, .box 28 (vV1 t2_2)), (5, .box 25 (vV4 t3_2)), (8, .box 25 [.p (i6 (0)), .p (.sl .nil 0 [])]), (69, rI 3 v48.1)], L0, []⟩) _ (([] : List Int), 0) h (fun _ => rfl) [2, 3, 4, 5, 8, 9, 10] [4, 5, 8, 69] (by kernel_rfl) ?_
    clear h; rintro k ⟨x48_1_1, x48_1_2⟩ h K48 hnext48 hexit48
    rw [riddleref11_Next_l0] at h
    refine WX.seq ?_
    refine WC.rg hn [] [2, 3, 4, 5, 8, 9, 10, 24] [4, 5, 8, 69] ⟨[(2, .p (bo (a2))), (3, .p (.s (.int .u8 a3))), (4, .ptr 4 0), (5, .ptr 5 0), (8, .ptr 8 0), (9, .own 69), (10, .p (i6 (x48_1_2))), (24, .p (bo (((decide (x48_1_2 < (t2_2.Classes.length : Int)))))))], [(4, .box 28 (vV1 t2_2)), (5, .box 25 (vV4 t3_2)), (8, .box 25 [.p (i6 (0)), .p (.sl .nil 0 [])]), (69, rI 3 x48_1_1)], L0, []⟩ trivial ?_
    rcases if_or h with ⟨c88, h⟩ | ⟨c88, h⟩
    · refine WC.condT c88 (by kernel_rfl) ?_
      refine WX.skip ?_
      refine WX.seq ?_
      refine WX.block ?_
      refine WX.seq ?_
      obtain ⟨m89_1, g89, h⟩ := bind_some h
      refine WC.via (α := Bool) (fun v89 => ⟨[(2, .p (bo (a2))), (3, .p (.s (.int .u8 a3))), (4, .ptr 4 0), (5, .ptr 5 0), (8, .ptr 8 0), (9, .own 69), (10, .p (i6 (x48_1_2))), (11, .p (bo (v89)))], [(4, .box 28 (vV1 t2_2)), (5, .box 25 (vV4 t3_2)), (8, .box 25 [.p (i6 (0)), .p (.sl .nil 0 [])]), (69, rI 3 x48_1_1)], L0, []⟩) m89_1 (fun hk => ?_) ?_
      · rcases if_or g89 with ⟨b89_1, g89⟩ | ⟨b89_1, g89⟩
        · obtain ⟨t89_2, h89_1, g89⟩ := bind_some g89
          exact WC.reg hn [(1, .val (.p (bo (true)))), (5, .resP (bo (t89_2)))] [2, 3, 4, 5, 8, 9, 10, 11] [4, 5, 8, 69] ⟨[(2, .p (bo (a2))), (3, .p (.s (.int .u8 a3))), (4, .ptr 4 0), (5, .ptr 5 0), (8, .ptr 8 0), (9, .own 69), (10, .p (i6 (x48_1_2))), (11, .p (bo (t89_2)))], [(4, .box 28 (vV1 t2_2)), (5, .box 25 (vV4 t3_2)), (8, .box 25 [.p (i6 (0)), .p (.sl .nil 0 [])]), (69, rI 3 x48_1_1)], L0, []⟩ (And.intro (Bl b89_1) (And.intro ((riddleref01_Has_ok h89_1)) (trivial))) (by kernel_rfl) (hk t89_2 (Option.some.inj g89))
        · exact WC.reg hn [(1, .val (.p (bo (false))))] [2, 3, 4, 5, 8, 9, 10, 11] [4, 5, 8, 69] ⟨[(2, .p (bo (a2))), (3, .p (.s (.int .u8 a3))), (4, .ptr 4 0), (5, .ptr 5 0), (8, .ptr 8 0), (9, .own 69), (10, .p (i6 (x48_1_2))), (11, .p (bo (false)))], [(4, .box 28 (vV1 t2_2)), (5, .box 25 (vV4 t3_2)), (8, .box 25 [.p (i6 (0)), .p (.sl .nil 0 [])]), (69, rI 3 x48_1_1)], L0, []⟩ (And.intro (Bl b89_1) (trivial)) (by kernel_rfl) (hk false (Option.some.inj g89))
      refine WX.seq ?_
      refine WC.rg hn [] [2, 3, 4, 5, 8, 9, 10, 11, 12] [4, 5, 8, 69] ⟨[(2, .p (bo (a2))), (3, .p (.s (.int .u8 a3))), (4, .ptr 4 0), (5, .ptr 5 0), (8, .ptr 8 0), (9, .own 69), (10, .p (i6 (x48_1_2))), (11, .p (bo (m89_1))), (12, .p (i6 (0)))], [(4, .box 28 (vV1 t2_2)), (5, .box 25 (vV4 t3_2)), (8, .box 25 [.p (i6 (0)), .p (.sl .nil 0 [])]), (69, rI 3 x48_1_1)], L0, []⟩ trivial ?_
      obtain ⟨J91, eJ91, h⟩ := jn_some h
      try dsimp only at h
      refine WC.join (α := Bool) (fun v91 => ⟨[(2, .p (bo (a2))), (3, .p (.s (.int .u8 a3))), (4, .ptr 4 0), (5, .ptr 5 0), (8, .ptr 8 0), (9, .own 69), (10, .p (i6 (x48_1_2))), (11, .p (bo (v91)))], [(4, .box 28 (vV1 t2_2)), (5, .box 25 (vV4 t3_2)), (8, .box 25 [.p (i6 (0)), .p (.sl .nil 0 [])]), (69, rI 3 x48_1_1)], L0, []⟩) (fun v91 => J91 v91 = some r) ?_ (fun hJ91 => ?_)
      · rintro y91_1 h
        rw [eJ91] at h
        try dsimp only at h
        refine WX.seq ?_
        obtain ⟨m101_1, g101, h⟩ := bind_some h
        refine WC.via (α := Bool) (fun v101 => ⟨[(2, .p (bo (a2))), (3, .p (.s (.int .u8 a3))), (4, .ptr 4 0), (5, .ptr 5 0), (8, .ptr 8 0), (9, .own 69), (10, .p (i6 (x48_1_2))), (65, .p (bo (v101)))], [(4, .box 28 (vV1 t2_2)), (5, .box 25 (vV4 t3_2)), (8, .box 25 [.p (i6 (0)), .p (.sl .nil 0 [])]), (69, rI 3 x48_1_1)], L0, []⟩) m101_1 (fun hk => ?_) ?_
        · rcases if_or g101 with ⟨b101_1, g101⟩ | ⟨b101_1, g101⟩
          · obtain ⟨t101_2, h101_1, g101⟩ := bind_some g101
            obtain ⟨t101_4, h101_3, g101⟩ := bind_some g101
            exact WC.reg hn [(1, .val (.p (bo (true)))), (5, .val (.p (.rop ((e4 (eI .u64)).cells t101_2 ++ encL (e4 (eI .u64)) (t2_2.Classes.drop (x48_1_2.toNat + 1)))))), (8, .resP (bo (t101_4)))] [2, 3, 4, 5, 8, 9, 10, 65] [4, 5, 8, 69] ⟨[(2, .p (bo (a2))), (3, .p (.s (.int .u8 a3))), (4, .ptr 4 0), (5, .ptr 5 0), (8, .ptr 8 0), (9, .own 69), (10, .p (i6 (x48_1_2))), (65, .p (bo (t101_4)))], [(4, .box 28 (vV1 t2_2)), (5, .box 25 (vV4 t3_2)), (8, .box 25 [.p (i6 (0)), .p (.sl .nil 0 [])]), (69, rI 3 x48_1_1)], L0, []⟩ (And.intro (Bl b101_1) (And.intro (Ix (e4 (eI .u64)) h101_1) (And.intro ((riddleref02_Has_ok h101_3)) (trivial)))) (by kernel_rfl) (hk t101_4 (Option.some.inj g101))
          · exact WC.reg hn [(1, .val (.p (bo (false))))] [2, 3, 4, 5, 8, 9, 10, 65] [4, 5, 8, 69] ⟨[(2, .p (bo (a2))), (3, .p (.s (.int .u8 a3))), (4, .ptr 4 0), (5, .ptr 5 0), (8, .ptr 8 0), (9, .own 69), (10, .p (i6 (x48_1_2))), (65, .p (bo (false)))], [(4, .box 28 (vV1 t2_2)), (5, .box 25 (vV4 t3_2)), (8, .box 25 [.p (i6 (0)), .p (.sl .nil 0 [])]), (69, rI 3 x48_1_1)], L0, []⟩ (And.intro (Bl b101_1) (trivial)) (by kernel_rfl) (hk false (Option.some.inj g101))
        rcases if_or h with ⟨c102, h⟩ | ⟨c102, h⟩
        · refine WC.condT c102 (by kernel_rfl) ?_
          obtain ⟨c103_1, h⟩ := if_some h
          refine WC.r1 hn [(3, .app (some 69) (rI 3 (x48_1_1 ++ ([x48_1_2]))))] [2, 3, 4, 5, 8, 9, 10] [4, 5, 8, 69] ⟨[(2, .p (bo (a2))), (3, .p (.s (.int .u8 a3))), (4, .ptr 4 0), (5, .ptr 5 0), (8, .ptr 8 0), (9, .own 69), (10, .p (i6 (x48_1_2)))], [(4, .box 28 (vV1 t2_2)), (5, .box 25 (vV4 t3_2)), (8, .box 25 [.p (i6 (0)), .p (.sl .nil 0 [])]), (69, rI 3 (x48_1_1 ++ ([x48_1_2])))], L0, []⟩ (And.intro (Ap (eI .i64) (some 69) 3 8 1 x48_1_1 ([x48_1_2]) c103_1) (trivial)) ?_
          refine WX.popBlk ?_
          refine WC.r1 hn [] [2, 3, 4, 5, 8, 9, 10] [4, 5, 8, 69] ⟨[(2, .p (bo (a2))), (3, .p (.s (.int .u8 a3))), (4, .ptr 4 0), (5, .ptr 5 0), (8, .ptr 8 0), (9, .own 69), (10, .p (i6 (((IntKind.i64.wrap (x48_1_2 + 1))))))], [(4, .box 28 (vV1 t2_2)), (5, .box 25 (vV4 t3_2)), (8, .box 25 [.p (i6 (0)), .p (.sl .nil 0 [])]), (69, rI 3 (x48_1_1 ++ ([x48_1_2])))], L0, []⟩ trivial ?_
          exact WC.next [2, 3, 4, 5, 8, 9, 10] [4, 5, 8, 69] (by kernel_rfl) (hnext48 (x48_1_1 ++ ([x48_1_2]), (IntKind.i64.wrap (x48_1_2 + 1))) h)
        · refine WC.condF c102 (by kernel_rfl) ?_
          refine WX.skip ?_
          refine WX.popBlk ?_
          refine WC.r1 hn [] [2, 3, 4, 5, 8, 9, 10] [4, 5, 8, 69] ⟨[(2, .p (bo (a2))), (3, .p (.s (.int .u8 a3))), (4, .ptr 4 0), (5, .ptr 5 0), (8, .ptr 8 0), (9, .own 69), (10, .p (i6 (((IntKind.i64.wrap (x48_1_2 + 1))))))], [(4, .box 28 (vV1 t2_2)), (5, .box 25 (vV4 t3_2)), (8, .box 25 [.p (i6 (0)), .p (.sl .nil 0 [])]), (69, rI 3 x48_1_1)], L0, []⟩ trivial ?_
          exact WC.next [2, 3, 4, 5, 8, 9, 10] [4, 5, 8, 69] (by kernel_rfl) (hnext48 (x48_1_1, (IntKind.i64.wrap (x48_1_2 + 1))) h)
      · replace hJ91 := fun y91_1 => hJ91 y91_1
        refine WX.block ?_
        refine WC.loop (V := Bool × Int) (riddleref11_Next_l1 t2_2 t3_2 x48_1_2 J91) r (fun v106 => ⟨[(2, .p (bo (a2))), (3, .p (.s (.int .u8 a3))), (4, .ptr 4 0), (5, .ptr 5 0), (8, .ptr 8 0), (9, .own 69), (10, .p (i6 (x48_1_2))), (11, .p (bo (v106.1))), (12, .p (i6 (v106.2)))], [(4, .box 28 (vV1 t2_2)), (5, .box 25 (vV4 t3_2)), (8, .box 25 [.p (i6 (0)), .p (.sl .nil 0 [])]), (69, rI 3 x48_1_1)], L0, []⟩) _ (m89_1, 0) h (fun _ => rfl) [2, 3, 4, 5, 8, 9, 10, 11, 12] [4, 5, 8, 69] (by kernel_rfl) ?_
        clear h; rintro k ⟨x106_1_1, x106_1_2⟩ h K106 hnext106 hexit106
        rw [riddleref11_Next_l1] at h
        refine WX.seq ?_
        refine WC.rg hn [] [2, 3, 4, 5, 8, 9, 10, 11, 12, 38] [4, 5, 8, 69] ⟨[(2, .p (bo (a2))), (3, .p (.s (.int .u8 a3))), (4, .ptr 4 0), (5, .ptr 5 0), (8, .ptr 8 0), (9, .own 69), (10, .p (i6 (x48_1_2))), (11, .p (bo (x106_1_1))), (12, .p (i6 (x106_1_2))), (38, .p (bo (((decide (x106_1_2 < (t2_2.Follow.length : Int)))))))], [(4, .box 28 (vV1 t2_2)), (5, .box 25 (vV4 t3_2)), (8, .box 25 [.p (i6 (0)), .p (.sl .nil 0 [])]), (69, rI 3 x48_1_1)], L0, []⟩ trivial ?_
        rcases if_or h with ⟨c116, h⟩ | ⟨c116, h⟩
        · refine WC.condT c116 (by kernel_rfl) ?_
          refine WX.skip ?_
          refine WX.seq ?_
          refine WX.block ?_
          obtain ⟨m117_1, g117, h⟩ := bind_some h
          refine WC.via (α := Bool) (fun v117 => ⟨[(2, .p (bo (a2))), (3, .p (.s (.int .u8 a3))), (4, .ptr 4 0), (5, .ptr 5 0), (8, .ptr 8 0), (9, .own 69), (10, .p (i6 (x48_1_2))), (11, .p (bo (v117))), (12, .p (i6 (x106_1_2)))], [(4, .box 28 (vV1 t2_2)), (5, .box 25 (vV4 t3_2)), (8, .box 25 [.p (i6 (0)), .p (.sl .nil 0 [])]), (69, rI 3 x48_1_1)], L0, []⟩) m117_1 (fun hk => ?_) ?_
          · rcases if_or g117 with ⟨b117_1, g117⟩ | ⟨b117_1, g117⟩
            · exact WC.reg hn [(1, .val (.p (bo (true))))] [2, 3, 4, 5, 8, 9, 10, 11, 12] [4, 5, 8, 69] ⟨[(2, .p (bo (a2))), (3, .p (.s (.int .u8 a3))), (4, .ptr 4 0), (5, .ptr 5 0), (8, .ptr 8 0), (9, .own 69), (10, .p (i6 (x48_1_2))), (11, .p (bo (true))), (12, .p (i6 (x106_1_2)))], [(4, .box 28 (vV1 t2_2)), (5, .box 25 (vV4 t3_2)), (8, .box 25 [.p (i6 (0)), .p (.sl .nil 0 [])]), (69, rI 3 x48_1_1)], L0, []⟩ (And.intro (Bl b117_1) (trivial)) (by kernel_rfl) (hk true (Option.some.inj g117))
            · obtain ⟨t117_2, h117_1, g117⟩ := bind_some g117
              rcases if_or g117 with ⟨b117_5, g117⟩ | ⟨b117_5, g117⟩
              · obtain ⟨t117_4, h117_3, g117⟩ := bind_some g117
                obtain ⟨t117_6, h117_5, g117⟩ := bind_some g117
                exact WC.reg hn [(1, .val (.p (bo (false)))), (4, .resP (bo (t117_2))), (5, .val (.p (bo (true)))), (9, .val (.p (.rop (e_api_Bits.cells t117_4 ++ encL e_api_Bits (t2_2.Follow.drop (x106_1_2.toNat + 1)))))), (12, .resP (bo (t117_6)))] [2, 3, 4, 5, 8, 9, 10, 11, 12] [4, 5, 8, 69] ⟨[(2, .p (bo (a2))), (3, .p (.s (.int .u8 a3))), (4, .ptr 4 0), (5, .ptr 5 0), (8, .ptr 8 0), (9, .own 69), (10, .p (i6 (x48_1_2))), (11, .p (bo (t117_6))), (12, .p (i6 (x106_1_2)))], [(4, .box 28 (vV1 t2_2)), (5, .box 25 (vV4 t3_2)), (8, .box 25 [.p (i6 (0)), .p (.sl .nil 0 [])]), (69, rI 3 x48_1_1)], L0, []⟩ (And.intro (Bl b117_1) (And.intro ((riddleref01_Has_ok h117_1)) (And.intro (Bl b117_5) (And.intro (Ix e_api_Bits h117_3) (And.intro ((riddleref01_Has_ok h117_5)) (trivial)))))) (by kernel_rfl) (hk t117_6 (Option.some.inj g117))
              · exact WC.reg hn [(1, .val (.p (bo (false)))), (4, .resP (bo (t117_2))), (5, .val (.p (bo (false))))] [2, 3, 4, 5, 8, 9, 10, 11, 12] [4, 5, 8, 69] ⟨[(2, .p (bo (a2))), (3, .p (.s (.int .u8 a3))), (4, .ptr 4 0), (5, .ptr 5 0), (8, .ptr 8 0), (9, .own 69), (10, .p (i6 (x48_1_2))), (11, .p (bo (false))), (12, .p (i6 (x106_1_2)))], [(4, .box 28 (vV1 t2_2)), (5, .box 25 (vV4 t3_2)), (8, .box 25 [.p (i6 (0)), .p (.sl .nil 0 [])]), (69, rI 3 x48_1_1)], L0, []⟩ (And.intro (Bl b117_1) (And.intro ((riddleref01_Has_ok h117_1)) (And.intro (Bl b117_5) (trivial)))) (by kernel_rfl) (hk false (Option.some.inj g117))
          refine WX.popBlk ?_
          refine WC.r1 hn [] [2, 3, 4, 5, 8, 9, 10, 11, 12] [4, 5, 8, 69] ⟨[(2, .p (bo (a2))), (3, .p (.s (.int .u8 a3))), (4, .ptr 4 0), (5, .ptr 5 0), (8, .ptr 8 0), (9, .own 69), (10, .p (i6 (x48_1_2))), (11, .p (bo (m117_1))), (12, .p (i6 (((IntKind.i64.wrap (x106_1_2 + 1))))))], [(4, .box 28 (vV1 t2_2)), (5, .box 25 (vV4 t3_2)), (8, .box 25 [.p (i6 (0)), .p (.sl .nil 0 [])]), (69, rI 3 x48_1_1)], L0, []⟩ trivial ?_
          exact WC.next [2, 3, 4, 5, 8, 9, 10, 11, 12] [4, 5, 8, 69] (by kernel_rfl) (hnext106 (m117_1, (IntKind.i64.wrap (x106_1_2 + 1))) h)
        · refine WC.condF c116 (by kernel_rfl) ?_
          refine WX.exit ?_
          refine WX.popCodeExit ?_
          refine WC.exit_nil (hexit106 _ _ (by simp) ?_)
          refine WX.popBlkHit ?_
          exact WC.keep [2, 3, 4, 5, 8, 9, 10, 11] [4, 5, 8, 69] (by kernel_rfl) (hJ91 x106_1_1 h)
    · refine WC.condF c88 (by kernel_rfl) ?_
      refine WX.exit ?_
      refine WX.popCodeExit ?_
      refine WC.exit_nil (hexit48 _ _ (by simp) ?_)
      refine WX.popBlkHit ?_
      exact WC.keep [4, 8, 9] [4, 8, 69] (by kernel_rfl) (hJ6 x48_1_1 h)
theorem riddleref11_Next_okP {k : Nat} {a0 : api_Nfa} {a1 : api_Bits} {a2 : Bool} {a3 : Int} {r : api_Bits} (h : riddleref11_Next k a0 a1 a2 a3 = some r) : Ans Tryd.prog 33 [pP1 a0, pP4 a1, bo (a2), .s (.int .u8 a3)] (pP4 r) := AnsO.ans (args := [pP1 a0, pP4 a1, bo (a2), .s (.int .u8 a3)]) (riddleref11_Next_ok h) (by kernel_rfl)
def riddlelaw12_ReverseMakes (k : Nat) (a0 : api_Nfa) (a1 : api_Bits) (a2 : Bool) (a3 : Int) : Option (Bool) :=
  (riddlelaw12_few a0 ([])).bind fun t2_2 => (if (!t2_2) = true then some true else (riddleref12_Reverse k a0).bind fun t5_2 => (riddlelaw12_begun k).bind fun t8_2 => ((if t8_2 = true then (reverse_Reverse k a0).bind fun t8_4 => (riddleref10_Same k t8_4 t5_2).bind fun t8_6 => (if t8_6 = true then (reverse_Turn k a0).bind fun t8_8 => (riddleref12_Turn k a0).bind fun t8_10 => (riddleref10_Same k t8_8 t8_10).bind fun t8_12 => (if t8_12 = true then (reverse_Back k a0 a1 a2 a3).bind fun t8_14 => (riddleref11_Next k t5_2 a1 a2 a3).bind fun t8_16 => (riddleref01_Same k t8_14 t8_16).bind fun t8_18 => some t8_18 else some false) else some false) else some false) : Option (Bool)).bind fun v8 => some v8)
theorem riddlelaw12_ReverseMakes_ok {k : Nat} {a0 : api_Nfa} {a1 : api_Bits} {a2 : Bool} {a3 : Int} {r : Bool} (h : riddlelaw12_ReverseMakes k a0 a1 a2 a3 = some r) : Ans Tryd.prog 8 [pP1 a0, pP4 a1, bo (a2), .s (.int .u8 a3)] (bo (r)) := by
  refine W_fn Tryd.func8 rfl (by kernel_rfl) (by kernel_rfl) ?_
  intro X hro hn
  unfold riddlelaw12_ReverseMakes at h
  refine WC.rg hn [] [2, 3, 4, 5] [4, 5] ⟨[(2, .p (bo (a2))), (3, .p (.s (.int .u8 a3))), (4, .ptr 4 0), (5, .ptr 5 0)], [(4, .box 28 (vV1 a0)), (5, .box 25 (vV4 a1))], L0, []⟩ trivial ?_
  refine WX.seq ?_
  refine WX.seq ?_
  obtain ⟨t2_2, h2_1, h⟩ := bind_some h
  refine WC.r1 hn [(1, .resP (bo (t2_2)))] [2, 3, 4, 5, 12] [4, 5] ⟨[(2, .p (bo (a2))), (3, .p (.s (.int .u8 a3))), (4, .ptr 4 0), (5, .ptr 5 0), (12, .p (bo (((!t2_2)))))], [(4, .box 28 (vV1 a0)), (5, .box 25 (vV4 a1))], L0, []⟩ (And.intro ((riddlelaw12_few_ok h2_1)) (trivial)) ?_
  rcases if_or h with ⟨c3, h⟩ | ⟨c3, h⟩
  · refine WC.condT c3 (by kernel_rfl) ?_
    refine WC.rg hn [] [8] [] ⟨[(8, .p (bo (true)))], [], L0, []⟩ trivial ?_
    refine WX.ret ?_
    exact WC.outP (by rw [← Option.some.inj h]; kernel_rfl)
  · refine WC.condF c3 (by kernel_rfl) ?_
    refine WX.skip ?_
    refine WX.seq ?_
    obtain ⟨t5_2, h5_1, h⟩ := bind_some h
    refine WC.r1 hn [(1, .co [] [] [] [(14, rowV 60 (e4 (eI .u64)) t5_2.Classes), (41, rowV 25 e_api_Bits t5_2.Follow)] (.agg [.own 14, .p (i6 (t5_2.First.N)), .p (sW t5_2.First.Words), .p (i6 (t5_2.Last.N)), .p (sW t5_2.Last.Words), .own 41, .p (bo (t5_2.Null))]))] [2, 3, 4, 5, 9] [4, 5, 9, 14, 41] ⟨[(2, .p (bo (a2))), (3, .p (.s (.int .u8 a3))), (4, .ptr 4 0), (5, .ptr 5 0), (9, .ptr 9 0)], [(4, .box 28 (vV1 a0)), (5, .box 25 (vV4 a1)), (9, .box 28 [.own 14, .p (i6 (t5_2.First.N)), .p (sW t5_2.First.Words), .p (i6 (t5_2.Last.N)), .p (sW t5_2.Last.Words), .own 41, .p (bo (t5_2.Null))]), (14, rowV 60 (e4 (eI .u64)) t5_2.Classes), (41, rowV 25 e_api_Bits t5_2.Follow)], L0, []⟩ (And.intro (And.intro (((riddleref12_Reverse_ok h5_1).ren 15 14 (by kernel_rfl)).ren 49 41 (by kernel_rfl)) (trivial)) (trivial)) ?_
    refine WX.seq ?_
    refine WC.frz 14 (st' := ⟨[(2, .p (bo (a2))), (3, .p (.s (.int .u8 a3))), (4, .ptr 4 0), (5, .ptr 5 0), (9, .ptr 9 0)], [(4, .box 28 (vV1 a0)), (5, .box 25 (vV4 a1)), (9, .box 28 [.p (sC t5_2.Classes), .p (i6 (t5_2.First.N)), .p (sW t5_2.First.Words), .p (i6 (t5_2.Last.N)), .p (sW t5_2.Last.Words), .own 41, .p (bo (t5_2.Null))]), (41, rowV 25 e_api_Bits t5_2.Follow)], L0, []⟩) (by kernel_rfl) ?_
    refine WC.frz 41 (st' := ⟨[(2, .p (bo (a2))), (3, .p (.s (.int .u8 a3))), (4, .ptr 4 0), (5, .ptr 5 0), (9, .ptr 9 0)], [(4, .box 28 (vV1 a0)), (5, .box 25 (vV4 a1)), (9, .box 28 (vV1 t5_2))], L0, []⟩) (by kernel_rfl) ?_
    obtain ⟨t8_2, h8_1, h⟩ := bind_some h
    obtain ⟨m8_1, g8, h⟩ := bind_some h
    refine WC.via (α := Bool) (fun v8 => ⟨[(8, .p (bo (v8)))], [], L0, []⟩) m8_1 (fun hk => ?_) ?_
    · rcases if_or g8 with ⟨b8_1, g8⟩ | ⟨b8_1, g8⟩
      · obtain ⟨t8_4, h8_3, g8⟩ := bind_some g8
        obtain ⟨t8_6, h8_5, g8⟩ := bind_some g8
        rcases if_or g8 with ⟨b8_7, g8⟩ | ⟨b8_7, g8⟩
        · obtain ⟨t8_8, h8_7, g8⟩ := bind_some g8
          obtain ⟨t8_10, h8_9, g8⟩ := bind_some g8
          obtain ⟨t8_12, h8_11, g8⟩ := bind_some g8
          rcases if_or g8 with ⟨b8_14, g8⟩ | ⟨b8_14, g8⟩
          · obtain ⟨t8_14, h8_13, g8⟩ := bind_some g8
            obtain ⟨t8_16, h8_15, g8⟩ := bind_some g8
            obtain ⟨t8_18, h8_17, g8⟩ := bind_some g8
            exact WC.drw hn [] [] [(0, .resP (bo (t8_2))), (1, .val (.p (bo (true)))), (3, .resP (pP1 t8_4)), (5, .resP (bo (t8_6))), (7, .val (.p (bo (true)))), (9, .resP (pP1 t8_8)), (11, .resP (pP1 t8_10)), (12, .resP (bo (t8_12))), (14, .val (.p (bo (true)))), (19, .resP (pP4 t8_14)), (24, .resP (pP4 t8_16)), (25, .resP (bo (t8_18)))] [8] [] ⟨[(8, .p (bo (t8_18)))], [], L0, []⟩ (And.intro ((riddlelaw12_begun_ok h8_1)) (And.intro (Bl b8_1) (And.intro ((reverse_Reverse_okP h8_3)) (And.intro ((riddleref10_Same_ok h8_5)) (And.intro (Bl b8_7) (And.intro ((reverse_Turn_okP h8_7)) (And.intro ((riddleref12_Turn_okP h8_9)) (And.intro ((riddleref10_Same_ok h8_11)) (And.intro (Bl b8_14) (And.intro ((reverse_Back_ok h8_13)) (And.intro ((riddleref11_Next_okP h8_15)) (And.intro ((riddleref01_Same_ok h8_17)) (trivial))))))))))))) (by kernel_rfl) (by kernel_rfl) (by kernel_rfl) (by kernel_rfl) (hk t8_18 (Option.some.inj g8))
          · exact WC.drw hn [] [] [(0, .resP (bo (t8_2))), (1, .val (.p (bo (true)))), (3, .resP (pP1 t8_4)), (5, .resP (bo (t8_6))), (7, .val (.p (bo (true)))), (9, .resP (pP1 t8_8)), (11, .resP (pP1 t8_10)), (12, .resP (bo (t8_12))), (14, .val (.p (bo (false))))] [8] [] ⟨[(8, .p (bo (false)))], [], L0, []⟩ (And.intro ((riddlelaw12_begun_ok h8_1)) (And.intro (Bl b8_1) (And.intro ((reverse_Reverse_okP h8_3)) (And.intro ((riddleref10_Same_ok h8_5)) (And.intro (Bl b8_7) (And.intro ((reverse_Turn_okP h8_7)) (And.intro ((riddleref12_Turn_okP h8_9)) (And.intro ((riddleref10_Same_ok h8_11)) (And.intro (Bl b8_14) (trivial)))))))))) (by kernel_rfl) (by kernel_rfl) (by kernel_rfl) (by kernel_rfl) (hk false (Option.some.inj g8))
        · exact WC.drw hn [] [] [(0, .resP (bo (t8_2))), (1, .val (.p (bo (true)))), (3, .resP (pP1 t8_4)), (5, .resP (bo (t8_6))), (7, .val (.p (bo (false))))] [8] [] ⟨[(8, .p (bo (false)))], [], L0, []⟩ (And.intro ((riddlelaw12_begun_ok h8_1)) (And.intro (Bl b8_1) (And.intro ((reverse_Reverse_okP h8_3)) (And.intro ((riddleref10_Same_ok h8_5)) (And.intro (Bl b8_7) (trivial)))))) (by kernel_rfl) (by kernel_rfl) (by kernel_rfl) (by kernel_rfl) (hk false (Option.some.inj g8))
      · exact WC.drw hn [] [] [(0, .resP (bo (t8_2))), (1, .val (.p (bo (false))))] [8] [] ⟨[(8, .p (bo (false)))], [], L0, []⟩ (And.intro ((riddlelaw12_begun_ok h8_1)) (And.intro (Bl b8_1) (trivial))) (by kernel_rfl) (by kernel_rfl) (by kernel_rfl) (by kernel_rfl) (hk false (Option.some.inj g8))
    refine WX.ret ?_
    exact WC.outP (by rw [← Option.some.inj h]; kernel_rfl)
end Go.Proofs.YtegjbjnmedgdoaaDoor
