/- YtpifpjeeijhhdaaDoorGd: a part of the proof; see the last text for what is proved. -/
import Derived.Test.YtpifpjeeijhhdaaDoorGc
import Derived.Test.YtpifpjeeijhhdaaDoorProg
import Derived.KernelRfl
set_option maxRecDepth 100000
set_option linter.unusedVariables false
set_option linter.unusedSimpArgs false
namespace Go.Proofs.YtpifpjeeijhhdaaDoor
open Go.AE
def riddleref01_pick_l0 (a0 : api_Bits) (a1 : api_Bits) (a2 : Bool) (t2_4 : api_Bits) (J4 : List Int → Option (api_Bits)) : Nat → (Int × List Int) → Option (api_Bits)
  | 0, _ => none
  | k + 1, (x21_1_1, x21_1_2) => (if (decide (x21_1_1 < t2_4.N)) = true then (riddleref01_Has k a0 x21_1_1).bind fun t38_2 => ((if t38_2 = true then (riddleref01_Has k a1 x21_1_1).bind fun t38_4 => some ((t38_4 == a2)) else some false) : Option (Bool)).bind fun v38 => (if v38 = true then (riddleref01_put ((api_Bits.mk t2_4.N x21_1_2)) x21_1_1).bind fun t40_2 => riddleref01_pick_l0 a0 a1 a2 t2_4 J4 k ((IntKind.i64.wrap (x21_1_1 + 1)), t40_2) else riddleref01_pick_l0 a0 a1 a2 t2_4 J4 k ((IntKind.i64.wrap (x21_1_1 + 1)), x21_1_2)) else J4 x21_1_2)
def riddleref01_pick (k : Nat) (a0 : api_Bits) (a1 : api_Bits) (a2 : Bool) : Option (api_Bits) :=
  (riddleref01_may k a0).bind fun t2_2 => (riddleref01_Zero t2_2.N).bind fun t2_4 => jn (fun (v4 : List Int) => some ((api_Bits.mk t2_4.N v4))) fun J4 => riddleref01_pick_l0 a0 a1 a2 t2_4 J4 k (0, t2_4.Words)
theorem riddleref01_pick_ok {k : Nat} {a0 : api_Bits} {a1 : api_Bits} {a2 : Bool} {r : api_Bits} (h : riddleref01_pick k a0 a1 a2 = some r) : AnsO Tryd.prog 98 [] [.p (pP5 a0), .p (pP5 a1), .p (bo (a2))] [(12, rW 73 r.Words)] (.agg [.p (i6 (r.N)), .own 12]) := by
  refine W_fnO [12] Tryd.func98 rfl (by kernel_rfl) (by kernel_rfl) (by kernel_rfl) (by kernel_rfl) ?_
  intro X hro hn
  unfold riddleref01_pick at h
  refine WC.rg hn [] [2, 3, 4, 6] [3, 4, 6] ⟨[(2, .p (bo (a2))), (3, .ptr 3 0), (4, .ptr 4 0), (6, .ptr 6 0)], [(3, .box 25 (vV5 a0)), (4, .box 25 (vV5 a1)), (6, .box 25 [.p (i6 (0)), .p (.sl .nil 0 [])])], L0, []⟩ trivial ?_
  refine WX.seq ?_
  obtain ⟨t2_2, h2_1, h⟩ := bind_some h
  obtain ⟨t2_4, h2_3, h⟩ := bind_some h
  refine WC.r1 hn [(1, .resP (pP5 t2_2)), (3, .co [] [] [] [(12, rW 73 t2_4.Words)] (.agg [.p (i6 (t2_4.N)), .own 12]))] [2, 3, 4, 6, 7] [3, 4, 6, 7, 12] ⟨[(2, .p (bo (a2))), (3, .ptr 3 0), (4, .ptr 4 0), (6, .ptr 6 0), (7, .ptr 7 0)], [(3, .box 25 (vV5 a0)), (4, .box 25 (vV5 a1)), (6, .box 25 [.p (i6 (0)), .p (.sl .nil 0 [])]), (7, .box 25 [.p (i6 (t2_4.N)), .own 12]), (12, rW 73 t2_4.Words)], L0, []⟩ (And.intro ((riddleref01_may_ok h2_1)) (And.intro (And.intro ((riddleref01_Zero_ok h2_3).ren 7 12 (by kernel_rfl)) (trivial)) (trivial))) ?_
  refine WX.seq ?_
  refine WC.rg hn [] [2, 3, 4, 6, 7, 8] [3, 4, 6, 7, 12] ⟨[(2, .p (bo (a2))), (3, .ptr 3 0), (4, .ptr 4 0), (6, .ptr 6 0), (7, .ptr 7 0), (8, .p (i6 (0)))], [(3, .box 25 (vV5 a0)), (4, .box 25 (vV5 a1)), (6, .box 25 [.p (i6 (0)), .p (.sl .nil 0 [])]), (7, .box 25 [.p (i6 (t2_4.N)), .own 12]), (12, rW 73 t2_4.Words)], L0, []⟩ trivial ?_
  obtain ⟨J4, eJ4, h⟩ := jn_some h
  try dsimp only at h
  refine WC.join (α := List Int) (fun v4 => ⟨[(6, .ptr 6 0), (7, .ptr 7 0)], [(6, .box 25 [.p (i6 (0)), .p (.sl .nil 0 [])]), (7, .box 25 [.p (i6 (t2_4.N)), .own 12]), (12, rW 73 v4)], L0, []⟩) (fun v4 => J4 v4 = some r) ?_ (fun hJ4 => ?_)
  · rintro y4_1 h
    rw [eJ4] at h
    try dsimp only at h
    refine WC.rg hn [] [6] [6, 12] ⟨[(6, .ptr 6 0)], [(6, .box 25 [.p (i6 (t2_4.N)), .own 12]), (12, rW 73 y4_1)], L0, []⟩ trivial ?_
    refine WX.ret ?_
    exact WC.outO (by rw [← Option.some.inj h]; kernel_rfl)
  · replace hJ4 := fun y4_1 => hJ4 y4_1
    refine WX.block ?_
    refine WC.loop (V := Int × List Int) (riddleref01_pick_l0 a0 a1 a2 t2_4 J4) r (fun v21 => ⟨[(2, .p (bo (a2))), (3, .ptr 3 0), (4, .ptr 4 0), (6, .ptr 6 0), (7, .ptr 7 0), (8, .p (i6 (v21.1)))], [(3, .box 25 (vV5 a0)), (4, .box 25 (vV5 a1)), (6, .box 25 [.p (i6 (0)), .p (.sl .nil 0 [])]), (7, .box 25 [.p (i6 (t2_4.N)), .own 12]), (12, rW 73 v21.2)], L0, []⟩) _ (0, t2_4.Words) h (fun _ => rfl) [2, 3, 4, 6, 7, 8] [3, 4, 6, 7, 12] (by kernel_rfl) ?_
    clear h; rintro k ⟨x21_1_1, x21_1_2⟩ h K21 hnext21 hexit21
    rw [riddleref01_pick_l0] at h
    refine WX.seq ?_
    refine WC.rg hn [] [2, 3, 4, 6, 7, 8, 16] [3, 4, 6, 7, 12] ⟨[(2, .p (bo (a2))), (3, .ptr 3 0), (4, .ptr 4 0), (6, .ptr 6 0), (7, .ptr 7 0), (8, .p (i6 (x21_1_1))), (16, .p (bo (((decide (x21_1_1 < t2_4.N))))))], [(3, .box 25 (vV5 a0)), (4, .box 25 (vV5 a1)), (6, .box 25 [.p (i6 (0)), .p (.sl .nil 0 [])]), (7, .box 25 [.p (i6 (t2_4.N)), .own 12]), (12, rW 73 x21_1_2)], L0, []⟩ trivial ?_
    rcases if_or h with ⟨c37, h⟩ | ⟨c37, h⟩
    · refine WC.condT c37 (by kernel_rfl) ?_
      refine WX.skip ?_
      refine WX.seq ?_
      refine WX.block ?_
      refine WX.seq ?_
      obtain ⟨t38_2, h38_1, h⟩ := bind_some h
      obtain ⟨m38_1, g38, h⟩ := bind_some h
      refine WC.via (α := Bool) (fun v38 => ⟨[(2, .p (bo (a2))), (3, .ptr 3 0), (4, .ptr 4 0), (6, .ptr 6 0), (7, .ptr 7 0), (8, .p (i6 (x21_1_1))), (28, .p (bo (v38)))], [(3, .box 25 (vV5 a0)), (4, .box 25 (vV5 a1)), (6, .box 25 [.p (i6 (0)), .p (.sl .nil 0 [])]), (7, .box 25 [.p (i6 (t2_4.N)), .own 12]), (12, rW 73 x21_1_2)], L0, []⟩) m38_1 (fun hk => ?_) ?_
      · rcases if_or g38 with ⟨b38_3, g38⟩ | ⟨b38_3, g38⟩
        · obtain ⟨t38_4, h38_3, g38⟩ := bind_some g38
          exact WC.reg hn [(2, .resP (bo (t38_2))), (3, .val (.p (bo (true)))), (6, .resP (bo (t38_4)))] [2, 3, 4, 6, 7, 8, 28] [3, 4, 6, 7, 12] ⟨[(2, .p (bo (a2))), (3, .ptr 3 0), (4, .ptr 4 0), (6, .ptr 6 0), (7, .ptr 7 0), (8, .p (i6 (x21_1_1))), (28, .p (bo (((t38_4 == a2)))))], [(3, .box 25 (vV5 a0)), (4, .box 25 (vV5 a1)), (6, .box 25 [.p (i6 (0)), .p (.sl .nil 0 [])]), (7, .box 25 [.p (i6 (t2_4.N)), .own 12]), (12, rW 73 x21_1_2)], L0, []⟩ (And.intro ((riddleref01_Has_ok h38_1)) (And.intro (Bl b38_3) (And.intro ((riddleref01_Has_ok h38_3)) (trivial)))) (by kernel_rfl) (hk ((t38_4 == a2)) (Option.some.inj g38))
        · exact WC.reg hn [(2, .resP (bo (t38_2))), (3, .val (.p (bo (false))))] [2, 3, 4, 6, 7, 8, 28] [3, 4, 6, 7, 12] ⟨[(2, .p (bo (a2))), (3, .ptr 3 0), (4, .ptr 4 0), (6, .ptr 6 0), (7, .ptr 7 0), (8, .p (i6 (x21_1_1))), (28, .p (bo (false)))], [(3, .box 25 (vV5 a0)), (4, .box 25 (vV5 a1)), (6, .box 25 [.p (i6 (0)), .p (.sl .nil 0 [])]), (7, .box 25 [.p (i6 (t2_4.N)), .own 12]), (12, rW 73 x21_1_2)], L0, []⟩ (And.intro ((riddleref01_Has_ok h38_1)) (And.intro (Bl b38_3) (trivial))) (by kernel_rfl) (hk false (Option.some.inj g38))
      rcases if_or h with ⟨c39, h⟩ | ⟨c39, h⟩
      · refine WC.condT c39 (by kernel_rfl) ?_
        obtain ⟨t40_2, h40_1, h⟩ := bind_some h
        refine WC.r1 hn [(2, .co [] [12] [] [(12, rW 73 t40_2)] (.tup []))] [2, 3, 4, 6, 7, 8] [3, 4, 6, 7, 12] ⟨[(2, .p (bo (a2))), (3, .ptr 3 0), (4, .ptr 4 0), (6, .ptr 6 0), (7, .ptr 7 0), (8, .p (i6 (x21_1_1)))], [(3, .box 25 (vV5 a0)), (4, .box 25 (vV5 a1)), (6, .box 25 [.p (i6 (0)), .p (.sl .nil 0 [])]), (7, .box 25 [.p (i6 (t2_4.N)), .own 12]), (12, rW 73 t40_2)], L0, []⟩ (And.intro (And.intro ((riddleref01_put_ok h40_1).ren 1000 12 (by kernel_rfl)) (trivial)) (trivial)) ?_
        refine WX.popBlk ?_
        refine WC.r1 hn [] [2, 3, 4, 6, 7, 8] [3, 4, 6, 7, 12] ⟨[(2, .p (bo (a2))), (3, .ptr 3 0), (4, .ptr 4 0), (6, .ptr 6 0), (7, .ptr 7 0), (8, .p (i6 (((IntKind.i64.wrap (x21_1_1 + 1))))))], [(3, .box 25 (vV5 a0)), (4, .box 25 (vV5 a1)), (6, .box 25 [.p (i6 (0)), .p (.sl .nil 0 [])]), (7, .box 25 [.p (i6 (t2_4.N)), .own 12]), (12, rW 73 t40_2)], L0, []⟩ trivial ?_
        exact WC.next [2, 3, 4, 6, 7, 8] [3, 4, 6, 7, 12] (by kernel_rfl) (hnext21 ((IntKind.i64.wrap (x21_1_1 + 1)), t40_2) h)
      · refine WC.condF c39 (by kernel_rfl) ?_
        refine WX.skip ?_
        refine WX.popBlk ?_
        refine WC.r1 hn [] [2, 3, 4, 6, 7, 8] [3, 4, 6, 7, 12] ⟨[(2, .p (bo (a2))), (3, .ptr 3 0), (4, .ptr 4 0), (6, .ptr 6 0), (7, .ptr 7 0), (8, .p (i6 (((IntKind.i64.wrap (x21_1_1 + 1))))))], [(3, .box 25 (vV5 a0)), (4, .box 25 (vV5 a1)), (6, .box 25 [.p (i6 (0)), .p (.sl .nil 0 [])]), (7, .box 25 [.p (i6 (t2_4.N)), .own 12]), (12, rW 73 x21_1_2)], L0, []⟩ trivial ?_
        exact WC.next [2, 3, 4, 6, 7, 8] [3, 4, 6, 7, 12] (by kernel_rfl) (hnext21 ((IntKind.i64.wrap (x21_1_1 + 1)), x21_1_2) h)
    · refine WC.condF c37 (by kernel_rfl) ?_
      refine WX.exit ?_
      refine WX.popCodeExit ?_
      refine WC.exit_nil (hexit21 _ _ (by simp) ?_)
      refine WX.popBlkHit ?_
      exact WC.keep [6, 7] [6, 7, 12] (by kernel_rfl) (hJ4 x21_1_2 h)
theorem riddleref01_pick_okP {k : Nat} {a0 : api_Bits} {a1 : api_Bits} {a2 : Bool} {r : api_Bits} (h : riddleref01_pick k a0 a1 a2 = some r) : Ans Tryd.prog 98 [pP5 a0, pP5 a1, bo (a2)] (pP5 r) := AnsO.ans (args := [pP5 a0, pP5 a1, bo (a2)]) (riddleref01_pick_ok h) (by kernel_rfl)
def riddleref01_And (k : Nat) (a0 : api_Bits) (a1 : api_Bits) : Option (api_Bits) :=
  (riddleref01_pick k a0 a1 true).bind fun t2_2 => some t2_2
theorem riddleref01_And_ok {k : Nat} {a0 : api_Bits} {a1 : api_Bits} {r : api_Bits} (h : riddleref01_And k a0 a1 = some r) : AnsO Tryd.prog 70 [] [.p (pP5 a0), .p (pP5 a1)] [(7, rW 73 r.Words)] (.agg [.p (i6 (r.N)), .own 7]) := by
  refine W_fnO [7] Tryd.func70 rfl (by kernel_rfl) (by kernel_rfl) (by kernel_rfl) (by kernel_rfl) ?_
  intro X hro hn
  unfold riddleref01_And at h
  refine WC.rg hn [] [2, 3, 4] [2, 3, 4] ⟨[(2, .ptr 2 0), (3, .ptr 3 0), (4, .ptr 4 0)], [(2, .box 25 (vV5 a0)), (3, .box 25 (vV5 a1)), (4, .box 25 [.p (i6 (0)), .p (.sl .nil 0 [])])], L0, []⟩ trivial ?_
  refine WX.seq ?_
  obtain ⟨t2_2, h2_1, h⟩ := bind_some h
  refine WC.r1 hn [(2, .co [] [] [] [(7, rW 73 t2_2.Words)] (.agg [.p (i6 (t2_2.N)), .own 7]))] [4] [4, 7] ⟨[(4, .ptr 4 0)], [(4, .box 25 [.p (i6 (t2_2.N)), .own 7]), (7, rW 73 t2_2.Words)], L0, []⟩ (And.intro (And.intro ((riddleref01_pick_ok h2_1).ren 12 7 (by kernel_rfl)) (trivial)) (trivial)) ?_
  refine WX.ret ?_
  exact WC.outO (by rw [← Option.some.inj h]; kernel_rfl)
theorem riddleref01_And_okP {k : Nat} {a0 : api_Bits} {a1 : api_Bits} {r : api_Bits} (h : riddleref01_And k a0 a1 = some r) : Ans Tryd.prog 70 [pP5 a0, pP5 a1] (pP5 r) := AnsO.ans (args := [pP5 a0, pP5 a1]) (riddleref01_And_ok h) (by kernel_rfl)
def riddleref11_Accepts (k : Nat) (a0 : api_Nfa) (a1 : api_Bits) : Option (Bool) :=
  (riddleref11_may k a0).bind fun t2_2 => (riddleref11_state k t2_2 a1).bind fun t3_2 => (riddleref01_And k t3_2 t2_2.Last).bind fun t3_4 => (riddleref01_List k t3_4).bind fun t3_6 => some ((decide ((t3_6.length : Int) > 0)))
theorem riddleref11_Accepts_ok {k : Nat} {a0 : api_Nfa} {a1 : api_Bits} {r : Bool} (h : riddleref11_Accepts k a0 a1 = some r) : Ans Tryd.prog 38 [pP2 a0, pP5 a1] (bo (r)) := by
  refine W_fn Tryd.func38 rfl (by kernel_rfl) (by kernel_rfl) ?_
  intro X hro hn
  unfold riddleref11_Accepts at h
  refine WC.rg hn [] [2, 3] [2, 3] ⟨[(2, .ptr 2 0), (3, .ptr 3 0)], [(2, .box 28 (vV2 a0)), (3, .box 25 (vV5 a1))], L0, []⟩ trivial ?_
  refine WX.seq ?_
  obtain ⟨t2_2, h2_1, h⟩ := bind_some h
  refine WC.r1 hn [(1, .resP (pP2 t2_2))] [2, 3] [2, 3] ⟨[(2, .ptr 2 0), (3, .ptr 3 0)], [(2, .box 28 (vV2 t2_2)), (3, .box 25 (vV5 a1))], L0, []⟩ (And.intro ((riddleref11_may_ok h2_1)) (trivial)) ?_
  refine WX.seq ?_
  obtain ⟨t3_2, h3_1, h⟩ := bind_some h
  obtain ⟨t3_4, h3_3, h⟩ := bind_some h
  obtain ⟨t3_6, h3_5, h⟩ := bind_some h
  refine WC.drw hn [] [] [(2, .resP (pP5 t3_2)), (5, .resP (pP5 t3_4)), (6, .resP (sI t3_6))] [4] [] ⟨[(4, .p (bo (((decide ((t3_6.length : Int) > 0))))))], [], L0, []⟩ (And.intro ((riddleref11_state_ok h3_1)) (And.intro ((riddleref01_And_okP h3_3)) (And.intro ((riddleref01_List_okP h3_5)) (trivial)))) (by kernel_rfl) (by kernel_rfl) (by kernel_rfl) (by kernel_rfl) ?_
  refine WX.ret ?_
  exact WC.outP (by rw [← Option.some.inj h]; kernel_rfl)
def riddleref11_Events_l0 (a1 : (List Int)) (a2 : Bool) (a3 : Bool) (t2_2 : api_Nfa) (J6 : List Int → Option ((List Int))) : Nat → (List Int × Int × Int × List Int) → Option ((List Int))
  | 0, _ => none
  | k + 1, (x26_1_1, x26_1_2, x26_1_3, x26_1_4) => (if (decide (x26_1_2 < (a1.length : Int))) = true then (riddleref11_begins a1 x26_1_2 a2 a3).bind fun t46_2 => (at_ a1 x26_1_2).bind fun t46_4 => (riddleref11_Next k t2_2 ((api_Bits.mk x26_1_3 x26_1_4)) t46_2 t46_4).bind fun t46_6 => (riddleref11_Accepts k t2_2 t46_6).bind fun t47_2 => (if t47_2 = true then (if okApp 8 (x26_1_1.length + ([(IntKind.i64.wrap (x26_1_2 + 1))]).length) then riddleref11_Events_l0 a1 a2 a3 t2_2 J6 k (x26_1_1 ++ ([(IntKind.i64.wrap (x26_1_2 + 1))]), (IntKind.i64.wrap (x26_1_2 + 1)), t46_6.N, t46_6.Words) else none) else riddleref11_Events_l0 a1 a2 a3 t2_2 J6 k (x26_1_1, (IntKind.i64.wrap (x26_1_2 + 1)), t46_6.N, t46_6.Words)) else J6 x26_1_1)
def riddleref11_Events (k : Nat) (a0 : api_Nfa) (a1 : (List Int)) (a2 : Bool) (a3 : Bool) : Option ((List Int)) :=
  (riddleref11_may k a0).bind fun t2_2 => (riddleref11_None k t2_2).bind fun t4_2 => jn (fun (v6 : List Int) => some v6) fun J6 => riddleref11_Events_l0 a1 a2 a3 t2_2 J6 k (([] : List Int), 0, t4_2.N, t4_2.Words)
theorem riddleref11_Events_ok {k : Nat} {a0 : api_Nfa} {a1 : (List Int)} {a2 : Bool} {a3 : Bool} {r : (List Int)} (h : riddleref11_Events k a0 a1 a2 a3 = some r) : AnsO Tryd.prog 12 [] [.p (pP2 a0), .p (slV (eI .u8) a1), .p (bo (a2)), .p (bo (a3))] [(41, rI 3 r)] (.own 41) := by
  refine W_fnO [41] Tryd.func12 rfl (by kernel_rfl) (by kernel_rfl) (by kernel_rfl) (by kernel_rfl) ?_
  intro X hro hn
  unfold riddleref11_Events at h
  refine WC.rg hn [] [1, 2, 3, 4] [4] ⟨[(1, .p (slV (eI .u8) a1)), (2, .p (bo (a2))), (3, .p (bo (a3))), (4, .ptr 4 0)], [(4, .box 28 (vV2 a0))], L0, []⟩ trivial ?_
  refine WX.seq ?_
  obtain ⟨t2_2, h2_1, h⟩ := bind_some h
  refine WC.r1 hn [(1, .resP (pP2 t2_2))] [1, 2, 3, 4] [4] ⟨[(1, .p (slV (eI .u8) a1)), (2, .p (bo (a2))), (3, .p (bo (a3))), (4, .ptr 4 0)], [(4, .box 28 (vV2 t2_2))], L0, []⟩ (And.intro ((riddleref11_may_ok h2_1)) (trivial)) ?_
  refine WC.rg hn [] [1, 2, 3, 4, 9] [4] ⟨[(1, .p (slV (eI .u8) a1)), (2, .p (bo (a2))), (3, .p (bo (a3))), (4, .ptr 4 0), (9, .p (.sl .nil 0 []))], [(4, .box 28 (vV2 t2_2))], L0, []⟩ trivial ?_
  refine WX.seq ?_
  obtain ⟨t4_2, h4_1, h⟩ := bind_some h
  refine WC.r1 hn [(1, .co [] [] [] [(15, rW 73 t4_2.Words)] (.agg [.p (i6 (t4_2.N)), .own 15]))] [1, 2, 3, 4, 9, 10] [4, 10, 15] ⟨[(1, .p (slV (eI .u8) a1)), (2, .p (bo (a2))), (3, .p (bo (a3))), (4, .ptr 4 0), (9, .p (.sl .nil 0 [])), (10, .ptr 10 0)], [(4, .box 28 (vV2 t2_2)), (10, .box 25 [.p (i6 (t4_2.N)), .own 15]), (15, rW 73 t4_2.Words)], L0, []⟩ (And.intro (And.intro ((riddleref11_None_ok h4_1).ren 7 15 (by kernel_rfl)) (trivial)) (trivial)) ?_
  refine WX.seq ?_
  refine WC.rg hn [] [1, 2, 3, 4, 9, 10, 11] [4, 10, 15] ⟨[(1, .p (slV (eI .u8) a1)), (2, .p (bo (a2))), (3, .p (bo (a3))), (4, .ptr 4 0), (9, .p (.sl .nil 0 [])), (10, .ptr 10 0), (11, .p (i6 (0)))], [(4, .box 28 (vV2 t2_2)), (10, .box 25 [.p (i6 (t4_2.N)), .own 15]), (15, rW 73 t4_2.Words)], L0, []⟩ trivial ?_
  obtain ⟨J6, eJ6, h⟩ := jn_some h
  try dsimp only at h
  refine WC.join (α := List Int) (fun v6 => ⟨[(9, .own 41)], [(41, rI 3 v6)], L0, []⟩) (fun v6 => J6 v6 = some r) ?_ (fun hJ6 => ?_)
  · rintro y6_1 h
    rw [eJ6] at h
    try dsimp only at h
    refine WC.rg hn [] [8] [41] ⟨[(8, .own 41)], [(41, rI 3 y6_1)], L0, []⟩ trivial ?_
    refine WX.ret ?_
    exact WC.outO (by rw [← Option.some.inj h]; kernel_rfl)
  · replace hJ6 := fun y6_1 => hJ6 y6_1
    refine WX.block ?_
    refine WC.nil hn [9] none 41 3 1 (by kernel_rfl) [1, 2, 3, 4, 9, 10, 11] [4, 10, 15, 41] (st' := ⟨[(1, .p (slV (eI .u8) a1)), (2, .p (bo (a2))), (3, .p (bo (a3))), (4, .ptr 4 0), (9, .own 41), (10, .ptr 10 0), (11, .p (i6 (0)))], [(4, .box 28 (vV2 t2_2)), (10, .box 25 [.p (i6 (t4_2.N)), .own 15]), (15, rW 73 t4_2.Words), (41, rI 3 (([] : List Int)))], L0, []⟩) (by kernel_rfl) ?_
    refine WC.frz 15 (st' := ⟨[(1, .p (slV (eI .u8) a1)), (2, .p (bo (a2))), (3, .p (bo (a3))), (4, .ptr 4 0), (9, .own 41), (10, .ptr 10 0), (11, .p (i6 (0)))], [(4, .box 28 (vV2 t2_2)), (10, .box 25 (vV5 t4_2)), (41, rI 3 (([] : List Int)))], L0, []⟩) (by kernel_rfl) ?_
    refine WC.loop (V := List Int × Int × Int × List Int) (riddleref11_Events_l0 a1 a2 a3 t2_2 J6) r (fun v26 => ⟨[(1, .p (slV (eI .u8) a1)), (2, .p (bo (a2))), (3, .p (bo (a3))), (4, .ptr 4 0), (9, .own 41), (10, .ptr 10 0), (11, .p (i6 (v26.2.1)))], [(4, .box 28 (vV2 t2_2)), (10, .box 25 [.p (i6 (v26.2.2.1)), .p (sW v26.2.2.2)]), (41, rI 3 v26.1)], L0, []⟩) _ (([] : List Int), 0, t4_2.N, t4_2.Words) h (fun _ => rfl) [1, 2, 3, 4, 9, 10, 11] [4, 10, 41] (by kernel_rfl) ?_
    clear h; rintro k ⟨x26_1_1, x26_1_2, x26_1_3, x26_1_4⟩ h K26 hnext26 hexit26
    rw [riddleref11_Events_l0] at h
    refine WX.seq ?_
    refine WC.rg hn [] [1, 2, 3, 4, 9, 10, 11, 19] [4, 10, 41] ⟨[(1, .p (slV (eI .u8) a1)), (2, .p (bo (a2))), (3, .p (bo (a3))), (4, .ptr 4 0), (9, .own 41), (10, .ptr 10 0), (11, .p (i6 (x26_1_2))), (19, .p (bo (((decide (x26_1_2 < (a1.length : Int)))))))], [(4, .box 28 (vV2 t2_2)), (10, .box 25 [.p (i6 (x26_1_3)), .p (sW x26_1_4)]), (41, rI 3 x26_1_1)], L0, []⟩ trivial ?_
    rcases if_or h with ⟨c45, h⟩ | ⟨c45, h⟩
    · refine WC.condT c45 (by kernel_rfl) ?_
      refine WX.skip ?_
      refine WX.seq ?_
      refine WX.block ?_
      refine WX.seq ?_
      obtain ⟨t46_2, h46_1, h⟩ := bind_some h
      obtain ⟨t46_4, h46_3, h⟩ := bind_some h
      obtain ⟨t46_6, h46_5, h⟩ := bind_some h
      refine WC.drw hn [(12, [])] [] [(6, .resP (bo (t46_2))), (9, .val (.p (.rop ((eI .u8).cells t46_4 ++ encL (eI .u8) (a1.drop (x26_1_2.toNat + 1)))))), (11, .resP (pP5 t46_6))] [1, 2, 3, 4, 9, 10, 11] [4, 10, 41] ⟨[(1, .p (slV (eI .u8) a1)), (2, .p (bo (a2))), (3, .p (bo (a3))), (4, .ptr 4 0), (9, .own 41), (10, .ptr 10 0), (11, .p (i6 (x26_1_2)))], [(4, .box 28 (vV2 t2_2)), (10, .box 25 (vV5 t46_6)), (41, rI 3 x26_1_1)], L0, []⟩ (And.intro ((riddleref11_begins_ok h46_1)) (And.intro (Ix (eI .u8) h46_3) (And.intro ((riddleref11_Next_okP h46_5)) (trivial)))) (by kernel_rfl) (by kernel_rfl) (by kernel_rfl) (by kernel_rfl) ?_
      refine WX.seq ?_
      obtain ⟨t47_2, h47_1, h⟩ := bind_some h
      refine WC.r1 hn [(2, .resP (bo (t47_2)))] [1, 2, 3, 4, 9, 10, 11, 36] [4, 10, 41] ⟨[(1, .p (slV (eI .u8) a1)), (2, .p (bo (a2))), (3, .p (bo (a3))), (4, .ptr 4 0), (9, .own 41), (10, .ptr 10 0), (11, .p (i6 (x26_1_2))), (36, .p (bo (t47_2)))], [(4, .box 28 (vV2 t2_2)), (10, .box 25 (vV5 t46_6)), (41, rI 3 x26_1_1)], L0, []⟩ (And.intro ((riddleref11_Accepts_ok h47_1)) (trivial)) ?_
      rcases if_or h with ⟨c48, h⟩ | ⟨c48, h⟩
      · refine WC.condT c48 (by kernel_rfl) ?_
        obtain ⟨c49_1, h⟩ := if_some h
        refine WC.r1 hn [(4, .app (some 41) (rI 3 (x26_1_1 ++ ([(IntKind.i64.wrap (x26_1_2 + 1))]))))] [1, 2, 3, 4, 9, 10, 11] [4, 10, 41] ⟨[(1, .p (slV (eI .u8) a1)), (2, .p (bo (a2))), (3, .p (bo (a3))), (4, .ptr 4 0), (9, .own 41), (10, .ptr 10 0), (11, .p (i6 (x26_1_2)))], [(4, .box 28 (vV2 t2_2)), (10, .box 25 (vV5 t46_6)), (41, rI 3 (x26_1_1 ++ ([(IntKind.i64.wrap (x26_1_2 + 1))])))], L0, []⟩ (And.intro (Ap (eI .i64) (some 41) 3 8 1 x26_1_1 ([(IntKind.i64.wrap (x26_1_2 + 1))]) c49_1) (trivial)) ?_
        refine WX.popBlk ?_
        refine WC.r1 hn [] [1, 2, 3, 4, 9, 10, 11] [4, 10, 41] ⟨[(1, .p (slV (eI .u8) a1)), (2, .p (bo (a2))), (3, .p (bo (a3))), (4, .ptr 4 0), (9, .own 41), (10, .ptr 10 0), (11, .p (i6 (((IntKind.i64.wrap (x26_1_2 + 1))))))], [(4, .box 28 (vV2 t2_2)), (10, .box 25 (vV5 t46_6)), (41, rI 3 (x26_1_1 ++ ([(IntKind.i64.wrap (x26_1_2 + 1))])))], L0, []⟩ trivial ?_
        exact WC.next [1, 2, 3, 4, 9, 10, 11] [4, 10, 41] (by kernel_rfl) (hnext26 (x26_1_1 ++ ([(IntKind.i64.wrap (x26_1_2 + 1))]), (IntKind.i64.wrap (x26_1_2 + 1)), t46_6.N, t46_6.Words) h)
      · refine WC.condF c48 (by kernel_rfl) ?_
        refine WX.skip ?_
        refine WX.popBlk ?_
        refine WC.r1 hn [] [1, 2, 3, 4, 9, 10, 11] [4, 10, 41] ⟨[(1, .p (slV (eI .u8) a1)), (2, .p (bo (a2))), (3, .p (bo (a3))), (4, .ptr 4 0), (9, .own 41), (10, .ptr 10 0), (11, .p (i6 (((IntKind.i64.wrap (x26_1_2 + 1))))))], [(4, .box 28 (vV2 t2_2)), (10, .box 25 (vV5 t46_6)), (41, rI 3 x26_1_1)], L0, []⟩ trivial ?_
        exact WC.next [1, 2, 3, 4, 9, 10, 11] [4, 10, 41] (by kernel_rfl) (hnext26 (x26_1_1, (IntKind.i64.wrap (x26_1_2 + 1)), t46_6.N, t46_6.Words) h)
    · refine WC.condF c45 (by kernel_rfl) ?_
      refine WX.exit ?_
      refine WX.popCodeExit ?_
      refine WC.exit_nil (hexit26 _ _ (by simp) ?_)
      refine WX.popBlkHit ?_
      exact WC.keep [9] [41] (by kernel_rfl) (hJ6 x26_1_1 h)
theorem riddleref11_Events_okP {k : Nat} {a0 : api_Nfa} {a1 : (List Int)} {a2 : Bool} {a3 : Bool} {r : (List Int)} (h : riddleref11_Events k a0 a1 a2 a3 = some r) : Ans Tryd.prog 12 [pP2 a0, slV (eI .u8) a1, bo (a2), bo (a3)] (sI r) := AnsO.ans (args := [pP2 a0, slV (eI .u8) a1, bo (a2), bo (a3)]) (riddleref11_Events_ok h) (by kernel_rfl)
def riddlelaw23_StartsTell_l0 (t6_2 : (List riddleref23_Event)) (J9 : List Int → Option (Bool)) : Nat → (List Int × Int) → Option (Bool)
  | 0, _ => none
  | k + 1, (x22_1_1, x22_1_2) => (if (decide (x22_1_2 < (t6_2.length : Int))) = true then (at_ t6_2 x22_1_2).bind fun t35_2 => (if okApp 8 (x22_1_1.length + ([t35_2.End]).length) then riddlelaw23_StartsTell_l0 t6_2 J9 k (x22_1_1 ++ ([t35_2.End]), (IntKind.i64.wrap (x22_1_2 + 1))) else none) else J9 x22_1_1)
def riddlelaw23_StartsTell (k : Nat) (a0 : riddlelaw23_Case) : Option (Bool) :=
  (riddlelaw23_live k).bind fun t2_2 => (if (!t2_2) = true then some false else (if (0 : Int) ≤ 0 ∧ 0 ≤ (minI ((a0.W.length : Int)) 40) ∧ (minI ((a0.W.length : Int)) 40) ≤ (a0.W.length : Nat) then (riddlelaw23_events k a0.Nfa (sub_ a0.W 0 ((minI ((a0.W.length : Int)) 40))) a0.Hat a0.Multi).bind fun t6_2 => jn (fun (v9 : List Int) => (riddleref23_Events k a0.Nfa (sub_ a0.W 0 ((minI ((a0.W.length : Int)) 40))) a0.Hat a0.Multi).bind fun t21_2 => (slices_Equal_riddle_riddleref23_Event_riddle_riddleref23_Event k t6_2 t21_2).bind fun t21_4 => ((if t21_4 = true then (riddleref11_Events k a0.Nfa (sub_ a0.W 0 ((minI ((a0.W.length : Int)) 40))) a0.Hat a0.Multi).bind fun t21_6 => (slices_Equal_int_int k v9 t21_6).bind fun t21_8 => some t21_8 else some false) : Option (Bool)).bind fun v21 => some v21) fun J9 => riddlelaw23_StartsTell_l0 t6_2 J9 k (([] : List Int), 0) else none))
theorem riddlelaw23_StartsTell_ok {k : Nat} {a0 : riddlelaw23_Case} {r : Bool} (h : riddlelaw23_StartsTell k a0 = some r) : Ans Tryd.prog 3 [pP0 a0] (bo (r)) := by
  refine W_fn Tryd.func3 rfl (by kernel_rfl) (by kernel_rfl) ?_
  intro X hro hn
  unfold riddlelaw23_StartsTell at h
  refine WC.rg hn [] [1] [1] ⟨[(1, .ptr 1 0)], [(1, .box 32 (vV0 a0))], L0, []⟩ trivial ?_
  refine WX.seq ?_
  refine WX.seq ?_
  obtain ⟨t2_2, h2_1, h⟩ := bind_some h
  refine WC.r1 hn [(0, .resP (bo (t2_2)))] [1, 9] [1] ⟨[(1, .ptr 1 0), (9, .p (bo (((!t2_2)))))], [(1, .box 32 (vV0 a0))], L0, []⟩ (And.intro ((riddlelaw23_live_ok h2_1)) (trivial)) ?_
  rcases if_or h with ⟨c3, h⟩ | ⟨c3, h⟩
  · refine WC.condT c3 (by kernel_rfl) ?_
    refine WC.rg hn [] [2] [] ⟨[(2, .p (bo (false)))], [], L0, []⟩ trivial ?_
    refine WX.ret ?_
    exact WC.outP (by rw [← Option.some.inj h]; kernel_rfl)
  · refine WC.condF c3 (by kernel_rfl) ?_
    refine WX.skip ?_
    refine WX.seq ?_
    obtain ⟨c5_1, h⟩ := if_some h
    refine WC.r1 hn [(6, .val (.p (slV (eI .u8) (sub_ a0.W 0 ((minI ((a0.W.length : Int)) 40))))))] [1, 3] [1] ⟨[(1, .ptr 1 0), (3, .p (slV (eI .u8) (sub_ a0.W 0 ((minI ((a0.W.length : Int)) 40)))))], [(1, .box 32 (vV0 a0))], L0, []⟩ (And.intro (Sl (eI .u8) a0.W 0 ((minI ((a0.W.length : Int)) 40)) c5_1) (trivial)) ?_
    refine WX.seq ?_
    obtain ⟨t6_2, h6_1, h⟩ := bind_some h
    refine WC.r1 hn [(7, .co [] [] [] [(24, rowV 38 e_riddleref23_Event t6_2)] (.own 24))] [1, 3, 4] [1, 24] ⟨[(1, .ptr 1 0), (3, .p (slV (eI .u8) (sub_ a0.W 0 ((minI ((a0.W.length : Int)) 40))))), (4, .own 24)], [(1, .box 32 (vV0 a0)), (24, rowV 38 e_riddleref23_Event t6_2)], L0, []⟩ (And.intro (And.intro ((riddlelaw23_events_ok h6_1).ren 28 24 (by kernel_rfl)) (trivial)) (trivial)) ?_
    refine WC.rg hn [] [1, 3, 4, 5] [1, 24] ⟨[(1, .ptr 1 0), (3, .p (slV (eI .u8) (sub_ a0.W 0 ((minI ((a0.W.length : Int)) 40))))), (4, .own 24), (5, .p (.sl .nil 0 []))], [(1, .box 32 (vV0 a0)), (24, rowV 38 e_riddleref23_Event t6_2)], L0, []⟩ trivial ?_
    refine WX.seq ?_
    refine WC.rg hn [] [1, 3, 4, 5, 25, 26, 27] [1, 24] ⟨[(1, .ptr 1 0), (3, .p (slV (eI .u8) (sub_ a0.W 0 ((minI ((a0.W.length : Int)) 40))))), (4, .own 24), (5, .p (.sl .nil 0 [])), (25, .own 24), (26, .p (i6 (((t6_2.length : Int))))), (27, .p (i6 (0)))], [(1, .box 32 (vV0 a0)), (24, rowV 38 e_riddleref23_Event t6_2)], L0, []⟩ trivial ?_
    obtain ⟨J9, eJ9, h⟩ := jn_some h
    try dsimp only at h
    refine WC.join (α := List Int) (fun v9 => ⟨[(1, .ptr 1 0), (3, .p (slV (eI .u8) (sub_ a0.W 0 ((minI ((a0.W.length : Int)) 40))))), (4, .own 24), (5, .own 35)], [(1, .box 32 (vV0 a0)), (24, rowV 38 e_riddleref23_Event t6_2), (35, rI 3 v9)], L0, []⟩) (fun v9 => J9 v9 = some r) ?_ (fun hJ9 => ?_)
    · rintro y9_1 h
      rw [eJ9] at h
      try dsimp only at h
      refine WX.seq ?_
      obtain ⟨t21_2, h21_1, h⟩ := bind_some h
      obtain ⟨t21_4, h21_3, h⟩ := bind_some h
      obtain ⟨m21_1, g21, h⟩ := bind_some h
      refine WC.via (α := Bool) (fun v21 => ⟨[(2, .p (bo (v21)))], [], L0, []⟩) m21_1 (fun hk => ?_) ?_
      · rcases if_or g21 with ⟨b21_10, g21⟩ | ⟨b21_10, g21⟩
        · obtain ⟨t21_6, h21_5, g21⟩ := bind_some g21
          obtain ⟨t21_8, h21_7, g21⟩ := bind_some g21
          exact WC.reg hn [(8, .co [] [] [] [(45, rowV 38 e_riddleref23_Event t21_2)] (.own 45)), (9, .res (bo (t21_4))), (10, .val (.p (bo (true)))), (19, .co [] [] [] [(56, rI 3 t21_6)] (.own 56)), (20, .res (bo (t21_8)))] [2] [] ⟨[(2, .p (bo (t21_8)))], [], L0, []⟩ (And.intro (And.intro ((riddleref23_Events_ok h21_1).ren 61 45 (by kernel_rfl)) (trivial)) (And.intro (And.intro (slices_Equal_riddle_riddleref23_Event_riddle_riddleref23_Event_ok h21_3) (rfl : (bo (t21_4) : PV).flat = true)) (And.intro (Bl b21_10) (And.intro (And.intro ((riddleref11_Events_ok h21_5).ren 41 56 (by kernel_rfl)) (trivial)) (And.intro (And.intro (slices_Equal_int_int_ok h21_7) (rfl : (bo (t21_8) : PV).flat = true)) (trivial)))))) (by kernel_rfl) (hk t21_8 (Option.some.inj g21))
        · exact WC.reg hn [(8, .co [] [] [] [(45, rowV 38 e_riddleref23_Event t21_2)] (.own 45)), (9, .res (bo (t21_4))), (10, .val (.p (bo (false))))] [2] [] ⟨[(2, .p (bo (false)))], [], L0, []⟩ (And.intro (And.intro ((riddleref23_Events_ok h21_1).ren 61 45 (by kernel_rfl)) (trivial)) (And.intro (And.intro (slices_Equal_riddle_riddleref23_Event_riddle_riddleref23_Event_ok h21_3) (rfl : (bo (t21_4) : PV).flat = true)) (And.intro (Bl b21_10) (trivial)))) (by kernel_rfl) (hk false (Option.some.inj g21))
      refine WX.ret ?_
      exact WC.outP (by rw [← Option.some.inj h]; kernel_rfl)
    · replace hJ9 := fun y9_1 => hJ9 y9_1
      refine WX.block ?_
      refine WC.nil hn [5] none 35 3 1 (by kernel_rfl) [1, 3, 4, 5, 25, 26, 27] [1, 24, 35] (st' := ⟨[(1, .ptr 1 0), (3, .p (slV (eI .u8) (sub_ a0.W 0 ((minI ((a0.W.length : Int)) 40))))), (4, .own 24), (5, .own 35), (25, .own 24), (26, .p (i6 (((t6_2.length : Int))))), (27, .p (i6 (0)))], [(1, .box 32 (vV0 a0)), (24, rowV 38 e_riddleref23_Event t6_2), (35, rI 3 (([] : List Int)))], L0, []⟩) (by kernel_rfl) ?_
      refine WC.loop (V := List Int × Int) (riddlelaw23_StartsTell_l0 t6_2 J9) r (fun v22 => ⟨[(1, .ptr 1 0), (3, .p (slV (eI .u8) (sub_ a0.W 0 ((minI ((a0.W.length : Int)) 40))))), (4, .own 24), (5, .own 35), (25, .own 24), (26, .p (i6 (((t6_2.length : Int))))), (27, .p (i6 (v22.2)))], [(1, .box 32 (vV0 a0)), (24, rowV 38 e_riddleref23_Event t6_2), (35, rI 3 v22.1)], L0, []⟩) _ (([] : List Int), 0) h (fun _ => rfl) [1, 3, 4, 5, 25, 26, 27] [1, 24, 35] (by kernel_rfl) ?_
      clear h; rintro k ⟨x22_1_1, x22_1_2⟩ h K22 hnext22 hexit22
      rw [riddlelaw23_StartsTell_l0] at h
      refine WC.rg hn [] [1, 3, 4, 5, 25, 26, 27, 28] [1, 24, 35] ⟨[(1, .ptr 1 0), (3, .p (slV (eI .u8) (sub_ a0.W 0 ((minI ((a0.W.length : Int)) 40))))), (4, .own 24), (5, .own 35), (25, .own 24), (26, .p (i6 (((t6_2.length : Int))))), (27, .p (i6 (x22_1_2))), (28, .p (bo (((decide (x22_1_2 < (t6_2.length : Int)))))))], [(1, .box 32 (vV0 a0)), (24, rowV 38 e_riddleref23_Event t6_2), (35, rI 3 x22_1_1)], L0, []⟩ trivial ?_
      refine WX.seq ?_
      rcases if_or h with ⟨c34, h⟩ | ⟨c34, h⟩
      · refine WC.condT c34 (by kernel_rfl) ?_
        refine WX.skip ?_
        refine WX.seq ?_
        refine WX.block ?_
        refine WX.seq ?_
        obtain ⟨t35_2, h35_1, h⟩ := bind_some h
        refine WC.r1 hn [(0, .val (.ptr 24 (x22_1_2.toNat * 2))), (1, .val (.p (pP6 t35_2)))] [1, 3, 4, 5, 7, 25, 26, 27] [1, 7, 24, 35] ⟨[(1, .ptr 1 0), (3, .p (slV (eI .u8) (sub_ a0.W 0 ((minI ((a0.W.length : Int)) 40))))), (4, .own 24), (5, .own 35), (7, .ptr 7 0), (25, .own 24), (26, .p (i6 (((t6_2.length : Int))))), (27, .p (i6 (x22_1_2)))], [(1, .box 32 (vV0 a0)), (7, .box 38 (vV6 t35_2)), (24, rowV 38 e_riddleref23_Event t6_2), (35, rI 3 x22_1_1)], L0, []⟩ (And.intro (IxO 24 2 h35_1) (And.intro (LdO0 Tryd.prog e_riddleref23_Event 38 h35_1) (trivial))) ?_
        obtain ⟨c36_1, h⟩ := if_some h
        refine WC.r1 hn [(4, .app (some 35) (rI 3 (x22_1_1 ++ ([t35_2.End]))))] [1, 3, 4, 5, 25, 26, 27] [1, 24, 35] ⟨[(1, .ptr 1 0), (3, .p (slV (eI .u8) (sub_ a0.W 0 ((minI ((a0.W.length : Int)) 40))))), (4, .own 24), (5, .own 35), (25, .own 24), (26, .p (i6 (((t6_2.length : Int))))), (27, .p (i6 (x22_1_2)))], [(1, .box 32 (vV0 a0)), (24, rowV 38 e_riddleref23_Event t6_2), (35, rI 3 (x22_1_1 ++ ([t35_2.End])))], L0, []⟩ (And.intro (Ap (eI .i64) (some 35) 3 8 1 x22_1_1 ([t35_2.End]) c36_1) (trivial)) ?_
        refine WX.popBlk ?_
        refine WC.r1 hn [] [1, 3, 4, 5, 25, 26, 27] [1, 24, 35] ⟨[(1, .ptr 1 0), (3, .p (slV (eI .u8) (sub_ a0.W 0 ((minI ((a0.W.length : Int)) 40))))), (4, .own 24), (5, .own 35), (25, .own 24), (26, .p (i6 (((t6_2.length : Int))))), (27, .p (i6 (((IntKind.i64.wrap (x22_1_2 + 1))))))], [(1, .box 32 (vV0 a0)), (24, rowV 38 e_riddleref23_Event t6_2), (35, rI 3 (x22_1_1 ++ ([t35_2.End])))], L0, []⟩ trivial ?_
        exact WC.next [1, 3, 4, 5, 25, 26, 27] [1, 24, 35] (by kernel_rfl) (hnext22 (x22_1_1 ++ ([t35_2.End]), (IntKind.i64.wrap (x22_1_2 + 1))) h)
      · refine WC.condF c34 (by kernel_rfl) ?_
        refine WX.exit ?_
        refine WX.popCodeExit ?_
        refine WC.exit_nil (hexit22 _ _ (by simp) ?_)
        refine WX.popBlkHit ?_
        exact WC.keep [1, 3, 4, 5] [1, 24, 35] (by kernel_rfl) (hJ9 x22_1_1 h)
def slices_Clone_int64_int64 (a0 : (List Int)) : Option ((List Int)) :=
  (if okApp 8 (([] : List Int).length + a0.length) then some (([] : List Int) ++ a0) else none)
theorem slices_Clone_int64_int64_ok {a0 : (List Int)} {r : (List Int)} (h : slices_Clone_int64_int64 a0 = some r) : AnsO Tryd.prog 15 [] [.p (sI a0)] [(7, rI 2 r)] (.own 7) := by
  refine W_fnO [7] Tryd.func15 rfl (by kernel_rfl) (by kernel_rfl) (by kernel_rfl) (by kernel_rfl) ?_
  intro X hro hn
  unfold slices_Clone_int64_int64 at h
  refine WC.rg hn [] [0] [] ⟨[(0, .p (sI a0))], [], L0, []⟩ trivial ?_
  refine WX.seq ?_
  refine WX.seq ?_
  refine WC.nilCase (E := (eI .i64)) (l := a0) 0 (by kernel_rfl) (fun hnil => ?_) ?_
  · have h1 : (some (([] : List Int))) = some r := by rw [hnil] at h; clear hnil; simp at h ⊢; first | exact h.2 | exact h | simp_all
    replace h := h1
    refine WC.keep [0] [] (st' := ⟨[(0, .p (.sl .isnil a0.length (encL (eI .i64) a0)))], [], L0, []⟩) (by kernel_rfl) ?_
    refine WC.r1 hn [] [0, 4] [] ⟨[(0, .p (.sl .isnil a0.length (encL (eI .i64) a0))), (4, .p (bo (true)))], [], L0, []⟩ trivial ?_
    refine WC.tag [0] [] [0, 4] [] (st' := ⟨[(0, .p (sI a0)), (4, .p (bo (true)))], [], L0, []⟩) (by kernel_rfl) ?_
    refine WC.condT rfl (by kernel_rfl) ?_
    refine WC.rg hn [] [2] [] ⟨[(2, .p (.sl .nil 0 []))], [], L0, []⟩ trivial ?_
    refine WX.ret ?_
    refine WC.nil hn [2] none 7 2 1 (by kernel_rfl) [2] [7] (st' := ⟨[(2, .own 7)], [(7, rI 2 (([] : List Int)))], L0, []⟩) (by kernel_rfl) ?_
    exact WC.outO (by rw [← Option.some.inj h]; kernel_rfl)
  · refine WC.keep [0] [] (st' := ⟨[(0, .p (.sl .nn a0.length (encL (eI .i64) a0)))], [], L0, []⟩) (by kernel_rfl) ?_
    refine WC.r1 hn [] [0, 4] [] ⟨[(0, .p (.sl .nn a0.length (encL (eI .i64) a0))), (4, .p (bo (false)))], [], L0, []⟩ trivial ?_
    refine WC.tag [0] [] [0, 4] [] (st' := ⟨[(0, .p (sI a0)), (4, .p (bo (false)))], [], L0, []⟩) (by kernel_rfl) ?_
    refine WC.condF rfl (by kernel_rfl) ?_
    refine WX.skip ?_
    refine WX.seq ?_
    obtain ⟨c6_1, h⟩ := if_some h
    refine WC.r1 hn [(2, .app (some 5) (rI 2 (([] : List Int) ++ a0)))] [2] [7] ⟨[(2, .own 7)], [(7, rI 2 (([] : List Int) ++ a0))], L0, []⟩ (And.intro (ApS (eI .i64) (some 5) 2 8 ([] : List Int) a0 c6_1) (trivial)) ?_
    refine WX.ret ?_
    exact WC.outO (by rw [← Option.some.inj h]; kernel_rfl)
theorem slices_Clone_int64_int64_okP {a0 : (List Int)} {r : (List Int)} (h : slices_Clone_int64_int64 a0 = some r) : Ans Tryd.prog 15 [sI a0] (sI r) := AnsO.ans (args := [sI a0]) (slices_Clone_int64_int64_ok h) (by kernel_rfl)
def riddleref23_Same_l0 (a0 : (List Int)) (a1 : (List Int)) (J6 : Unit → Option (Bool)) : Nat → Int → Option (Bool)
  | 0, _ => none
  | k + 1, x21_1_1 => (if (decide (x21_1_1 < (a0.length : Int))) = true then (at_ a0 x21_1_1).bind fun t36_2 => (at_ a1 x21_1_1).bind fun t36_4 => (if (t36_2 != t36_4) = true then some false else riddleref23_Same_l0 a0 a1 J6 k ((IntKind.i64.wrap (x21_1_1 + 1)))) else J6 ())
def riddleref23_Same (k : Nat) (a0 : (List Int)) (a1 : (List Int)) : Option (Bool) :=
  (if ((a0.length : Int) != (a1.length : Int)) = true then some false else jn (fun (v6 : Unit) => some true) fun J6 => riddleref23_Same_l0 a0 a1 J6 k 0)
theorem riddleref23_Same_ok {k : Nat} {a0 : (List Int)} {a1 : (List Int)} {r : Bool} (h : riddleref23_Same k a0 a1 = some r) : Ans Tryd.prog 17 [sI a0, sI a1] (bo (r)) := by
  refine W_fn Tryd.func17 rfl (by kernel_rfl) (by kernel_rfl) ?_
  intro X hro hn
  unfold riddleref23_Same at h
  refine WC.rg hn [] [0, 1] [] ⟨[(0, .p (sI a0)), (1, .p (sI a1))], [], L0, []⟩ trivial ?_
  refine WX.seq ?_
  refine WC.rg hn [] [0, 1, 10] [] ⟨[(0, .p (sI a0)), (1, .p (sI a1)), (10, .p (bo ((((a0.length : Int) != (a1.length : Int))))))], [], L0, []⟩ trivial ?_
  rcases if_or h with ⟨c3, h⟩ | ⟨c3, h⟩
  · refine WC.condT c3 (by kernel_rfl) ?_
    refine WC.rg hn [] [4] [] ⟨[(4, .p (bo (false)))], [], L0, []⟩ trivial ?_
    refine WX.ret ?_
    exact WC.outP (by rw [← Option.some.inj h]; kernel_rfl)
  · refine WC.condF c3 (by kernel_rfl) ?_
    refine WX.skip ?_
    refine WX.seq ?_
    refine WC.rg hn [] [0, 1, 5] [] ⟨[(0, .p (sI a0)), (1, .p (sI a1)), (5, .p (i6 (0)))], [], L0, []⟩ trivial ?_
    obtain ⟨J6, eJ6, h⟩ := jn_some h
    try dsimp only at h
    refine WC.join (α := Unit) (fun v6 => ⟨[], [], L0, []⟩) (fun v6 => J6 v6 = some r) ?_ (fun hJ6 => ?_)
    · rintro _ h
      rw [eJ6] at h
      try dsimp only at h
      refine WC.rg hn [] [4] [] ⟨[(4, .p (bo (true)))], [], L0, []⟩ trivial ?_
      refine WX.ret ?_
      exact WC.outP (by rw [← Option.some.inj h]; kernel_rfl)
    · skip
      refine WX.block ?_
      refine WC.loop (V := Int) (riddleref23_Same_l0 a0 a1 J6) r (fun v21 => ⟨[(0, .p (sI a0)), (1, .p (sI a1)), (5, .p (i6 (v21)))], [], L0, []⟩) _ 0 h (fun _ => rfl) [0, 1, 5] [] (by kernel_rfl) ?_
      clear h; rintro k x21_1_1 h K21 hnext21 hexit21
      rw [riddleref23_Same_l0] at h
      refine WX.seq ?_
      refine WC.rg hn [] [0, 1, 5, 14] [] ⟨[(0, .p (sI a0)), (1, .p (sI a1)), (5, .p (i6 (x21_1_1))), (14, .p (bo (((decide (x21_1_1 < (a0.length : Int)))))))], [], L0, []⟩ trivial ?_
      rcases if_or h with ⟨c35, h⟩ | ⟨c35, h⟩
      · refine WC.condT c35 (by kernel_rfl) ?_
        refine WX.skip ?_
        refine WX.seq ?_
        refine WX.block ?_
        refine WX.seq ?_
        obtain ⟨t36_2, h36_1, h⟩ := bind_some h
        obtain ⟨t36_4, h36_3, h⟩ := bind_some h
        refine WC.drw hn [] [] [(2, .val (.p (.rop ((eI .i64).cells t36_2 ++ encL (eI .i64) (a0.drop (x21_1_1.toNat + 1)))))), (6, .val (.p (.rop ((eI .i64).cells t36_4 ++ encL (eI .i64) (a1.drop (x21_1_1.toNat + 1))))))] [0, 1, 5, 25] [] ⟨[(0, .p (sI a0)), (1, .p (sI a1)), (5, .p (i6 (x21_1_1))), (25, .p (bo (((t36_2 != t36_4)))))], [], L0, []⟩ (And.intro (Ix (eI .i64) h36_1) (And.intro (Ix (eI .i64) h36_3) (trivial))) (by kernel_rfl) (by kernel_rfl) (by kernel_rfl) (by kernel_rfl) ?_
        rcases if_or h with ⟨c37, h⟩ | ⟨c37, h⟩
        · refine WC.condT c37 (by kernel_rfl) ?_
          refine WC.rg hn [] [4] [] ⟨[(4, .p (bo (false)))], [], L0, []⟩ trivial ?_
          refine WX.ret ?_
          refine WC.ret_all (hexit21 _ _ (by simp) ?_)
          exact WC.outP (by rw [← Option.some.inj h]; kernel_rfl)
        · refine WC.condF c37 (by kernel_rfl) ?_
          refine WX.skip ?_
          refine WX.popBlk ?_
          refine WC.r1 hn [] [0, 1, 5] [] ⟨[(0, .p (sI a0)), (1, .p (sI a1)), (5, .p (i6 (((IntKind.i64.wrap (x21_1_1 + 1))))))], [], L0, []⟩ trivial ?_
          exact WC.next [0, 1, 5] [] (by kernel_rfl) (hnext21 ((IntKind.i64.wrap (x21_1_1 + 1))) h)
      · refine WC.condF c35 (by kernel_rfl) ?_
        refine WX.exit ?_
        refine WX.popCodeExit ?_
        refine WC.exit_nil (hexit21 _ _ (by simp) ?_)
        refine WX.popBlkHit ?_
        exact WC.keep [] [] (by kernel_rfl) (hJ6 () h)
def riddleref01_Exact_l0 (a0 : api_Bits) (a1 : api_Bits) (J6 : Unit → Option (Bool)) : Nat → Int → Option (Bool)
  | 0, _ => none
  | k + 1, x21_1_1 => (if (decide (x21_1_1 < (a0.Words.length : Int))) = true then (at_ a0.Words x21_1_1).bind fun t36_2 => (at_ a1.Words x21_1_1).bind fun t36_4 => (if (t36_2 != t36_4) = true then some false else riddleref01_Exact_l0 a0 a1 J6 k ((IntKind.i64.wrap (x21_1_1 + 1)))) else J6 ())
def riddleref01_Exact (k : Nat) (a0 : api_Bits) (a1 : api_Bits) : Option (Bool) :=
  (if (((a0.N != a1.N)) || (((a0.Words.length : Int) != (a1.Words.length : Int)))) = true then some false else jn (fun (v6 : Unit) => some true) fun J6 => riddleref01_Exact_l0 a0 a1 J6 k 0)
theorem riddleref01_Exact_ok {k : Nat} {a0 : api_Bits} {a1 : api_Bits} {r : Bool} (h : riddleref01_Exact k a0 a1 = some r) : Ans Tryd.prog 25 [pP5 a0, pP5 a1] (bo (r)) := by
  refine W_fn Tryd.func25 rfl (by kernel_rfl) (by kernel_rfl) ?_
  intro X hro hn
  unfold riddleref01_Exact at h
  refine WC.rg hn [] [2, 3] [2, 3] ⟨[(2, .ptr 2 0), (3, .ptr 3 0)], [(2, .box 25 (vV5 a0)), (3, .box 25 (vV5 a1))], L0, []⟩ trivial ?_
  refine WX.seq ?_
  refine WX.seq ?_
  refine WC.via (α := Bool) (fun v2 => ⟨[(2, .ptr 2 0), (3, .ptr 3 0), (19, .p (bo (v2)))], [(2, .box 25 (vV5 a0)), (3, .box 25 (vV5 a1))], L0, []⟩) ((((a0.N != a1.N)) || (((a0.Words.length : Int) != (a1.Words.length : Int))))) (fun hk => ?_) ?_
  · rcases Bool.eq_false_or_eq_true ((a0.N != a1.N)) with b2_5 | b2_5
    · exact WC.reg hn [(5, .val (.p (bo (true))))] [2, 3, 19] [2, 3] ⟨[(2, .ptr 2 0), (3, .ptr 3 0), (19, .p (bo (true)))], [(2, .box 25 (vV5 a0)), (3, .box 25 (vV5 a1))], L0, []⟩ (And.intro (Bl b2_5) (trivial)) (by kernel_rfl) (hk true (by first | (rw [b2_5]; rfl) | simp [b2_5]))
    · exact WC.reg hn [(5, .val (.p (bo (false))))] [2, 3, 19] [2, 3] ⟨[(2, .ptr 2 0), (3, .ptr 3 0), (19, .p (bo ((((a0.Words.length : Int) != (a1.Words.length : Int))))))], [(2, .box 25 (vV5 a0)), (3, .box 25 (vV5 a1))], L0, []⟩ (And.intro (Bl b2_5) (trivial)) (by kernel_rfl) (hk (((a0.Words.length : Int) != (a1.Words.length : Int))) (by first | (rw [b2_5]; rfl) | simp [b2_5]))
  rcases if_or h with ⟨c3, h⟩ | ⟨c3, h⟩
  · refine WC.condT c3 (by kernel_rfl) ?_
    refine WC.rg hn [] [4] [] ⟨[(4, .p (bo (false)))], [], L0, []⟩ trivial ?_
    refine WX.ret ?_
    exact WC.outP (by rw [← Option.some.inj h]; kernel_rfl)
  · refine WC.condF c3 (by kernel_rfl) ?_
    refine WX.skip ?_
    refine WX.seq ?_
    refine WC.rg hn [] [2, 3, 5] [2, 3] ⟨[(2, .ptr 2 0), (3, .ptr 3 0), (5, .p (i6 (0)))], [(2, .box 25 (vV5 a0)), (3, .box 25 (vV5 a1))], L0, []⟩ trivial ?_
    obtain ⟨J6, eJ6, h⟩ := jn_some h
    try dsimp only at h
    refine WC.join (α := Unit) (fun v6 => ⟨[], [], L0, []⟩) (fun v6 => J6 v6 = some r) ?_ (fun hJ6 => ?_)
    · rintro _ h
      rw [eJ6] at h
      try dsimp only at h
      refine WC.rg hn [] [4] [] ⟨[(4, .p (bo (true)))], [], L0, []⟩ trivial ?_
      refine WX.ret ?_
      exact WC.outP (by rw [← Option.some.inj h]; kernel_rfl)
    · skip
      refine WX.block ?_
      refine WC.loop (V := Int) (riddleref01_Exact_l0 a0 a1 J6) r (fun v21 => ⟨[(2, .ptr 2 0), (3, .ptr 3 0), (5, .p (i6 (v21)))], [(2, .box 25 (vV5 a0)), (3, .box 25 (vV5 a1))], L0, []⟩) _ 0 h (fun _ => rfl) [2, 3, 5] [2, 3] (by kernel_rfl) ?_
      clear h; rintro k x21_1_1 h K21 hnext21 hexit21
      rw [riddleref01_Exact_l0] at h
      refine WX.seq ?_
      refine WC.rg hn [] [2, 3, 5, 24] [2, 3] ⟨[(2, .ptr 2 0), (3, .ptr 3 0), (5, .p (i6 (x21_1_1))), (24, .p (bo (((decide (x21_1_1 < (a0.Words.length : Int)))))))], [(2, .box 25 (vV5 a0)), (3, .box 25 (vV5 a1))], L0, []⟩ trivial ?_
      rcases if_or h with ⟨c35, h⟩ | ⟨c35, h⟩
      · refine WC.condT c35 (by kernel_rfl) ?_
        refine WX.skip ?_
        refine WX.seq ?_
        refine WX.block ?_
        refine WX.seq ?_
        obtain ⟨t36_2, h36_1, h⟩ := bind_some h
        obtain ⟨t36_4, h36_3, h⟩ := bind_some h
        refine WC.drw hn [] [] [(3, .val (.p (.rop ((eI .u64).cells t36_2 ++ encL (eI .u64) (a0.Words.drop (x21_1_1.toNat + 1)))))), (8, .val (.p (.rop ((eI .u64).cells t36_4 ++ encL (eI .u64) (a1.Words.drop (x21_1_1.toNat + 1))))))] [2, 3, 5, 37] [2, 3] ⟨[(2, .ptr 2 0), (3, .ptr 3 0), (5, .p (i6 (x21_1_1))), (37, .p (bo (((t36_2 != t36_4)))))], [(2, .box 25 (vV5 a0)), (3, .box 25 (vV5 a1))], L0, []⟩ (And.intro (Ix (eI .u64) h36_1) (And.intro (Ix (eI .u64) h36_3) (trivial))) (by kernel_rfl) (by kernel_rfl) (by kernel_rfl) (by kernel_rfl) ?_
        rcases if_or h with ⟨c37, h⟩ | ⟨c37, h⟩
        · refine WC.condT c37 (by kernel_rfl) ?_
          refine WC.rg hn [] [4] [] ⟨[(4, .p (bo (false)))], [], L0, []⟩ trivial ?_
          refine WX.ret ?_
          refine WC.ret_all (hexit21 _ _ (by simp) ?_)
          exact WC.outP (by rw [← Option.some.inj h]; kernel_rfl)
        · refine WC.condF c37 (by kernel_rfl) ?_
          refine WX.skip ?_
          refine WX.popBlk ?_
          refine WC.r1 hn [] [2, 3, 5] [2, 3] ⟨[(2, .ptr 2 0), (3, .ptr 3 0), (5, .p (i6 (((IntKind.i64.wrap (x21_1_1 + 1))))))], [(2, .box 25 (vV5 a0)), (3, .box 25 (vV5 a1))], L0, []⟩ trivial ?_
          exact WC.next [2, 3, 5] [2, 3] (by kernel_rfl) (hnext21 ((IntKind.i64.wrap (x21_1_1 + 1))) h)
      · refine WC.condF c35 (by kernel_rfl) ?_
        refine WX.exit ?_
        refine WX.popCodeExit ?_
        refine WC.exit_nil (hexit21 _ _ (by simp) ?_)
        refine WX.popBlkHit ?_
        exact WC.keep [] [] (by kernel_rfl) (hJ6 () h)
def starts_Bits_l0 (t4_2 : (List Int)) (J5 : List Int → Option (api_Bits)) : Nat → (List Int × Int) → Option (api_Bits)
  | 0, _ => none
  | k + 1, (x25_1_1, x25_1_2) => (if (decide (x25_1_2 < (t4_2.length : Int))) = true then (at_ t4_2 x25_1_2).bind fun t44_2 => (if (decide (t44_2 ≥ 0)) = true then (if okApp 8 (x25_1_1.length + ([x25_1_2]).length) then starts_Bits_l0 t4_2 J5 k (x25_1_1 ++ ([x25_1_2]), (IntKind.i64.wrap (x25_1_2 + 1))) else none) else starts_Bits_l0 t4_2 J5 k (x25_1_1, (IntKind.i64.wrap (x25_1_2 + 1)))) else J5 x25_1_1)
def starts_Bits (k : Nat) (a0 : api_Nfa) (a1 : (List Int)) : Option (api_Bits) :=
  (starts_may k a0).bind fun t2_2 => (starts_state k t2_2 a1).bind fun t4_2 => jn (fun (v5 : List Int) => (bits_New k ((t2_2.Classes.length : Int)) v5).bind fun t23_2 => some t23_2.1) fun J5 => starts_Bits_l0 t4_2 J5 k (([] : List Int), 0)
theorem starts_Bits_ok {k : Nat} {a0 : api_Nfa} {a1 : (List Int)} {r : api_Bits} (h : starts_Bits k a0 a1 = some r) : AnsO Tryd.prog 26 [] [.p (pP2 a0), .p (sI a1)] [(33, rW 73 r.Words)] (.agg [.p (i6 (r.N)), .own 33]) := by
  refine W_fnO [33] Tryd.func26 rfl (by kernel_rfl) (by kernel_rfl) (by kernel_rfl) (by kernel_rfl) ?_
  intro X hro hn
  unfold starts_Bits at h
  refine WC.rg hn [] [1, 2, 4] [2, 4] ⟨[(1, .p (sI a1)), (2, .ptr 2 0), (4, .ptr 4 0)], [(2, .box 28 (vV2 a0)), (4, .box 25 [.p (i6 (0)), .p (.sl .nil 0 [])])], L0, []⟩ trivial ?_
  refine WX.seq ?_
  obtain ⟨t2_2, h2_1, h⟩ := bind_some h
  refine WC.r1 hn [(1, .resP (pP2 t2_2))] [1, 2, 4] [2, 4] ⟨[(1, .p (sI a1)), (2, .ptr 2 0), (4, .ptr 4 0)], [(2, .box 28 (vV2 t2_2)), (4, .box 25 [.p (i6 (0)), .p (.sl .nil 0 [])])], L0, []⟩ (And.intro ((starts_may_ok h2_1)) (trivial)) ?_
  refine WC.rg hn [] [1, 2, 4, 5] [2, 4] ⟨[(1, .p (sI a1)), (2, .ptr 2 0), (4, .ptr 4 0), (5, .p (.sl .nil 0 []))], [(2, .box 28 (vV2 t2_2)), (4, .box 25 [.p (i6 (0)), .p (.sl .nil 0 [])])], L0, []⟩ trivial ?_
  refine WX.seq ?_
  refine WX.seq ?_
  obtain ⟨t4_2, h4_1, h⟩ := bind_some h
  refine WC.r1 hn [(2, .resP (sI t4_2))] [2, 4, 5, 14, 15, 16] [2, 4] ⟨[(2, .ptr 2 0), (4, .ptr 4 0), (5, .p (.sl .nil 0 [])), (14, .p (sI t4_2)), (15, .p (i6 (((t4_2.length : Int))))), (16, .p (i6 (0)))], [(2, .box 28 (vV2 t2_2)), (4, .box 25 [.p (i6 (0)), .p (.sl .nil 0 [])])], L0, []⟩ (And.intro ((starts_state_ok h4_1)) (trivial)) ?_
  obtain ⟨J5, eJ5, h⟩ := jn_some h
  try dsimp only at h
  refine WC.join (α := List Int) (fun v5 => ⟨[(2, .ptr 2 0), (4, .ptr 4 0), (5, .own 26)], [(2, .box 28 (vV2 t2_2)), (4, .box 25 [.p (i6 (0)), .p (.sl .nil 0 [])]), (26, rI 3 v5)], L0, []⟩) (fun v5 => J5 v5 = some r) ?_ (fun hJ5 => ?_)
  · rintro y5_1 h
    rw [eJ5] at h
    try dsimp only at h
    refine WX.seq ?_
    obtain ⟨t23_2, h23_1, h⟩ := bind_some h
    refine WC.r1 hn [(4, .co [] [] [26] [(33, rW 73 t23_2.1.Words)] (.tup [.agg [.p (i6 (t23_2.1.N)), .own 33], .p (i6 (t23_2.2))]))] [4, 8] [4, 8, 33] ⟨[(4, .ptr 4 0), (8, .ptr 8 0)], [(4, .box 25 [.p (i6 (0)), .p (.sl .nil 0 [])]), (8, .box 25 [.p (i6 (t23_2.1.N)), .own 33]), (33, rW 73 t23_2.1.Words)], L0, []⟩ (And.intro (And.intro ((bits_New_ok h23_1).ren 17 33 (by kernel_rfl)) (And.intro (rfl : (.tup [.agg [.p (i6 (t23_2.1.N)), .own 33], .p (i6 (t23_2.2))] : AV).flat = true) (And.intro (flats_encL (eI .u64) (fun _ => rfl) t23_2.1.Words) (trivial)))) (trivial)) ?_
    refine WC.rg hn [] [4] [4, 33] ⟨[(4, .ptr 4 0)], [(4, .box 25 [.p (i6 (t23_2.1.N)), .own 33]), (33, rW 73 t23_2.1.Words)], L0, []⟩ trivial ?_
    refine WX.ret ?_
    exact WC.outO (by rw [← Option.some.inj h]; kernel_rfl)
  · replace hJ5 := fun y5_1 => hJ5 y5_1
    refine WX.block ?_
    refine WC.nil hn [5] none 26 3 1 (by kernel_rfl) [2, 4, 5, 14, 15, 16] [2, 4, 26] (st' := ⟨[(2, .ptr 2 0), (4, .ptr 4 0), (5, .own 26), (14, .p (sI t4_2)), (15, .p (i6 (((t4_2.length : Int))))), (16, .p (i6 (0)))], [(2, .box 28 (vV2 t2_2)), (4, .box 25 [.p (i6 (0)), .p (.sl .nil 0 [])]), (26, rI 3 (([] : List Int)))], L0, []⟩) (by kernel_rfl) ?_
    refine WC.loop (V := List Int × Int) (starts_Bits_l0 t4_2 J5) r (fun v25 => ⟨[(2, .ptr 2 0), (4, .ptr 4 0), (5, .own 26), (14, .p (sI t4_2)), (15, .p (i6 (((t4_2.length : Int))))), (16, .p (i6 (v25.2)))], [(2, .box 28 (vV2 t2_2)), (4, .box 25 [.p (i6 (0)), .p (.sl .nil 0 [])]), (26, rI 3 v25.1)], L0, []⟩) _ (([] : List Int), 0) h (fun _ => rfl) [2, 4, 5, 14, 15, 16] [2, 4, 26] (by kernel_rfl) ?_
    clear h; rintro k ⟨x25_1_1, x25_1_2⟩ h K25 hnext25 hexit25
    rw [starts_Bits_l0] at h
    refine WC.rg hn [] [2, 4, 5, 14, 15, 16, 17] [2, 4, 26] ⟨[(2, .ptr 2 0), (4, .ptr 4 0), (5, .own 26), (14, .p (sI t4_2)), (15, .p (i6 (((t4_2.length : Int))))), (16, .p (i6 (x25_1_2))), (17, .p (bo (((decide (x25_1_2 < (t4_2.length : Int)))))))], [(2, .box 28 (vV2 t2_2)), (4, .box 25 [.p (i6 (0)), .p (.sl .nil 0 [])]), (26, rI 3 x25_1_1)], L0, []⟩ trivial ?_
    refine WX.seq ?_
    rcases if_or h with ⟨c43, h⟩ | ⟨c43, h⟩
    · refine WC.condT c43 (by kernel_rfl) ?_
      refine WX.skip ?_
      refine WX.seq ?_
      refine WX.block ?_
      refine WX.seq ?_
      obtain ⟨t44_2, h44_1, h⟩ := bind_some h
      refine WC.r1 hn [(1, .val (.p (.rop ((eI .i64).cells t44_2 ++ encL (eI .i64) (t4_2.drop (x25_1_2.toNat + 1))))))] [2, 4, 5, 6, 7, 14, 15, 16] [2, 4, 26] ⟨[(2, .ptr 2 0), (4, .ptr 4 0), (5, .own 26), (6, .p (i6 (x25_1_2))), (7, .p (i6 (t44_2))), (14, .p (sI t4_2)), (15, .p (i6 (((t4_2.length : Int))))), (16, .p (i6 (x25_1_2)))], [(2, .box 28 (vV2 t2_2)), (4, .box 25 [.p (i6 (0)), .p (.sl .nil 0 [])]), (26, rI 3 x25_1_1)], L0, []⟩ (And.intro (Ix (eI .i64) h44_1) (trivial)) ?_
      refine WC.rg hn [] [2, 4, 5, 6, 14, 15, 16, 22] [2, 4, 26] ⟨[(2, .ptr 2 0), (4, .ptr 4 0), (5, .own 26), (6, .p (i6 (x25_1_2))), (14, .p (sI t4_2)), (15, .p (i6 (((t4_2.length : Int))))), (16, .p (i6 (x25_1_2))), (22, .p (bo (((decide (t44_2 ≥ 0))))))], [(2, .box 28 (vV2 t2_2)), (4, .box 25 [.p (i6 (0)), .p (.sl .nil 0 [])]), (26, rI 3 x25_1_1)], L0, []⟩ trivial ?_
      rcases if_or h with ⟨c46, h⟩ | ⟨c46, h⟩
      · refine WC.condT c46 (by kernel_rfl) ?_
        obtain ⟨c47_1, h⟩ := if_some h
        refine WC.r1 hn [(3, .app (some 26) (rI 3 (x25_1_1 ++ ([x25_1_2]))))] [2, 4, 5, 14, 15, 16] [2, 4, 26] ⟨[(2, .ptr 2 0), (4, .ptr 4 0), (5, .own 26), (14, .p (sI t4_2)), (15, .p (i6 (((t4_2.length : Int))))), (16, .p (i6 (x25_1_2)))], [(2, .box 28 (vV2 t2_2)), (4, .box 25 [.p (i6 (0)), .p (.sl .nil 0 [])]), (26, rI 3 (x25_1_1 ++ ([x25_1_2])))], L0, []⟩ (And.intro (Ap (eI .i64) (some 26) 3 8 1 x25_1_1 ([x25_1_2]) c47_1) (trivial)) ?_
        refine WX.popBlk ?_
        refine WC.r1 hn [] [2, 4, 5, 14, 15, 16] [2, 4, 26] ⟨[(2, .ptr 2 0), (4, .ptr 4 0), (5, .own 26), (14, .p (sI t4_2)), (15, .p (i6 (((t4_2.length : Int))))), (16, .p (i6 (((IntKind.i64.wrap (x25_1_2 + 1))))))], [(2, .box 28 (vV2 t2_2)), (4, .box 25 [.p (i6 (0)), .p (.sl .nil 0 [])]), (26, rI 3 (x25_1_1 ++ ([x25_1_2])))], L0, []⟩ trivial ?_
        exact WC.next [2, 4, 5, 14, 15, 16] [2, 4, 26] (by kernel_rfl) (hnext25 (x25_1_1 ++ ([x25_1_2]), (IntKind.i64.wrap (x25_1_2 + 1))) h)
      · refine WC.condF c46 (by kernel_rfl) ?_
        refine WX.skip ?_
        refine WX.popBlk ?_
        refine WC.r1 hn [] [2, 4, 5, 14, 15, 16] [2, 4, 26] ⟨[(2, .ptr 2 0), (4, .ptr 4 0), (5, .own 26), (14, .p (sI t4_2)), (15, .p (i6 (((t4_2.length : Int))))), (16, .p (i6 (((IntKind.i64.wrap (x25_1_2 + 1))))))], [(2, .box 28 (vV2 t2_2)), (4, .box 25 [.p (i6 (0)), .p (.sl .nil 0 [])]), (26, rI 3 x25_1_1)], L0, []⟩ trivial ?_
        exact WC.next [2, 4, 5, 14, 15, 16] [2, 4, 26] (by kernel_rfl) (hnext25 (x25_1_1, (IntKind.i64.wrap (x25_1_2 + 1))) h)
    · refine WC.condF c43 (by kernel_rfl) ?_
      refine WX.exit ?_
      refine WX.popCodeExit ?_
      refine WC.exit_nil (hexit25 _ _ (by simp) ?_)
      refine WX.popBlkHit ?_
      exact WC.keep [2, 4, 5] [2, 4, 26] (by kernel_rfl) (hJ5 x25_1_1 h)
theorem starts_Bits_okP {k : Nat} {a0 : api_Nfa} {a1 : (List Int)} {r : api_Bits} (h : starts_Bits k a0 a1 = some r) : Ans Tryd.prog 26 [pP2 a0, sI a1] (pP5 r) := AnsO.ans (args := [pP2 a0, sI a1]) (starts_Bits_ok h) (by kernel_rfl)
def riddleref23_Bits_l0 (t3_2 : (List Int)) (J6 : List Int → Option (api_Bits)) : Nat → (List Int × Int) → Option (api_Bits)
  | 0, _ => none
  | k + 1, (x24_1_1, x24_1_2) => (if (decide (x24_1_2 < (t3_2.length : Int))) = true then (at_ t3_2 x24_1_2).bind fun t41_2 => (if (decide (t41_2 ≥ 0)) = true then (if okApp 8 (x24_1_1.length + ([x24_1_2]).length) then riddleref23_Bits_l0 t3_2 J6 k (x24_1_1 ++ ([x24_1_2]), (IntKind.i64.wrap (x24_1_2 + 1))) else none) else riddleref23_Bits_l0 t3_2 J6 k (x24_1_1, (IntKind.i64.wrap (x24_1_2 + 1)))) else J6 x24_1_1)
def riddleref23_Bits (k : Nat) (a0 : api_Nfa) (a1 : (List Int)) : Option (api_Bits) :=
  (riddleref23_may k a0).bind fun t2_2 => (riddleref23_state k t2_2 a1).bind fun t3_2 => jn (fun (v6 : List Int) => (riddleref01_New k ((t2_2.Classes.length : Int)) v6).bind fun t22_2 => some t22_2.1) fun J6 => riddleref23_Bits_l0 t3_2 J6 k (([] : List Int), 0)
theorem riddleref23_Bits_ok {k : Nat} {a0 : api_Nfa} {a1 : (List Int)} {r : api_Bits} (h : riddleref23_Bits k a0 a1 = some r) : AnsO Tryd.prog 27 [] [.p (pP2 a0), .p (sI a1)] [(34, rW 73 r.Words)] (.agg [.p (i6 (r.N)), .own 34]) := by
  refine W_fnO [34] Tryd.func27 rfl (by kernel_rfl) (by kernel_rfl) (by kernel_rfl) (by kernel_rfl) ?_
  intro X hro hn
  unfold riddleref23_Bits at h
  refine WC.rg hn [] [1, 2, 4] [2, 4] ⟨[(1, .p (sI a1)), (2, .ptr 2 0), (4, .ptr 4 0)], [(2, .box 28 (vV2 a0)), (4, .box 25 [.p (i6 (0)), .p (.sl .nil 0 [])])], L0, []⟩ trivial ?_
  refine WX.seq ?_
  obtain ⟨t2_2, h2_1, h⟩ := bind_some h
  refine WC.r1 hn [(1, .resP (pP2 t2_2))] [1, 2, 4] [2, 4] ⟨[(1, .p (sI a1)), (2, .ptr 2 0), (4, .ptr 4 0)], [(2, .box 28 (vV2 t2_2)), (4, .box 25 [.p (i6 (0)), .p (.sl .nil 0 [])])], L0, []⟩ (And.intro ((riddleref23_may_ok h2_1)) (trivial)) ?_
  refine WX.seq ?_
  obtain ⟨t3_2, h3_1, h⟩ := bind_some h
  refine WC.r1 hn [(2, .resP (sI t3_2))] [1, 2, 4] [2, 4] ⟨[(1, .p (sI t3_2)), (2, .ptr 2 0), (4, .ptr 4 0)], [(2, .box 28 (vV2 t2_2)), (4, .box 25 [.p (i6 (0)), .p (.sl .nil 0 [])])], L0, []⟩ (And.intro ((riddleref23_state_ok h3_1)) (trivial)) ?_
  refine WC.rg hn [] [1, 2, 4, 5] [2, 4] ⟨[(1, .p (sI t3_2)), (2, .ptr 2 0), (4, .ptr 4 0), (5, .p (.sl .nil 0 []))], [(2, .box 28 (vV2 t2_2)), (4, .box 25 [.p (i6 (0)), .p (.sl .nil 0 [])])], L0, []⟩ trivial ?_
  refine WX.seq ?_
  refine WC.rg hn [] [1, 2, 4, 5, 6] [2, 4] ⟨[(1, .p (sI t3_2)), (2, .ptr 2 0), (4, .ptr 4 0), (5, .p (.sl .nil 0 [])), (6, .p (i6 (0)))], [(2, .box 28 (vV2 t2_2)), (4, .box 25 [.p (i6 (0)), .p (.sl .nil 0 [])])], L0, []⟩ trivial ?_
  obtain ⟨J6, eJ6, h⟩ := jn_some h
  try dsimp only at h
  refine WC.join (α := List Int) (fun v6 => ⟨[(2, .ptr 2 0), (4, .ptr 4 0), (5, .own 28)], [(2, .box 28 (vV2 t2_2)), (4, .box 25 [.p (i6 (0)), .p (.sl .nil 0 [])]), (28, rI 3 v6)], L0, []⟩) (fun v6 => J6 v6 = some r) ?_ (fun hJ6 => ?_)
  · rintro y6_1 h
    rw [eJ6] at h
    try dsimp only at h
    refine WX.seq ?_
    obtain ⟨t22_2, h22_1, h⟩ := bind_some h
    refine WC.r1 hn [(4, .co [] [] [28] [(34, rW 73 t22_2.1.Words)] (.tup [.agg [.p (i6 (t22_2.1.N)), .own 34], .p (i6 (t22_2.2))]))] [4, 7] [4, 7, 34] ⟨[(4, .ptr 4 0), (7, .ptr 7 0)], [(4, .box 25 [.p (i6 (0)), .p (.sl .nil 0 [])]), (7, .box 25 [.p (i6 (t22_2.1.N)), .own 34]), (34, rW 73 t22_2.1.Words)], L0, []⟩ (And.intro (And.intro ((riddleref01_New_ok h22_1).ren 16 34 (by kernel_rfl)) (And.intro (rfl : (.tup [.agg [.p (i6 (t22_2.1.N)), .own 34], .p (i6 (t22_2.2))] : AV).flat = true) (And.intro (flats_encL (eI .u64) (fun _ => rfl) t22_2.1.Words) (trivial)))) (trivial)) ?_
    refine WC.rg hn [] [4] [4, 34] ⟨[(4, .ptr 4 0)], [(4, .box 25 [.p (i6 (t22_2.1.N)), .own 34]), (34, rW 73 t22_2.1.Words)], L0, []⟩ trivial ?_
    refine WX.ret ?_
    exact WC.outO (by rw [← Option.some.inj h]; kernel_rfl)
  · replace hJ6 := fun y6_1 => hJ6 y6_1
    refine WX.block ?_
    refine WC.nil hn [5] none 28 3 1 (by kernel_rfl) [1, 2, 4, 5, 6] [2, 4, 28] (st' := ⟨[(1, .p (sI t3_2)), (2, .ptr 2 0), (4, .ptr 4 0), (5, .own 28), (6, .p (i6 (0)))], [(2, .box 28 (vV2 t2_2)), (4, .box 25 [.p (i6 (0)), .p (.sl .nil 0 [])]), (28, rI 3 (([] : List Int)))], L0, []⟩) (by kernel_rfl) ?_
    refine WC.loop (V := List Int × Int) (riddleref23_Bits_l0 t3_2 J6) r (fun v24 => ⟨[(1, .p (sI t3_2)), (2, .ptr 2 0), (4, .ptr 4 0), (5, .own 28), (6, .p (i6 (v24.2)))], [(2, .box 28 (vV2 t2_2)), (4, .box 25 [.p (i6 (0)), .p (.sl .nil 0 [])]), (28, rI 3 v24.1)], L0, []⟩) _ (([] : List Int), 0) h (fun _ => rfl) [1, 2, 4, 5, 6] [2, 4, 28] (by kernel_rfl) ?_
    clear h; rintro k ⟨x24_1_1, x24_1_2⟩ h K24 hnext24 hexit24
    rw [riddleref23_Bits_l0] at h
    refine WX.seq ?_
    refine WC.rg hn [] [1, 2, 4, 5, 6, 17] [2, 4, 28] ⟨[(1, .p (sI t3_2)), (2, .ptr 2 0), (4, .ptr 4 0), (5, .own 28), (6, .p (i6 (x24_1_2))), (17, .p (bo (((decide (x24_1_2 < (t3_2.length : Int)))))))], [(2, .box 28 (vV2 t2_2)), (4, .box 25 [.p (i6 (0)), .p (.sl .nil 0 [])]), (28, rI 3 x24_1_1)], L0, []⟩ trivial ?_
    rcases if_or h with ⟨c40, h⟩ | ⟨c40, h⟩
    · refine WC.condT c40 (by kernel_rfl) ?_
      refine WX.skip ?_
      refine WX.seq ?_
      refine WX.block ?_
      refine WX.seq ?_
      obtain ⟨t41_2, h41_1, h⟩ := bind_some h
      refine WC.r1 hn [(2, .val (.p (.rop ((eI .i64).cells t41_2 ++ encL (eI .i64) (t3_2.drop (x24_1_2.toNat + 1))))))] [1, 2, 4, 5, 6, 24] [2, 4, 28] ⟨[(1, .p (sI t3_2)), (2, .ptr 2 0), (4, .ptr 4 0), (5, .own 28), (6, .p (i6 (x24_1_2))), (24, .p (bo (((decide (t41_2 ≥ 0))))))], [(2, .box 28 (vV2 t2_2)), (4, .box 25 [.p (i6 (0)), .p (.sl .nil 0 [])]), (28, rI 3 x24_1_1)], L0, []⟩ (And.intro (Ix (eI .i64) h41_1) (trivial)) ?_
      rcases if_or h with ⟨c42, h⟩ | ⟨c42, h⟩
      · refine WC.condT c42 (by kernel_rfl) ?_
        obtain ⟨c43_1, h⟩ := if_some h
        refine WC.r1 hn [(3, .app (some 28) (rI 3 (x24_1_1 ++ ([x24_1_2]))))] [1, 2, 4, 5, 6] [2, 4, 28] ⟨[(1, .p (sI t3_2)), (2, .ptr 2 0), (4, .ptr 4 0), (5, .own 28), (6, .p (i6 (x24_1_2)))], [(2, .box 28 (vV2 t2_2)), (4, .box 25 [.p (i6 (0)), .p (.sl .nil 0 [])]), (28, rI 3 (x24_1_1 ++ ([x24_1_2])))], L0, []⟩ (And.intro (Ap (eI .i64) (some 28) 3 8 1 x24_1_1 ([x24_1_2]) c43_1) (trivial)) ?_
        refine WX.popBlk ?_
        refine WC.r1 hn [] [1, 2, 4, 5, 6] [2, 4, 28] ⟨[(1, .p (sI t3_2)), (2, .ptr 2 0), (4, .ptr 4 0), (5, .own 28), (6, .p (i6 (((IntKind.i64.wrap (x24_1_2 + 1))))))], [(2, .box 28 (vV2 t2_2)), (4, .box 25 [.p (i6 (0)), .p (.sl .nil 0 [])]), (28, rI 3 (x24_1_1 ++ ([x24_1_2])))], L0, []⟩ trivial ?_
        exact WC.next [1, 2, 4, 5, 6] [2, 4, 28] (by kernel_rfl) (hnext24 (x24_1_1 ++ ([x24_1_2]), (IntKind.i64.wrap (x24_1_2 + 1))) h)
      · refine WC.condF c42 (by kernel_rfl) ?_
        refine WX.skip ?_
        refine WX.popBlk ?_
        refine WC.r1 hn [] [1, 2, 4, 5, 6] [2, 4, 28] ⟨[(1, .p (sI t3_2)), (2, .ptr 2 0), (4, .ptr 4 0), (5, .own 28), (6, .p (i6 (((IntKind.i64.wrap (x24_1_2 + 1))))))], [(2, .box 28 (vV2 t2_2)), (4, .box 25 [.p (i6 (0)), .p (.sl .nil 0 [])]), (28, rI 3 x24_1_1)], L0, []⟩ trivial ?_
        exact WC.next [1, 2, 4, 5, 6] [2, 4, 28] (by kernel_rfl) (hnext24 (x24_1_1, (IntKind.i64.wrap (x24_1_2 + 1))) h)
    · refine WC.condF c40 (by kernel_rfl) ?_
      refine WX.exit ?_
      refine WX.popCodeExit ?_
      refine WC.exit_nil (hexit24 _ _ (by simp) ?_)
      refine WX.popBlkHit ?_
      exact WC.keep [2, 4, 5] [2, 4, 28] (by kernel_rfl) (hJ6 x24_1_1 h)
theorem riddleref23_Bits_okP {k : Nat} {a0 : api_Nfa} {a1 : (List Int)} {r : api_Bits} (h : riddleref23_Bits k a0 a1 = some r) : Ans Tryd.prog 27 [pP2 a0, sI a1] (pP5 r) := AnsO.ans (args := [pP2 a0, sI a1]) (riddleref23_Bits_ok h) (by kernel_rfl)
def slices_Equal_int64_int64_l0 (a0 : (List Int)) (a1 : (List Int)) (J6 : Unit → Option (Bool)) : Nat → Int → Option (Bool)
  | 0, _ => none
  | k + 1, x23_1_1 => (if (decide (x23_1_1 < (a0.length : Int))) = true then (at_ a0 x23_1_1).bind fun t41_2 => (at_ a1 x23_1_1).bind fun t41_4 => (if (t41_2 != t41_4) = true then some false else slices_Equal_int64_int64_l0 a0 a1 J6 k ((IntKind.i64.wrap (x23_1_1 + 1)))) else J6 ())
def slices_Equal_int64_int64 (k : Nat) (a0 : (List Int)) (a1 : (List Int)) : Option (Bool) :=
  (if ((a0.length : Int) != (a1.length : Int)) = true then some false else jn (fun (v6 : Unit) => some true) fun J6 => slices_Equal_int64_int64_l0 a0 a1 J6 k 0)
theorem slices_Equal_int64_int64_ok {k : Nat} {a0 : (List Int)} {a1 : (List Int)} {r : Bool} (h : slices_Equal_int64_int64 k a0 a1 = some r) : Ans Tryd.prog 28 [sI a0, sI a1] (bo (r)) := by
  refine W_fn Tryd.func28 rfl (by kernel_rfl) (by kernel_rfl) ?_
  intro X hro hn
  unfold slices_Equal_int64_int64 at h
  refine WC.rg hn [] [0, 1] [] ⟨[(0, .p (sI a0)), (1, .p (sI a1))], [], L0, []⟩ trivial ?_
  refine WX.seq ?_
  refine WC.rg hn [] [0, 1, 10] [] ⟨[(0, .p (sI a0)), (1, .p (sI a1)), (10, .p (bo ((((a0.length : Int) != (a1.length : Int))))))], [], L0, []⟩ trivial ?_
  rcases if_or h with ⟨c3, h⟩ | ⟨c3, h⟩
  · refine WC.condT c3 (by kernel_rfl) ?_
    refine WC.rg hn [] [4] [] ⟨[(4, .p (bo (false)))], [], L0, []⟩ trivial ?_
    refine WX.ret ?_
    exact WC.outP (by rw [← Option.some.inj h]; kernel_rfl)
  · refine WC.condF c3 (by kernel_rfl) ?_
    refine WX.skip ?_
    refine WX.seq ?_
    refine WC.rg hn [] [0, 1, 12, 13] [] ⟨[(0, .p (sI a0)), (1, .p (sI a1)), (12, .p (i6 (((a0.length : Int))))), (13, .p (i6 (0)))], [], L0, []⟩ trivial ?_
    obtain ⟨J6, eJ6, h⟩ := jn_some h
    try dsimp only at h
    refine WC.join (α := Unit) (fun v6 => ⟨[], [], L0, []⟩) (fun v6 => J6 v6 = some r) ?_ (fun hJ6 => ?_)
    · rintro _ h
      rw [eJ6] at h
      try dsimp only at h
      refine WC.rg hn [] [4] [] ⟨[(4, .p (bo (true)))], [], L0, []⟩ trivial ?_
      refine WX.ret ?_
      exact WC.outP (by rw [← Option.some.inj h]; kernel_rfl)
    · skip
      refine WX.block ?_
      refine WC.loop (V := Int) (slices_Equal_int64_int64_l0 a0 a1 J6) r (fun v23 => ⟨[(0, .p (sI a0)), (1, .p (sI a1)), (12, .p (i6 (((a0.length : Int))))), (13, .p (i6 (v23)))], [], L0, []⟩) _ 0 h (fun _ => rfl) [0, 1, 12, 13] [] (by kernel_rfl) ?_
      clear h; rintro k x23_1_1 h K23 hnext23 hexit23
      rw [slices_Equal_int64_int64_l0] at h
      refine WC.rg hn [] [0, 1, 12, 13, 14] [] ⟨[(0, .p (sI a0)), (1, .p (sI a1)), (12, .p (i6 (((a0.length : Int))))), (13, .p (i6 (x23_1_1))), (14, .p (bo (((decide (x23_1_1 < (a0.length : Int)))))))], [], L0, []⟩ trivial ?_
      refine WX.seq ?_
      rcases if_or h with ⟨c39, h⟩ | ⟨c39, h⟩
      · refine WC.condT c39 (by kernel_rfl) ?_
        refine WX.skip ?_
        refine WX.seq ?_
        refine WX.block ?_
        refine WC.rg hn [] [0, 1, 5, 12, 13] [] ⟨[(0, .p (sI a0)), (1, .p (sI a1)), (5, .p (i6 (x23_1_1))), (12, .p (i6 (((a0.length : Int))))), (13, .p (i6 (x23_1_1)))], [], L0, []⟩ trivial ?_
        refine WX.seq ?_
        obtain ⟨t41_2, h41_1, h⟩ := bind_some h
        obtain ⟨t41_4, h41_3, h⟩ := bind_some h
        refine WC.drw hn [] [] [(2, .val (.p (.rop ((eI .i64).cells t41_2 ++ encL (eI .i64) (a0.drop (x23_1_1.toNat + 1)))))), (6, .val (.p (.rop ((eI .i64).cells t41_4 ++ encL (eI .i64) (a1.drop (x23_1_1.toNat + 1))))))] [0, 1, 12, 13, 24] [] ⟨[(0, .p (sI a0)), (1, .p (sI a1)), (12, .p (i6 (((a0.length : Int))))), (13, .p (i6 (x23_1_1))), (24, .p (bo (((t41_2 != t41_4)))))], [], L0, []⟩ (And.intro (Ix (eI .i64) h41_1) (And.intro (Ix (eI .i64) h41_3) (trivial))) (by kernel_rfl) (by kernel_rfl) (by kernel_rfl) (by kernel_rfl) ?_
        rcases if_or h with ⟨c42, h⟩ | ⟨c42, h⟩
        · refine WC.condT c42 (by kernel_rfl) ?_
          refine WC.rg hn [] [4] [] ⟨[(4, .p (bo (false)))], [], L0, []⟩ trivial ?_
          refine WX.ret ?_
          refine WC.ret_all (hexit23 _ _ (by simp) ?_)
          exact WC.outP (by rw [← Option.some.inj h]; kernel_rfl)
        · refine WC.condF c42 (by kernel_rfl) ?_
          refine WX.skip ?_
          refine WX.popBlk ?_
          refine WC.r1 hn [] [0, 1, 12, 13] [] ⟨[(0, .p (sI a0)), (1, .p (sI a1)), (12, .p (i6 (((a0.length : Int))))), (13, .p (i6 (((IntKind.i64.wrap (x23_1_1 + 1))))))], [], L0, []⟩ trivial ?_
          exact WC.next [0, 1, 12, 13] [] (by kernel_rfl) (hnext23 ((IntKind.i64.wrap (x23_1_1 + 1))) h)
      · refine WC.condF c39 (by kernel_rfl) ?_
        refine WX.exit ?_
        refine WX.popCodeExit ?_
        refine WC.exit_nil (hexit23 _ _ (by simp) ?_)
        refine WX.popBlkHit ?_
        exact WC.keep [] [] (by kernel_rfl) (hJ6 () h)
def riddlelaw23_StartsSteps_l0 (t6_2 : (List Int)) (J9 : Unit → Option (Bool)) : Nat → (List Int × Int) → Option (Bool)
  | 0, _ => none
  | k + 1, (x22_1_1, x22_1_2) => (if (decide (x22_1_2 < (t6_2.length : Int))) = true then (at_ x22_1_1 x22_1_2).bind fun t36_2 => riddlelaw23_StartsSteps_l0 t6_2 J9 k (x22_1_1.set x22_1_2.toNat ((IntKind.i64.wrap (t36_2 + 1))), (IntKind.i64.wrap (x22_1_2 + 1))) else J9 ())
def riddlelaw23_StartsSteps (k : Nat) (a0 : riddlelaw23_Case) : Option (Bool) :=
  (riddlelaw23_live k).bind fun t2_2 => (if (!t2_2) = true then some false else (slices_Clone_int64_int64 a0.State).bind fun t5_2 => (starts_Next k a0.Nfa a0.State a0.Begin a0.B).bind fun t6_2 => (riddleref23_Next k a0.Nfa a0.State a0.Begin a0.B).bind fun t7_2 => (riddleref23_Same k t6_2 t7_2).bind fun t7_4 => ((if t7_4 = true then (starts_Check k a0.Nfa a0.State).bind fun t7_6 => (riddleref23_Check k a0.Nfa a0.State).bind fun t7_8 => (if (t7_6 == t7_8) = true then (starts_None k a0.Nfa).bind fun t7_10 => (riddleref23_None k a0.Nfa).bind fun t7_12 => (riddleref23_Same k t7_10 t7_12).bind fun t7_14 => (if t7_14 = true then (starts_Least k a0.Nfa a0.State).bind fun t7_16 => (riddleref23_Least k a0.Nfa a0.State).bind fun t7_18 => (if (t7_16 == t7_18) = true then (starts_Bits k a0.Nfa a0.State).bind fun t7_20 => (riddleref23_Bits k a0.Nfa a0.State).bind fun t7_22 => (riddleref01_Exact k t7_20 t7_22).bind fun t7_24 => some t7_24 else some false) else some false) else some false) else some false) : Option (Bool)).bind fun v7 => jn (fun (v9 : Unit) => ((if v7 = true then (slices_Equal_int64_int64 k a0.State t5_2).bind fun t21_2 => some t21_2 else some false) : Option (Bool)).bind fun v21 => some v21) fun J9 => riddlelaw23_StartsSteps_l0 t6_2 J9 k (t6_2, 0))
theorem riddlelaw23_StartsSteps_ok {k : Nat} {a0 : riddlelaw23_Case} {r : Bool} (h : riddlelaw23_StartsSteps k a0 = some r) : Ans Tryd.prog 5 [pP0 a0] (bo (r)) := by
  refine W_fn Tryd.func5 rfl (by kernel_rfl) (by kernel_rfl) ?_
  intro X hro hn
  unfold riddlelaw23_StartsSteps at h
  refine WC.rg hn [] [1] [1] ⟨[(1, .ptr 1 0)], [(1, .box 32 (vV0 a0))], L0, []⟩ trivial ?_
  refine WX.seq ?_
  refine WX.seq ?_
  obtain ⟨t2_2, h2_1, h⟩ := bind_some h
  refine WC.r1 hn [(0, .resP (bo (t2_2)))] [1, 8] [1] ⟨[(1, .ptr 1 0), (8, .p (bo (((!t2_2)))))], [(1, .box 32 (vV0 a0))], L0, []⟩ (And.intro ((riddlelaw23_live_ok h2_1)) (trivial)) ?_
  rcases if_or h with ⟨c3, h⟩ | ⟨c3, h⟩
  · refine WC.condT c3 (by kernel_rfl) ?_
    refine WC.rg hn [] [2] [] ⟨[(2, .p (bo (false)))], [], L0, []⟩ trivial ?_
    refine WX.ret ?_
    exact WC.outP (by rw [← Option.some.inj h]; kernel_rfl)
  · refine WC.condF c3 (by kernel_rfl) ?_
    refine WX.skip ?_
    refine WX.seq ?_
    obtain ⟨t5_2, h5_1, h⟩ := bind_some h
    refine WC.r1 hn [(2, .co [] [] [] [(11, rI 2 t5_2)] (.own 11))] [1, 3] [1, 11] ⟨[(1, .ptr 1 0), (3, .own 11)], [(1, .box 32 (vV0 a0)), (11, rI 2 t5_2)], L0, []⟩ (And.intro (And.intro ((slices_Clone_int64_int64_ok h5_1).ren 7 11 (by kernel_rfl)) (trivial)) (trivial)) ?_
    refine WX.seq ?_
    obtain ⟨t6_2, h6_1, h⟩ := bind_some h
    refine WC.r1 hn [(8, .co [] [] [] [(20, rI 2 t6_2)] (.own 20))] [1, 3, 4] [1, 11, 20] ⟨[(1, .ptr 1 0), (3, .own 11), (4, .own 20)], [(1, .box 32 (vV0 a0)), (11, rI 2 t5_2), (20, rI 2 t6_2)], L0, []⟩ (And.intro (And.intro ((starts_Next_ok h6_1).ren 22 20 (by kernel_rfl)) (trivial)) (trivial)) ?_
    refine WX.seq ?_
    obtain ⟨t7_2, h7_1, h⟩ := bind_some h
    obtain ⟨t7_4, h7_3, h⟩ := bind_some h
    obtain ⟨m7_1, g7, h⟩ := bind_some h
    refine WC.via (α := Bool) (fun v7 => ⟨[(1, .ptr 1 0), (3, .own 11), (4, .own 20), (5, .p (bo (v7)))], [(1, .box 32 (vV0 a0)), (11, rI 2 t5_2), (20, rI 2 t6_2)], L0, []⟩) m7_1 (fun hk => ?_) ?_
    · rcases if_or g7 with ⟨b7_11, g7⟩ | ⟨b7_11, g7⟩
      · obtain ⟨t7_6, h7_5, g7⟩ := bind_some g7
        obtain ⟨t7_8, h7_7, g7⟩ := bind_some g7
        rcases if_or g7 with ⟨b7_24, g7⟩ | ⟨b7_24, g7⟩
        · obtain ⟨t7_10, h7_9, g7⟩ := bind_some g7
          obtain ⟨t7_12, h7_11, g7⟩ := bind_some g7
          obtain ⟨t7_14, h7_13, g7⟩ := bind_some g7
          rcases if_or g7 with ⟨b7_33, g7⟩ | ⟨b7_33, g7⟩
          · obtain ⟨t7_16, h7_15, g7⟩ := bind_some g7
            obtain ⟨t7_18, h7_17, g7⟩ := bind_some g7
            rcases if_or g7 with ⟨b7_46, g7⟩ | ⟨b7_46, g7⟩
            · obtain ⟨t7_20, h7_19, g7⟩ := bind_some g7
              obtain ⟨t7_22, h7_21, g7⟩ := bind_some g7
              obtain ⟨t7_24, h7_23, g7⟩ := bind_some g7
              exact WC.drw hn [] [] [(9, .resP (sI t7_2)), (10, .res (bo (t7_4))), (11, .val (.p (bo (true)))), (16, .resP (i6 (t7_6))), (21, .resP (i6 (t7_8))), (24, .val (.p (bo (true)))), (27, .resP (sI t7_10)), (30, .resP (sI t7_12)), (31, .resP (bo (t7_14))), (33, .val (.p (bo (true)))), (38, .resP (i6 (t7_16))), (43, .resP (i6 (t7_18))), (46, .val (.p (bo (true)))), (51, .resP (pP5 t7_20)), (56, .resP (pP5 t7_22)), (57, .resP (bo (t7_24)))] [1, 3, 4, 5] [1, 11, 20] ⟨[(1, .ptr 1 0), (3, .own 11), (4, .own 20), (5, .p (bo (t7_24)))], [(1, .box 32 (vV0 a0)), (11, rI 2 t5_2), (20, rI 2 t6_2)], L0, []⟩ (And.intro ((riddleref23_Next_okP h7_1)) (And.intro (And.intro (riddleref23_Same_ok h7_3) (rfl : (bo (t7_4) : PV).flat = true)) (And.intro (Bl b7_11) (And.intro ((starts_Check_ok h7_5)) (And.intro ((riddleref23_Check_ok h7_7)) (And.intro (Bl b7_24) (And.intro ((starts_None_okP h7_9)) (And.intro ((riddleref23_None_okP h7_11)) (And.intro ((riddleref23_Same_ok h7_13)) (And.intro (Bl b7_33) (And.intro ((starts_Least_ok h7_15)) (And.intro ((riddleref23_Least_ok h7_17)) (And.intro (Bl b7_46) (And.intro ((starts_Bits_okP h7_19)) (And.intro ((riddleref23_Bits_okP h7_21)) (And.intro ((riddleref01_Exact_ok h7_23)) (trivial))))))))))))))))) (by kernel_rfl) (by kernel_rfl) (by kernel_rfl) (by kernel_rfl) (hk t7_24 (Option.some.inj g7))
            · exact WC.drw hn [] [] [(9, .resP (sI t7_2)), (10, .res (bo (t7_4))), (11, .val (.p (bo (true)))), (16, .resP (i6 (t7_6))), (21, .resP (i6 (t7_8))), (24, .val (.p (bo (true)))), (27, .resP (sI t7_10)), (30, .resP (sI t7_12)), (31, .resP (bo (t7_14))), (33, .val (.p (bo (true)))), (38, .resP (i6 (t7_16))), (43, .resP (i6 (t7_18))), (46, .val (.p (bo (false))))] [1, 3, 4, 5] [1, 11, 20] ⟨[(1, .ptr 1 0), (3, .own 11), (4, .own 20), (5, .p (bo (false)))], [(1, .box 32 (vV0 a0)), (11, rI 2 t5_2), (20, rI 2 t6_2)], L0, []⟩ (And.intro ((riddleref23_Next_okP h7_1)) (And.intro (And.intro (riddleref23_Same_ok h7_3) (rfl : (bo (t7_4) : PV).flat = true)) (And.intro (Bl b7_11) (And.intro ((starts_Check_ok h7_5)) (And.intro ((riddleref23_Check_ok h7_7)) (And.intro (Bl b7_24) (And.intro ((starts_None_okP h7_9)) (And.intro ((riddleref23_None_okP h7_11)) (And.intro ((riddleref23_Same_ok h7_13)) (And.intro (Bl b7_33) (And.intro ((starts_Least_ok h7_15)) (And.intro ((riddleref23_Least_ok h7_17)) (And.intro (Bl b7_46) (trivial)))))))))))))) (by kernel_rfl) (by kernel_rfl) (by kernel_rfl) (by kernel_rfl) (hk false (Option.some.inj g7))
          · exact WC.drw hn [] [] [(9, .resP (sI t7_2)), (10, .res (bo (t7_4))), (11, .val (.p (bo (true)))), (16, .resP (i6 (t7_6))), (21, .resP (i6 (t7_8))), (24, .val (.p (bo (true)))), (27, .resP (sI t7_10)), (30, .resP (sI t7_12)), (31, .resP (bo (t7_14))), (33, .val (.p (bo (false))))] [1, 3, 4, 5] [1, 11, 20] ⟨[(1, .ptr 1 0), (3, .own 11), (4, .own 20), (5, .p (bo (false)))], [(1, .box 32 (vV0 a0)), (11, rI 2 t5_2), (20, rI 2 t6_2)], L0, []⟩ (And.intro ((riddleref23_Next_okP h7_1)) (And.intro (And.intro (riddleref23_Same_ok h7_3) (rfl : (bo (t7_4) : PV).flat = true)) (And.intro (Bl b7_11) (And.intro ((starts_Check_ok h7_5)) (And.intro ((riddleref23_Check_ok h7_7)) (And.intro (Bl b7_24) (And.intro ((starts_None_okP h7_9)) (And.intro ((riddleref23_None_okP h7_11)) (And.intro ((riddleref23_Same_ok h7_13)) (And.intro (Bl b7_33) (trivial))))))))))) (by kernel_rfl) (by kernel_rfl) (by kernel_rfl) (by kernel_rfl) (hk false (Option.some.inj g7))
        · exact WC.drw hn [] [] [(9, .resP (sI t7_2)), (10, .res (bo (t7_4))), (11, .val (.p (bo (true)))), (16, .resP (i6 (t7_6))), (21, .resP (i6 (t7_8))), (24, .val (.p (bo (false))))] [1, 3, 4, 5] [1, 11, 20] ⟨[(1, .ptr 1 0), (3, .own 11), (4, .own 20), (5, .p (bo (false)))], [(1, .box 32 (vV0 a0)), (11, rI 2 t5_2), (20, rI 2 t6_2)], L0, []⟩ (And.intro ((riddleref23_Next_okP h7_1)) (And.intro (And.intro (riddleref23_Same_ok h7_3) (rfl : (bo (t7_4) : PV).flat = true)) (And.intro (Bl b7_11) (And.intro ((starts_Check_ok h7_5)) (And.intro ((riddleref23_Check_ok h7_7)) (And.intro (Bl b7_24) (trivial))))))) (by kernel_rfl) (by kernel_rfl) (by kernel_rfl) (by kernel_rfl) (hk false (Option.some.inj g7))
      · exact WC.drw hn [] [] [(9, .resP (sI t7_2)), (10, .res (bo (t7_4))), (11, .val (.p (bo (false))))] [1, 3, 4, 5] [1, 11, 20] ⟨[(1, .ptr 1 0), (3, .own 11), (4, .own 20), (5, .p (bo (false)))], [(1, .box 32 (vV0 a0)), (11, rI 2 t5_2), (20, rI 2 t6_2)], L0, []⟩ (And.intro ((riddleref23_Next_okP h7_1)) (And.intro (And.intro (riddleref23_Same_ok h7_3) (rfl : (bo (t7_4) : PV).flat = true)) (And.intro (Bl b7_11) (trivial)))) (by kernel_rfl) (by kernel_rfl) (by kernel_rfl) (by kernel_rfl) (hk false (Option.some.inj g7))
    refine WX.seq ?_
    refine WC.rg hn [] [1, 3, 4, 5, 81, 82] [1, 11, 20] ⟨[(1, .ptr 1 0), (3, .own 11), (4, .own 20), (5, .p (bo (m7_1))), (81, .p (i6 (((t6_2.length : Int))))), (82, .p (i6 (0)))], [(1, .box 32 (vV0 a0)), (11, rI 2 t5_2), (20, rI 2 t6_2)], L0, []⟩ trivial ?_
    obtain ⟨J9, eJ9, h⟩ := jn_some h
    try dsimp only at h
    refine WC.join (α := Unit) (fun v9 => ⟨[(1, .ptr 1 0), (3, .own 11), (5, .p (bo (m7_1)))], [(1, .box 32 (vV0 a0)), (11, rI 2 t5_2)], L0, []⟩) (fun v9 => J9 v9 = some r) ?_ (fun hJ9 => ?_)
    · rintro _ h
      rw [eJ9] at h
      try dsimp only at h
      refine WX.seq ?_
      obtain ⟨m21_1, g21, h⟩ := bind_some h
      refine WC.via (α := Bool) (fun v21 => ⟨[(2, .p (bo (v21)))], [], L0, []⟩) m21_1 (fun hk => ?_) ?_
      · rcases if_or g21 with ⟨b21_1, g21⟩ | ⟨b21_1, g21⟩
        · obtain ⟨t21_2, h21_1, g21⟩ := bind_some g21
          exact WC.reg hn [(1, .val (.p (bo (true)))), (5, .res (bo (t21_2)))] [2] [] ⟨[(2, .p (bo (t21_2)))], [], L0, []⟩ (And.intro (Bl b21_1) (And.intro (And.intro (slices_Equal_int64_int64_ok h21_1) (rfl : (bo (t21_2) : PV).flat = true)) (trivial))) (by kernel_rfl) (hk t21_2 (Option.some.inj g21))
        · exact WC.reg hn [(1, .val (.p (bo (false))))] [2] [] ⟨[(2, .p (bo (false)))], [], L0, []⟩ (And.intro (Bl b21_1) (trivial)) (by kernel_rfl) (hk false (Option.some.inj g21))
      refine WX.ret ?_
      exact WC.outP (by rw [← Option.some.inj h]; kernel_rfl)
    · skip
      refine WX.block ?_
      refine WC.loop (V := List Int × Int) (riddlelaw23_StartsSteps_l0 t6_2 J9) r (fun v22 => ⟨[(1, .ptr 1 0), (3, .own 11), (4, .own 20), (5, .p (bo (m7_1))), (81, .p (i6 (((t6_2.length : Int))))), (82, .p (i6 (v22.2)))], [(1, .box 32 (vV0 a0)), (11, rI 2 t5_2), (20, rI 2 v22.1)], L0, []⟩) _ (t6_2, 0) h (fun _ => rfl) [1, 3, 4, 5, 81, 82] [1, 11, 20] (by kernel_rfl) ?_
      clear h; rintro k ⟨x22_1_1, x22_1_2⟩ h K22 hnext22 hexit22
      rw [riddlelaw23_StartsSteps_l0] at h
      refine WC.rg hn [] [1, 3, 4, 5, 81, 82, 83] [1, 11, 20] ⟨[(1, .ptr 1 0), (3, .own 11), (4, .own 20), (5, .p (bo (m7_1))), (81, .p (i6 (((t6_2.length : Int))))), (82, .p (i6 (x22_1_2))), (83, .p (bo (((decide (x22_1_2 < (t6_2.length : Int)))))))], [(1, .box 32 (vV0 a0)), (11, rI 2 t5_2), (20, rI 2 x22_1_1)], L0, []⟩ trivial ?_
      refine WX.seq ?_
      rcases if_or h with ⟨c34, h⟩ | ⟨c34, h⟩
      · refine WC.condT c34 (by kernel_rfl) ?_
        refine WX.skip ?_
        refine WX.seq ?_
        refine WX.block ?_
        refine WC.rg hn [] [1, 3, 4, 5, 6, 81, 82] [1, 11, 20] ⟨[(1, .ptr 1 0), (3, .own 11), (4, .own 20), (5, .p (bo (m7_1))), (6, .p (i6 (x22_1_2))), (81, .p (i6 (((t6_2.length : Int))))), (82, .p (i6 (x22_1_2)))], [(1, .box 32 (vV0 a0)), (11, rI 2 t5_2), (20, rI 2 x22_1_1)], L0, []⟩ trivial ?_
        obtain ⟨t36_2, h36_1, h⟩ := bind_some h
        refine WC.r1 hn [(2, .val (.ptr 20 (x22_1_2.toNat * 1))), (3, .val (.p (i6 (t36_2)))), (5, .val (.ptr 20 (x22_1_2.toNat * 1))), (6, .sto 20 (rI 2 (x22_1_1.set x22_1_2.toNat ((IntKind.i64.wrap (t36_2 + 1))))))] [1, 3, 4, 5, 81, 82] [1, 11, 20] ⟨[(1, .ptr 1 0), (3, .own 11), (4, .own 20), (5, .p (bo (m7_1))), (81, .p (i6 (((t6_2.length : Int))))), (82, .p (i6 (x22_1_2)))], [(1, .box 32 (vV0 a0)), (11, rI 2 t5_2), (20, rI 2 (x22_1_1.set x22_1_2.toNat ((IntKind.i64.wrap (t36_2 + 1)))))], L0, []⟩ (And.intro (IxO 20 1 h36_1) (And.intro (LdO0 Tryd.prog (eI .i64) 2 h36_1) (And.intro (IxO 20 1 h36_1) (And.intro (StO0 (eI .i64) 20 2 1 1 [i6 (((IntKind.i64.wrap (t36_2 + 1))))] ((IntKind.i64.wrap (t36_2 + 1))) h36_1 rfl rfl (by decide)) (trivial))))) ?_
        refine WX.popBlk ?_
        refine WC.r1 hn [] [1, 3, 4, 5, 81, 82] [1, 11, 20] ⟨[(1, .ptr 1 0), (3, .own 11), (4, .own 20), (5, .p (bo (m7_1))), (81, .p (i6 (((t6_2.length : Int))))), (82, .p (i6 (((IntKind.i64.wrap (x22_1_2 + 1))))))], [(1, .box 32 (vV0 a0)), (11, rI 2 t5_2), (20, rI 2 (x22_1_1.set x22_1_2.toNat ((IntKind.i64.wrap (t36_2 + 1)))))], L0, []⟩ trivial ?_
        exact WC.next [1, 3, 4, 5, 81, 82] [1, 11, 20] (by kernel_rfl) (hnext22 (x22_1_1.set x22_1_2.toNat ((IntKind.i64.wrap (t36_2 + 1))), (IntKind.i64.wrap (x22_1_2 + 1))) h)
      · refine WC.condF c34 (by kernel_rfl) ?_
        refine WX.exit ?_
        refine WX.popCodeExit ?_
        refine WC.exit_nil (hexit22 _ _ (by simp) ?_)
        refine WX.popBlkHit ?_
        exact WC.keep [1, 3, 5] [1, 11] (by kernel_rfl) (hJ9 () h)
def riddlelaw23_StartsAre_l0 (a1 : Int) (t5_2 : (List Int)) (t44_2 : (List Int)) (J46 : Unit → Option (Bool)) : Nat → Int → Option (Bool)
  | 0, _ => none
  | k + 1, x63_1_1 => (if (decide (x63_1_1 < (t5_2.length : Int))) = true then (at_ t5_2 x63_1_1).bind fun t80_2 => ((if (decide (x63_1_1 ≥ (t44_2.length : Int))) = true then some true else (if (decide (t80_2 ≥ 0)) = true then (at_ t44_2 x63_1_1).bind fun t81_2 => (if (t81_2 != (IntKind.i64.wrap (t80_2 + (IntKind.i64.wrap a1)))) = true then some true else (if (decide (t80_2 < 0)) = true then some ((t81_2 != (-1))) else some false)) else (if (decide (t80_2 < 0)) = true then (at_ t44_2 x63_1_1).bind fun t81_2 => some ((t81_2 != (-1))) else some false))) : Option (Bool)).bind fun v81 => (if v81 = true then some false else riddlelaw23_StartsAre_l0 a1 t5_2 t44_2 J46 k ((IntKind.i64.wrap (x63_1_1 + 1)))) else J46 ())
def riddlelaw23_StartsAre_l1 (a1 : Int) (t13_2 : (List Int)) (J15 : List Int → Option (Bool)) : Nat → (List Int × Int) → Option (Bool)
  | 0, _ => none
  | k + 1, (x87_1_1, x87_1_2) => (if (decide (x87_1_2 < (t13_2.length : Int))) = true then (at_ x87_1_1 x87_1_2).bind fun t112_2 => (if (decide (t112_2 > 1099511627776)) = true then some true else (if (decide (t112_2 ≥ 0)) = true then (at_ x87_1_1 x87_1_2).bind fun t118_2 => riddlelaw23_StartsAre_l1 a1 t13_2 J15 k (x87_1_1.set x87_1_2.toNat ((IntKind.i64.wrap (t118_2 + (IntKind.i64.wrap a1)))), (IntKind.i64.wrap (x87_1_2 + 1))) else riddlelaw23_StartsAre_l1 a1 t13_2 J15 k (x87_1_1, (IntKind.i64.wrap (x87_1_2 + 1))))) else J15 x87_1_1)
def riddlelaw23_StartsAre (k : Nat) (a0 : riddlelaw23_Case) (a1 : Int) : Option (Bool) :=
  (riddlelaw23_live k).bind fun t2_2 => (if (!t2_2) = true then some false else (starts_Next k a0.Nfa a0.State a0.Begin a0.B).bind fun t5_2 => (starts_Bits k a0.Nfa t5_2).bind fun t7_2 => (starts_Bits k a0.Nfa a0.State).bind fun t7_4 => ((if (decide (a0.Begin ≥ 0)) = true then (riddleref11_Next k a0.Nfa t7_4 ((decide (a0.Begin ≤ 4611686018427387904))) a0.B).bind fun t7_6 => (riddleref01_Exact k t7_2 t7_6).bind fun t7_8 => some ((!t7_8)) else (riddleref11_Next k a0.Nfa t7_4 false a0.B).bind fun t7_6 => (riddleref01_Exact k t7_2 t7_6).bind fun t7_8 => some ((!t7_8))) : Option (Bool)).bind fun v7 => (if v7 = true then some false else (riddleref23_Check k a0.Nfa a0.State).bind fun t10_2 => (if (((t10_2 != 0)) || ((decide (a0.Begin > 1099511627776)))) = true then some true else (slices_Clone_int64_int64 a0.State).bind fun t13_2 => jn (fun (v15 : List Int) => jn (fun (v41 : Int) => (starts_Next k a0.Nfa v15 v41 a0.B).bind fun t44_2 => jn (fun (v46 : Unit) => some true) fun J46 => riddlelaw23_StartsAre_l0 a1 t5_2 t44_2 J46 k 0) fun J41 => (if (decide (a0.Begin ≥ 0)) = true then J41 ((IntKind.i64.wrap (a0.Begin + (IntKind.i64.wrap a1)))) else J41 a0.Begin)) fun J15 => riddlelaw23_StartsAre_l1 a1 t13_2 J15 k (t13_2, 0))))
theorem riddlelaw23_StartsAre_ok {k : Nat} {a0 : riddlelaw23_Case} {a1 : Int} {r : Bool} (h : riddlelaw23_StartsAre k a0 a1 = some r) : Ans Tryd.prog 6 [pP0 a0, .s (.int .u32 a1)] (bo (r)) := by
  refine W_fn Tryd.func6 rfl (by kernel_rfl) (by kernel_rfl) ?_
  intro X hro hn
  unfold riddlelaw23_StartsAre at h
  refine WC.rg hn [] [1, 2] [2] ⟨[(1, .p (.s (.int .u32 a1))), (2, .ptr 2 0)], [(2, .box 32 (vV0 a0))], L0, []⟩ trivial ?_
  refine WX.seq ?_
  refine WX.seq ?_
  obtain ⟨t2_2, h2_1, h⟩ := bind_some h
  refine WC.r1 hn [(0, .resP (bo (t2_2)))] [1, 2, 14] [2] ⟨[(1, .p (.s (.int .u32 a1))), (2, .ptr 2 0), (14, .p (bo (((!t2_2)))))], [(2, .box 32 (vV0 a0))], L0, []⟩ (And.intro ((riddlelaw23_live_ok h2_1)) (trivial)) ?_
  rcases if_or h with ⟨c3, h⟩ | ⟨c3, h⟩
  · refine WC.condT c3 (by kernel_rfl) ?_
    refine WC.rg hn [] [4] [] ⟨[(4, .p (bo (false)))], [], L0, []⟩ trivial ?_
    refine WX.ret ?_
    exact WC.outP (by rw [← Option.some.inj h]; kernel_rfl)
  · refine WC.condF c3 (by kernel_rfl) ?_
    refine WX.skip ?_
    refine WX.seq ?_
    obtain ⟨t5_2, h5_1, h⟩ := bind_some h
    refine WC.r1 hn [(8, .co [] [] [] [(23, rI 2 t5_2)] (.own 23))] [1, 2, 5] [2, 23] ⟨[(1, .p (.s (.int .u32 a1))), (2, .ptr 2 0), (5, .own 23)], [(2, .box 32 (vV0 a0)), (23, rI 2 t5_2)], L0, []⟩ (And.intro (And.intro ((starts_Next_ok h5_1).ren 22 23 (by kernel_rfl)) (trivial)) (trivial)) ?_
    refine WX.seq ?_
    refine WX.seq ?_
    refine WC.frz 23 (st' := ⟨[(1, .p (.s (.int .u32 a1))), (2, .ptr 2 0), (5, .p (sI t5_2))], [(2, .box 32 (vV0 a0))], L0, []⟩) (by kernel_rfl) ?_
    obtain ⟨t7_2, h7_1, h⟩ := bind_some h
    obtain ⟨t7_4, h7_3, h⟩ := bind_some h
    obtain ⟨m7_1, g7, h⟩ := bind_some h
    refine WC.via (α := Bool) (fun v7 => ⟨[(1, .p (.s (.int .u32 a1))), (2, .ptr 2 0), (5, .p (sI t5_2)), (47, .p (bo (v7)))], [(2, .box 32 (vV0 a0))], L0, []⟩) m7_1 (fun hk => ?_) ?_
    · rcases if_or g7 with ⟨b7_14, g7⟩ | ⟨b7_14, g7⟩
      · obtain ⟨t7_6, h7_5, g7⟩ := bind_some g7
        obtain ⟨t7_8, h7_7, g7⟩ := bind_some g7
        exact WC.drw hn [] [] [(3, .resP (pP5 t7_2)), (10, .resP (pP5 t7_4)), (14, .val (.p (bo (true)))), (21, .resP (pP5 t7_6)), (22, .resP (bo (t7_8)))] [1, 2, 5, 47] [2] ⟨[(1, .p (.s (.int .u32 a1))), (2, .ptr 2 0), (5, .p (sI t5_2)), (47, .p (bo (((!t7_8)))))], [(2, .box 32 (vV0 a0))], L0, []⟩ (And.intro ((starts_Bits_okP h7_1)) (And.intro ((starts_Bits_okP h7_3)) (And.intro (Bl b7_14) (And.intro ((riddleref11_Next_okP h7_5)) (And.intro ((riddleref01_Exact_ok h7_7)) (trivial)))))) (by kernel_rfl) (by kernel_rfl) (by kernel_rfl) (by kernel_rfl) (hk ((!t7_8)) (Option.some.inj g7))
      · obtain ⟨t7_6, h7_5, g7⟩ := bind_some g7
        obtain ⟨t7_8, h7_7, g7⟩ := bind_some g7
        exact WC.drw hn [] [] [(3, .resP (pP5 t7_2)), (10, .resP (pP5 t7_4)), (14, .val (.p (bo (false)))), (21, .resP (pP5 t7_6)), (22, .resP (bo (t7_8)))] [1, 2, 5, 47] [2] ⟨[(1, .p (.s (.int .u32 a1))), (2, .ptr 2 0), (5, .p (sI t5_2)), (47, .p (bo (((!t7_8)))))], [(2, .box 32 (vV0 a0))], L0, []⟩ (And.intro ((starts_Bits_okP h7_1)) (And.intro ((starts_Bits_okP h7_3)) (And.intro (Bl b7_14) (And.intro ((riddleref11_Next_okP h7_5)) (And.intro ((riddleref01_Exact_ok h7_7)) (trivial)))))) (by kernel_rfl) (by kernel_rfl) (by kernel_rfl) (by kernel_rfl) (hk ((!t7_8)) (Option.some.inj g7))
    rcases if_or h with ⟨c8, h⟩ | ⟨c8, h⟩
    · refine WC.condT c8 (by kernel_rfl) ?_
      refine WC.rg hn [] [4] [] ⟨[(4, .p (bo (false)))], [], L0, []⟩ trivial ?_
      refine WX.ret ?_
      exact WC.outP (by rw [← Option.some.inj h]; kernel_rfl)
    · refine WC.condF c8 (by kernel_rfl) ?_
      refine WX.skip ?_
      refine WX.seq ?_
      refine WX.seq ?_
      obtain ⟨t10_2, h10_1, h⟩ := bind_some h
      refine WC.via (α := Bool) (fun v10 => ⟨[(1, .p (.s (.int .u32 a1))), (2, .ptr 2 0), (5, .p (sI t5_2)), (58, .p (bo (v10)))], [(2, .box 32 (vV0 a0))], L0, []⟩) ((((t10_2 != 0)) || ((decide (a0.Begin > 1099511627776))))) (fun hk => ?_) ?_
      · rcases Bool.eq_false_or_eq_true ((t10_2 != 0)) with b10_6 | b10_6
        · exact WC.reg hn [(4, .resP (i6 (t10_2))), (6, .val (.p (bo (true))))] [1, 2, 5, 58] [2] ⟨[(1, .p (.s (.int .u32 a1))), (2, .ptr 2 0), (5, .p (sI t5_2)), (58, .p (bo (true)))], [(2, .box 32 (vV0 a0))], L0, []⟩ (And.intro ((riddleref23_Check_ok h10_1)) (And.intro (Bl b10_6) (trivial))) (by kernel_rfl) (hk true (by first | (rw [b10_6]; rfl) | simp [b10_6]))
        · exact WC.reg hn [(4, .resP (i6 (t10_2))), (6, .val (.p (bo (false))))] [1, 2, 5, 58] [2] ⟨[(1, .p (.s (.int .u32 a1))), (2, .ptr 2 0), (5, .p (sI t5_2)), (58, .p (bo (((decide (a0.Begin > 1099511627776))))))], [(2, .box 32 (vV0 a0))], L0, []⟩ (And.intro ((riddleref23_Check_ok h10_1)) (And.intro (Bl b10_6) (trivial))) (by kernel_rfl) (hk ((decide (a0.Begin > 1099511627776))) (by first | (rw [b10_6]; rfl) | simp [b10_6]))
      rcases if_or h with ⟨c11, h⟩ | ⟨c11, h⟩
      · refine WC.condT c11 (by kernel_rfl) ?_
        refine WC.rg hn [] [4] [] ⟨[(4, .p (bo (true)))], [], L0, []⟩ trivial ?_
        refine WX.ret ?_
        exact WC.outP (by rw [← Option.some.inj h]; kernel_rfl)
      · refine WC.condF c11 (by kernel_rfl) ?_
        refine WX.skip ?_
        refine WX.seq ?_
        obtain ⟨t13_2, h13_1, h⟩ := bind_some h
        refine WC.r1 hn [(2, .co [] [] [] [(61, rI 2 t13_2)] (.own 61))] [1, 2, 5, 6] [2, 61] ⟨[(1, .p (.s (.int .u32 a1))), (2, .ptr 2 0), (5, .p (sI t5_2)), (6, .own 61)], [(2, .box 32 (vV0 a0)), (61, rI 2 t13_2)], L0, []⟩ (And.intro (And.intro ((slices_Clone_int64_int64_ok h13_1).ren 7 61 (by kernel_rfl)) (trivial)) (trivial)) ?_
        refine WX.seq ?_
        refine WC.rg hn [] [1, 2, 5, 6, 62, 63, 64] [2, 61] ⟨[(1, .p (.s (.int .u32 a1))), (2, .ptr 2 0), (5, .p (sI t5_2)), (6, .own 61), (62, .own 61), (63, .p (i6 (((t13_2.length : Int))))), (64, .p (i6 (0)))], [(2, .box 32 (vV0 a0)), (61, rI 2 t13_2)], L0, []⟩ trivial ?_
        obtain ⟨J15, eJ15, h⟩ := jn_some h
        try dsimp only at h
        refine WC.join (α := List Int) (fun v15 => ⟨[(1, .p (.s (.int .u32 a1))), (2, .ptr 2 0), (5, .p (sI t5_2)), (6, .own 61)], [(2, .box 32 (vV0 a0)), (61, rI 2 v15)], L0, []⟩) (fun v15 => J15 v15 = some r) ?_ (fun hJ15 => ?_)
        · rintro y15_1 h
          rw [eJ15] at h
          try dsimp only at h
          refine WC.rg hn [] [1, 2, 5, 6, 9] [2, 61] ⟨[(1, .p (.s (.int .u32 a1))), (2, .ptr 2 0), (5, .p (sI t5_2)), (6, .own 61), (9, .p (i6 (a0.Begin)))], [(2, .box 32 (vV0 a0)), (61, rI 2 y15_1)], L0, []⟩ trivial ?_
          refine WX.seq ?_
          refine WC.rg hn [] [1, 2, 5, 6, 9, 85] [2, 61] ⟨[(1, .p (.s (.int .u32 a1))), (2, .ptr 2 0), (5, .p (sI t5_2)), (6, .own 61), (9, .p (i6 (a0.Begin))), (85, .p (bo (((decide (a0.Begin ≥ 0))))))], [(2, .box 32 (vV0 a0)), (61, rI 2 y15_1)], L0, []⟩ trivial ?_
          obtain ⟨J41, eJ41, h⟩ := jn_some h
          try dsimp only at h
          refine WC.join (α := Int) (fun v41 => ⟨[(1, .p (.s (.int .u32 a1))), (2, .ptr 2 0), (5, .p (sI t5_2)), (6, .own 61), (9, .p (i6 (v41)))], [(2, .box 32 (vV0 a0)), (61, rI 2 y15_1)], L0, []⟩) (fun v41 => J41 v41 = some r) ?_ (fun hJ41 => ?_)
          · rintro y41_1 h
            rw [eJ41] at h
            try dsimp only at h
            refine WX.seq ?_
            obtain ⟨t44_2, h44_1, h⟩ := bind_some h
            refine WC.r1 hn [(6, .co [] [] [61] [(96, rI 2 t44_2)] (.own 96))] [1, 5, 10] [96] ⟨[(1, .p (.s (.int .u32 a1))), (5, .p (sI t5_2)), (10, .own 96)], [(96, rI 2 t44_2)], L0, []⟩ (And.intro (And.intro ((starts_Next_ok h44_1).ren 22 96 (by kernel_rfl)) (And.intro (rfl : (.own 96 : AV).flat = true) (And.intro (flats_encL (eI .i64) (fun _ => rfl) t44_2) (trivial)))) (trivial)) ?_
            refine WX.seq ?_
            refine WC.rg hn [] [1, 10, 97, 98, 99] [96] ⟨[(1, .p (.s (.int .u32 a1))), (10, .own 96), (97, .p (sI t5_2)), (98, .p (i6 (((t5_2.length : Int))))), (99, .p (i6 (0)))], [(96, rI 2 t44_2)], L0, []⟩ trivial ?_
            obtain ⟨J46, eJ46, h⟩ := jn_some h
            try dsimp only at h
            refine WC.join (α := Unit) (fun v46 => ⟨[], [], L0, []⟩) (fun v46 => J46 v46 = some r) ?_ (fun hJ46 => ?_)
            · rintro _ h
              rw [eJ46] at h
              try dsimp only at h
              refine WC.rg hn [] [4] [] ⟨[(4, .p (bo (true)))], [], L0, []⟩ trivial ?_
              refine WX.ret ?_
              exact WC.outP (by rw [← Option.some.inj h]; kernel_rfl)
            · skip
              refine WX.block ?_
              refine WC.loop (V := Int) (riddlelaw23_StartsAre_l0 a1 t5_2 t44_2 J46) r (fun v63 => ⟨[(1, .p (.s (.int .u32 a1))), (10, .own 96), (97, .p (sI t5_2)), (98, .p (i6 (((t5_2.length : Int))))), (99, .p (i6 (v63)))], [(96, rI 2 t44_2)], L0, []⟩) _ 0 h (fun _ => rfl) [1, 10, 97, 98, 99] [96] (by kernel_rfl) ?_
              clear h; rintro k x63_1_1 h K63 hnext63 hexit63
              rw [riddlelaw23_StartsAre_l0] at h
              refine WC.rg hn [] [1, 10, 97, 98, 99, 100] [96] ⟨[(1, .p (.s (.int .u32 a1))), (10, .own 96), (97, .p (sI t5_2)), (98, .p (i6 (((t5_2.length : Int))))), (99, .p (i6 (x63_1_1))), (100, .p (bo (((decide (x63_1_1 < (t5_2.length : Int)))))))], [(96, rI 2 t44_2)], L0, []⟩ trivial ?_
              refine WX.seq ?_
              rcases if_or h with ⟨c79, h⟩ | ⟨c79, h⟩
              · refine WC.condT c79 (by kernel_rfl) ?_
                refine WX.skip ?_
                refine WX.seq ?_
                refine WX.block ?_
                refine WX.seq ?_
                obtain ⟨t80_2, h80_1, h⟩ := bind_some h
                refine WC.r1 hn [(1, .val (.p (.rop ((eI .i64).cells t80_2 ++ encL (eI .i64) (t5_2.drop (x63_1_1.toNat + 1))))))] [1, 10, 11, 12, 97, 98, 99] [96] ⟨[(1, .p (.s (.int .u32 a1))), (10, .own 96), (11, .p (i6 (x63_1_1))), (12, .p (i6 (t80_2))), (97, .p (sI t5_2)), (98, .p (i6 (((t5_2.length : Int))))), (99, .p (i6 (x63_1_1)))], [(96, rI 2 t44_2)], L0, []⟩ (And.intro (Ix (eI .i64) h80_1) (trivial)) ?_
                refine WX.seq ?_
                obtain ⟨m81_1, g81, h⟩ := bind_some h
                refine WC.via (α := Bool) (fun v81 => ⟨[(1, .p (.s (.int .u32 a1))), (10, .own 96), (97, .p (sI t5_2)), (98, .p (i6 (((t5_2.length : Int))))), (99, .p (i6 (x63_1_1))), (133, .p (bo (v81)))], [(96, rI 2 t44_2)], L0, []⟩) m81_1 (fun hk => ?_) ?_
                · rcases if_or g81 with ⟨b81_4, g81⟩ | ⟨b81_4, g81⟩
                  · exact WC.reg hn [(4, .val (.p (bo (true))))] [1, 10, 97, 98, 99, 133] [96] ⟨[(1, .p (.s (.int .u32 a1))), (10, .own 96), (97, .p (sI t5_2)), (98, .p (i6 (((t5_2.length : Int))))), (99, .p (i6 (x63_1_1))), (133, .p (bo (true)))], [(96, rI 2 t44_2)], L0, []⟩ (And.intro (Bl b81_4) (trivial)) (by kernel_rfl) (hk true (Option.some.inj g81))
                  · rcases if_or g81 with ⟨b81_7, g81⟩ | ⟨b81_7, g81⟩
                    · obtain ⟨t81_2, h81_1, g81⟩ := bind_some g81
                      rcases if_or g81 with ⟨b81_19, g81⟩ | ⟨b81_19, g81⟩
                      · exact WC.reg hn [(4, .val (.p (bo (false)))), (7, .val (.p (bo (true)))), (10, .val (.ptr 96 (x63_1_1.toNat * 1))), (11, .val (.p (i6 (t81_2)))), (19, .val (.p (bo (true))))] [1, 10, 97, 98, 99, 133] [96] ⟨[(1, .p (.s (.int .u32 a1))), (10, .own 96), (97, .p (sI t5_2)), (98, .p (i6 (((t5_2.length : Int))))), (99, .p (i6 (x63_1_1))), (133, .p (bo (true)))], [(96, rI 2 t44_2)], L0, []⟩ (And.intro (Bl b81_4) (And.intro (Bl b81_7) (And.intro (IxO 96 1 h81_1) (And.intro (LdO0 Tryd.prog (eI .i64) 2 h81_1) (And.intro (Bl b81_19) (trivial)))))) (by kernel_rfl) (hk true (Option.some.inj g81))
                      · rcases if_or g81 with ⟨b81_22, g81⟩ | ⟨b81_22, g81⟩
                        · exact WC.reg hn [(4, .val (.p (bo (false)))), (7, .val (.p (bo (true)))), (10, .val (.ptr 96 (x63_1_1.toNat * 1))), (11, .val (.p (i6 (t81_2)))), (19, .val (.p (bo (false)))), (22, .val (.p (bo (true)))), (25, .val (.ptr 96 (x63_1_1.toNat * 1))), (26, .val (.p (i6 (t81_2))))] [1, 10, 97, 98, 99, 133] [96] ⟨[(1, .p (.s (.int .u32 a1))), (10, .own 96), (97, .p (sI t5_2)), (98, .p (i6 (((t5_2.length : Int))))), (99, .p (i6 (x63_1_1))), (133, .p (bo (((t81_2 != (-1))))))], [(96, rI 2 t44_2)], L0, []⟩ (And.intro (Bl b81_4) (And.intro (Bl b81_7) (And.intro (IxO 96 1 h81_1) (And.intro (LdO0 Tryd.prog (eI .i64) 2 h81_1) (And.intro (Bl b81_19) (And.intro (Bl b81_22) (And.intro (IxO 96 1 h81_1) (And.intro (LdO0 Tryd.prog (eI .i64) 2 h81_1) (trivial))))))))) (by kernel_rfl) (hk ((t81_2 != (-1))) (Option.some.inj g81))
                        · exact WC.reg hn [(4, .val (.p (bo (false)))), (7, .val (.p (bo (true)))), (10, .val (.ptr 96 (x63_1_1.toNat * 1))), (11, .val (.p (i6 (t81_2)))), (19, .val (.p (bo (false)))), (22, .val (.p (bo (false))))] [1, 10, 97, 98, 99, 133] [96] ⟨[(1, .p (.s (.int .u32 a1))), (10, .own 96), (97, .p (sI t5_2)), (98, .p (i6 (((t5_2.length : Int))))), (99, .p (i6 (x63_1_1))), (133, .p (bo (false)))], [(96, rI 2 t44_2)], L0, []⟩ (And.intro (Bl b81_4) (And.intro (Bl b81_7) (And.intro (IxO 96 1 h81_1) (And.intro (LdO0 Tryd.prog (eI .i64) 2 h81_1) (And.intro (Bl b81_19) (And.intro (Bl b81_22) (trivial))))))) (by kernel_rfl) (hk false (Option.some.inj g81))
                    · rcases if_or g81 with ⟨b81_22, g81⟩ | ⟨b81_22, g81⟩
                      · obtain ⟨t81_2, h81_1, g81⟩ := bind_some g81
                        exact WC.reg hn [(4, .val (.p (bo (false)))), (7, .val (.p (bo (false)))), (22, .val (.p (bo (true)))), (25, .val (.ptr 96 (x63_1_1.toNat * 1))), (26, .val (.p (i6 (t81_2))))] [1, 10, 97, 98, 99, 133] [96] ⟨[(1, .p (.s (.int .u32 a1))), (10, .own 96), (97, .p (sI t5_2)), (98, .p (i6 (((t5_2.length : Int))))), (99, .p (i6 (x63_1_1))), (133, .p (bo (((t81_2 != (-1))))))], [(96, rI 2 t44_2)], L0, []⟩ (And.intro (Bl b81_4) (And.intro (Bl b81_7) (And.intro (Bl b81_22) (And.intro (IxO 96 1 h81_1) (And.intro (LdO0 Tryd.prog (eI .i64) 2 h81_1) (trivial)))))) (by kernel_rfl) (hk ((t81_2 != (-1))) (Option.some.inj g81))
                      · exact WC.reg hn [(4, .val (.p (bo (false)))), (7, .val (.p (bo (false)))), (22, .val (.p (bo (false))))] [1, 10, 97, 98, 99, 133] [96] ⟨[(1, .p (.s (.int .u32 a1))), (10, .own 96), (97, .p (sI t5_2)), (98, .p (i6 (((t5_2.length : Int))))), (99, .p (i6 (x63_1_1))), (133, .p (bo (false)))], [(96, rI 2 t44_2)], L0, []⟩ (And.intro (Bl b81_4) (And.intro (Bl b81_7) (And.intro (Bl b81_22) (trivial)))) (by kernel_rfl) (hk false (Option.some.inj g81))
                rcases if_or h with ⟨c82, h⟩ | ⟨c82, h⟩
                · refine WC.condT c82 (by kernel_rfl) ?_
                  refine WC.rg hn [] [4] [] ⟨[(4, .p (bo (false)))], [], L0, []⟩ trivial ?_
                  refine WX.ret ?_
                  refine WC.ret_all (hexit63 _ _ (by simp) ?_)
                  exact WC.outP (by rw [← Option.some.inj h]; kernel_rfl)
                · refine WC.condF c82 (by kernel_rfl) ?_
                  refine WX.skip ?_
                  refine WX.popBlk ?_
                  refine WC.r1 hn [] [1, 10, 97, 98, 99] [96] ⟨[(1, .p (.s (.int .u32 a1))), (10, .own 96), (97, .p (sI t5_2)), (98, .p (i6 (((t5_2.length : Int))))), (99, .p (i6 (((IntKind.i64.wrap (x63_1_1 + 1))))))], [(96, rI 2 t44_2)], L0, []⟩ trivial ?_
                  exact WC.next [1, 10, 97, 98, 99] [96] (by kernel_rfl) (hnext63 ((IntKind.i64.wrap (x63_1_1 + 1))) h)
              · refine WC.condF c79 (by kernel_rfl) ?_
                refine WX.exit ?_
                refine WX.popCodeExit ?_
                refine WC.exit_nil (hexit63 _ _ (by simp) ?_)
                refine WX.popBlkHit ?_
                exact WC.keep [] [] (by kernel_rfl) (hJ46 () h)
          · replace hJ41 := fun y41_1 => hJ41 y41_1
            rcases if_or h with ⟨c85, h⟩ | ⟨c85, h⟩
            · refine WC.condT c85 (by kernel_rfl) ?_
              refine WC.r1 hn [] [1, 2, 5, 6, 9] [2, 61] ⟨[(1, .p (.s (.int .u32 a1))), (2, .ptr 2 0), (5, .p (sI t5_2)), (6, .own 61), (9, .p (i6 (((IntKind.i64.wrap (a0.Begin + (IntKind.i64.wrap a1)))))))], [(2, .box 32 (vV0 a0)), (61, rI 2 y15_1)], L0, []⟩ trivial ?_
              exact WC.keep [1, 2, 5, 6, 9] [2, 61] (by kernel_rfl) (hJ41 ((IntKind.i64.wrap (a0.Begin + (IntKind.i64.wrap a1)))) h)
            · refine WC.condF c85 (by kernel_rfl) ?_
              refine WX.skip ?_
              exact WC.keep [1, 2, 5, 6, 9] [2, 61] (by kernel_rfl) (hJ41 a0.Begin h)
        · replace hJ15 := fun y15_1 => hJ15 y15_1
          refine WX.block ?_
          refine WC.loop (V := List Int × Int) (riddlelaw23_StartsAre_l1 a1 t13_2 J15) r (fun v87 => ⟨[(1, .p (.s (.int .u32 a1))), (2, .ptr 2 0), (5, .p (sI t5_2)), (6, .own 61), (62, .own 61), (63, .p (i6 (((t13_2.length : Int))))), (64, .p (i6 (v87.2)))], [(2, .box 32 (vV0 a0)), (61, rI 2 v87.1)], L0, []⟩) _ (t13_2, 0) h (fun _ => rfl) [1, 2, 5, 6, 62, 63, 64] [2, 61] (by kernel_rfl) ?_
          clear h; rintro k ⟨x87_1_1, x87_1_2⟩ h K87 hnext87 hexit87
          rw [riddlelaw23_StartsAre_l1] at h
          refine WC.rg hn [] [1, 2, 5, 6, 62, 63, 64, 65] [2, 61] ⟨[(1, .p (.s (.int .u32 a1))), (2, .ptr 2 0), (5, .p (sI t5_2)), (6, .own 61), (62, .own 61), (63, .p (i6 (((t13_2.length : Int))))), (64, .p (i6 (x87_1_2))), (65, .p (bo (((decide (x87_1_2 < (t13_2.length : Int)))))))], [(2, .box 32 (vV0 a0)), (61, rI 2 x87_1_1)], L0, []⟩ trivial ?_
          refine WX.seq ?_
          rcases if_or h with ⟨c111, h⟩ | ⟨c111, h⟩
          · refine WC.condT c111 (by kernel_rfl) ?_
            refine WX.skip ?_
            refine WX.seq ?_
            refine WX.block ?_
            refine WX.seq ?_
            obtain ⟨t112_2, h112_1, h⟩ := bind_some h
            refine WC.r1 hn [(1, .val (.ptr 61 (x87_1_2.toNat * 1))), (2, .val (.p (i6 (t112_2))))] [1, 2, 5, 6, 7, 8, 62, 63, 64] [2, 61] ⟨[(1, .p (.s (.int .u32 a1))), (2, .ptr 2 0), (5, .p (sI t5_2)), (6, .own 61), (7, .p (i6 (x87_1_2))), (8, .p (i6 (t112_2))), (62, .own 61), (63, .p (i6 (((t13_2.length : Int))))), (64, .p (i6 (x87_1_2)))], [(2, .box 32 (vV0 a0)), (61, rI 2 x87_1_1)], L0, []⟩ (And.intro (IxO 61 1 h112_1) (And.intro (LdO0 Tryd.prog (eI .i64) 2 h112_1) (trivial))) ?_
            refine WX.seq ?_
            refine WC.rg hn [] [1, 2, 5, 6, 7, 8, 62, 63, 64, 70] [2, 61] ⟨[(1, .p (.s (.int .u32 a1))), (2, .ptr 2 0), (5, .p (sI t5_2)), (6, .own 61), (7, .p (i6 (x87_1_2))), (8, .p (i6 (t112_2))), (62, .own 61), (63, .p (i6 (((t13_2.length : Int))))), (64, .p (i6 (x87_1_2))), (70, .p (bo (((decide (t112_2 > 1099511627776))))))], [(2, .box 32 (vV0 a0)), (61, rI 2 x87_1_1)], L0, []⟩ trivial ?_
            rcases if_or h with ⟨c114, h⟩ | ⟨c114, h⟩
            · refine WC.condT c114 (by kernel_rfl) ?_
              refine WC.rg hn [] [4] [] ⟨[(4, .p (bo (true)))], [], L0, []⟩ trivial ?_
              refine WX.ret ?_
              refine WC.ret_all (hexit87 _ _ (by simp) ?_)
              exact WC.outP (by rw [← Option.some.inj h]; kernel_rfl)
            · refine WC.condF c114 (by kernel_rfl) ?_
              refine WX.skip ?_
              refine WC.rg hn [] [1, 2, 5, 6, 7, 62, 63, 64, 72] [2, 61] ⟨[(1, .p (.s (.int .u32 a1))), (2, .ptr 2 0), (5, .p (sI t5_2)), (6, .own 61), (7, .p (i6 (x87_1_2))), (62, .own 61), (63, .p (i6 (((t13_2.length : Int))))), (64, .p (i6 (x87_1_2))), (72, .p (bo (((decide (t112_2 ≥ 0))))))], [(2, .box 32 (vV0 a0)), (61, rI 2 x87_1_1)], L0, []⟩ trivial ?_
              rcases if_or h with ⟨c117, h⟩ | ⟨c117, h⟩
              · refine WC.condT c117 (by kernel_rfl) ?_
                obtain ⟨t118_2, h118_1, h⟩ := bind_some h
                refine WC.r1 hn [(2, .val (.ptr 61 (x87_1_2.toNat * 1))), (3, .val (.p (i6 (t118_2)))), (7, .val (.ptr 61 (x87_1_2.toNat * 1))), (8, .sto 61 (rI 2 (x87_1_1.set x87_1_2.toNat ((IntKind.i64.wrap (t118_2 + (IntKind.i64.wrap a1)))))))] [1, 2, 5, 6, 62, 63, 64] [2, 61] ⟨[(1, .p (.s (.int .u32 a1))), (2, .ptr 2 0), (5, .p (sI t5_2)), (6, .own 61), (62, .own 61), (63, .p (i6 (((t13_2.length : Int))))), (64, .p (i6 (x87_1_2)))], [(2, .box 32 (vV0 a0)), (61, rI 2 (x87_1_1.set x87_1_2.toNat ((IntKind.i64.wrap (t118_2 + (IntKind.i64.wrap a1))))))], L0, []⟩ (And.intro (IxO 61 1 h118_1) (And.intro (LdO0 Tryd.prog (eI .i64) 2 h118_1) (And.intro (IxO 61 1 h118_1) (And.intro (StO0 (eI .i64) 61 2 1 1 [i6 (((IntKind.i64.wrap (t118_2 + (IntKind.i64.wrap a1)))))] ((IntKind.i64.wrap (t118_2 + (IntKind.i64.wrap a1)))) h118_1 rfl rfl (by decide)) (trivial))))) ?_
                refine WX.popBlk ?_
                refine WC.r1 hn [] [1, 2, 5, 6, 62, 63, 64] [2, 61] ⟨[(1, .p (.s (.int .u32 a1))), (2, .ptr 2 0), (5, .p (sI t5_2)), (6, .own 61), (62, .own 61), (63, .p (i6 (((t13_2.length : Int))))), (64, .p (i6 (((IntKind.i64.wrap (x87_1_2 + 1))))))], [(2, .box 32 (vV0 a0)), (61, rI 2 (x87_1_1.set x87_1_2.toNat ((IntKind.i64.wrap (t118_2 + (IntKind.i64.wrap a1))))))], L0, []⟩ trivial ?_
                exact WC.next [1, 2, 5, 6, 62, 63, 64] [2, 61] (by kernel_rfl) (hnext87 (x87_1_1.set x87_1_2.toNat ((IntKind.i64.wrap (t118_2 + (IntKind.i64.wrap a1)))), (IntKind.i64.wrap (x87_1_2 + 1))) h)
              · refine WC.condF c117 (by kernel_rfl) ?_
                refine WX.skip ?_
                refine WX.popBlk ?_
                refine WC.r1 hn [] [1, 2, 5, 6, 62, 63, 64] [2, 61] ⟨[(1, .p (.s (.int .u32 a1))), (2, .ptr 2 0), (5, .p (sI t5_2)), (6, .own 61), (62, .own 61), (63, .p (i6 (((t13_2.length : Int))))), (64, .p (i6 (((IntKind.i64.wrap (x87_1_2 + 1))))))], [(2, .box 32 (vV0 a0)), (61, rI 2 x87_1_1)], L0, []⟩ trivial ?_
                exact WC.next [1, 2, 5, 6, 62, 63, 64] [2, 61] (by kernel_rfl) (hnext87 (x87_1_1, (IntKind.i64.wrap (x87_1_2 + 1))) h)
          · refine WC.condF c111 (by kernel_rfl) ?_
            refine WX.exit ?_
            refine WX.popCodeExit ?_
            refine WC.exit_nil (hexit87 _ _ (by simp) ?_)
            refine WX.popBlkHit ?_
            exact WC.keep [1, 2, 5, 6] [2, 61] (by kernel_rfl) (hJ15 x87_1_1 h)
end Go.Proofs.YtpifpjeeijhhdaaDoor
