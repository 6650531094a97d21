/- YthjncgigdkdepaaDoorGb: a part of the proof; see the last text for what is proved. -/
import Derived.Test.YthjncgigdkdepaaDoorGa
import Derived.Test.YthjncgigdkdepaaDoorProg
import Derived.KernelRfl
set_option maxRecDepth 100000
set_option linter.unusedVariables false
set_option linter.unusedSimpArgs false
namespace Go.Proofs.YthjncgigdkdepaaDoor
open Go.AE
def bits_join_v2_l0 (t2_2 : api_Bits) (t3_4 : api_Bits) (J5 : List Int → Option (api_Bits)) : Nat → (Int × List Int) → Option (api_Bits)
  | 0, _ => none
  | k + 1, (x18_1_1, x18_1_2) => (if (decide (x18_1_1 < (t2_2.Words.length : Int))) = true then (at_ x18_1_2 x18_1_1).bind fun t32_2 => (at_ t3_4.Words x18_1_1).bind fun t32_4 => (bits_And_1 t32_2 t32_4).bind fun t32_6 => bits_join_v2_l0 t2_2 t3_4 J5 k ((IntKind.i64.wrap (x18_1_1 + 1)), x18_1_2.set x18_1_1.toNat t32_6) else J5 x18_1_2)
def bits_join_v2 (k : Nat) (a0 : api_Bits) (a1 : api_Bits) (a2 : (Unit)) : Option (api_Bits) :=
  (bits_own a0).bind fun t2_2 => (bits_own a1).bind fun t3_2 => (bits_fit t3_2 t2_2.N).bind fun t3_4 => jn (fun (v5 : List Int) => some ((api_Bits.mk t2_2.N v5))) fun J5 => bits_join_v2_l0 t2_2 t3_4 J5 k (0, t2_2.Words)
theorem bits_join_v2_ok {k : Nat} {a0 : api_Bits} {a1 : api_Bits} {a2 : (Unit)} {r : api_Bits} (h : bits_join_v2 k a0 a1 a2 = some r) : AnsO Tryd.prog 53 [] [.p (.agg [.s (.int .i64 a0.N), slV (eI .u64) a0.Words]), .p (.agg [.s (.int .i64 a1.N), slV (eI .u64) a1.Words]), .p (.fn 55 [])] [(10, rowV 51 (eI .u64) r.Words)] (.agg [.p (.s (.int .i64 r.N)), .own 10]) := by
  refine W_fnO [10] Tryd.func53 rfl (by kernel_rfl) (by kernel_rfl) (by kernel_rfl) (by kernel_rfl) ?_
  intro X hro hn
  unfold bits_join_v2 at h
  refine WX.seq ?_
  refine WC.reg (n := 40) (by assumption) [] [2, 3, 4, 6] [3, 4, 6] ⟨[(2, .p (.fn 55 [])), (3, .ptr 3 0), (4, .ptr 4 0), (6, .ptr 6 0)], [(3, .box 27 [.p (.s (.int .i64 a0.N)), .p (slV (eI .u64) a0.Words)]), (4, .box 27 [.p (.s (.int .i64 a1.N)), .p (slV (eI .u64) a1.Words)]), (6, .box 27 [.p (.s (.int .i64 0)), .p (.sl .nil 0 [])])], ⟨[], false⟩, []⟩ trivial (by kernel_rfl) ?_
  refine WX.seq ?_
  obtain ⟨t2_2, h2_1, h⟩ := bind_some h
  refine WC.reg (n := 40) (by assumption) [(1, .co [] [] [] [(10, rowV 51 (eI .u64) t2_2.Words)] (.agg [.p (.s (.int .i64 t2_2.N)), .own 10]))] [2, 3, 4, 6] [3, 4, 6, 10] ⟨[(2, .p (.fn 55 [])), (3, .ptr 3 0), (4, .ptr 4 0), (6, .ptr 6 0)], [(3, .box 27 [.p (.s (.int .i64 t2_2.N)), .own 10]), (4, .box 27 [.p (.s (.int .i64 a1.N)), .p (slV (eI .u64) a1.Words)]), (6, .box 27 [.p (.s (.int .i64 0)), .p (.sl .nil 0 [])]), (10, rowV 51 (eI .u64) t2_2.Words)], ⟨[], false⟩, []⟩ (And.intro (And.intro ((bits_own_ok h2_1).ren 9 10 (by kernel_rfl)) (trivial)) (trivial)) (by kernel_rfl) ?_
  refine WX.seq ?_
  obtain ⟨t3_2, h3_1, h⟩ := bind_some h
  obtain ⟨t3_4, h3_3, h⟩ := bind_some h
  refine WC.drw (n := 40) (by assumption) [(6, [])] [7] [(1, .resP (.agg [.s (.int .i64 t3_2.N), slV (eI .u64) t3_2.Words])), (4, .resP (.agg [.s (.int .i64 t3_4.N), slV (eI .u64) t3_4.Words]))] [2, 3, 6, 7] [3, 6, 7, 10] ⟨[(2, .p (.fn 55 [])), (3, .ptr 3 0), (6, .ptr 6 0), (7, .ptr 7 0)], [(3, .box 27 [.p (.s (.int .i64 t2_2.N)), .own 10]), (6, .box 27 [.p (.s (.int .i64 0)), .p (.sl .nil 0 [])]), (7, .box 27 [.p (.s (.int .i64 t3_4.N)), .p (slV (eI .u64) t3_4.Words)]), (10, rowV 51 (eI .u64) t2_2.Words)], ⟨[], false⟩, []⟩ (And.intro ((bits_own_okP h3_1)) (And.intro ((bits_fit_okP h3_3)) (trivial))) (by kernel_rfl) (by kernel_rfl) (by kernel_rfl) (by kernel_rfl) ?_
  refine WX.seq ?_
  refine WX.seq ?_
  refine WC.reg (n := 40) (by assumption) [] [2, 3, 6, 7, 18, 19] [3, 6, 7, 10] ⟨[(2, .p (.fn 55 [])), (3, .ptr 3 0), (6, .ptr 6 0), (7, .ptr 7 0), (18, .p (.s (.int .i64 ((t2_2.Words.length : Int))))), (19, .p (.s (.int .i64 0)))], [(3, .box 27 [.p (.s (.int .i64 t2_2.N)), .own 10]), (6, .box 27 [.p (.s (.int .i64 0)), .p (.sl .nil 0 [])]), (7, .box 27 [.p (.s (.int .i64 t3_4.N)), .p (slV (eI .u64) t3_4.Words)]), (10, rowV 51 (eI .u64) t2_2.Words)], ⟨[], false⟩, []⟩ trivial (by kernel_rfl) ?_
  obtain ⟨J5, eJ5, h⟩ := jn_some h
  try dsimp only at h
  refine WC.join (α := List Int) (fun v5 => ⟨[(3, .ptr 3 0), (6, .ptr 6 0)], [(3, .box 27 [.p (.s (.int .i64 t2_2.N)), .own 10]), (6, .box 27 [.p (.s (.int .i64 0)), .p (.sl .nil 0 [])]), (10, rowV 51 (eI .u64) v5)], ⟨[], false⟩, []⟩) (fun v5 => J5 v5 = some r) ?_ (fun hJ5 => ?_)
  · rintro y5_1 h
    rw [eJ5] at h
    try dsimp only at h
    refine WX.seq ?_
    refine WC.reg (n := 40) (by assumption) [] [6] [6, 10] ⟨[(6, .ptr 6 0)], [(6, .box 27 [.p (.s (.int .i64 t2_2.N)), .own 10]), (10, rowV 51 (eI .u64) y5_1)], ⟨[], false⟩, []⟩ trivial (by kernel_rfl) ?_
    refine WX.ret ?_
    exact WC.outO (by rw [← Option.some.inj h]; kernel_rfl)
  · replace hJ5 := fun y5_1 => hJ5 y5_1
    refine WX.block ?_
    refine WC.loop (V := Int × List Int) (bits_join_v2_l0 t2_2 t3_4 J5) r (fun v18 => ⟨[(2, .p (.fn 55 [])), (3, .ptr 3 0), (6, .ptr 6 0), (7, .ptr 7 0), (18, .p (.s (.int .i64 ((t2_2.Words.length : Int))))), (19, .p (.s (.int .i64 v18.1)))], [(3, .box 27 [.p (.s (.int .i64 t2_2.N)), .own 10]), (6, .box 27 [.p (.s (.int .i64 0)), .p (.sl .nil 0 [])]), (7, .box 27 [.p (.s (.int .i64 t3_4.N)), .p (slV (eI .u64) t3_4.Words)]), (10, rowV 51 (eI .u64) v18.2)], ⟨[], false⟩, []⟩) _ (0, t2_2.Words) h (fun _ => rfl) [2, 3, 6, 7, 18, 19] [3, 6, 7, 10] (by kernel_rfl) ?_
    clear h; rintro k ⟨x18_1_1, x18_1_2⟩ h K18 hnext18 hexit18
    rw [bits_join_v2_l0] at h
    refine WX.seq ?_
    refine WC.reg (n := 40) (by assumption) [] [2, 3, 6, 7, 18, 19, 20] [3, 6, 7, 10] ⟨[(2, .p (.fn 55 [])), (3, .ptr 3 0), (6, .ptr 6 0), (7, .ptr 7 0), (18, .p (.s (.int .i64 ((t2_2.Words.length : Int))))), (19, .p (.s (.int .i64 x18_1_1))), (20, .p (.s (.bool ((decide (x18_1_1 < (t2_2.Words.length : Int)))))))], [(3, .box 27 [.p (.s (.int .i64 t2_2.N)), .own 10]), (6, .box 27 [.p (.s (.int .i64 0)), .p (.sl .nil 0 [])]), (7, .box 27 [.p (.s (.int .i64 t3_4.N)), .p (slV (eI .u64) t3_4.Words)]), (10, rowV 51 (eI .u64) x18_1_2)], ⟨[], false⟩, []⟩ trivial (by kernel_rfl) ?_
    refine WX.seq ?_
    rcases if_or h with ⟨c30, h⟩ | ⟨c30, h⟩
    · refine WC.condT c30 (by kernel_rfl) ?_
      refine WX.skip ?_
      refine WX.seq ?_
      refine WX.block ?_
      refine WX.seq ?_
      refine WC.reg (n := 40) (by assumption) [] [2, 3, 6, 7, 8, 18, 19] [3, 6, 7, 10] ⟨[(2, .p (.fn 55 [])), (3, .ptr 3 0), (6, .ptr 6 0), (7, .ptr 7 0), (8, .p (.s (.int .i64 x18_1_1))), (18, .p (.s (.int .i64 ((t2_2.Words.length : Int))))), (19, .p (.s (.int .i64 x18_1_1)))], [(3, .box 27 [.p (.s (.int .i64 t2_2.N)), .own 10]), (6, .box 27 [.p (.s (.int .i64 0)), .p (.sl .nil 0 [])]), (7, .box 27 [.p (.s (.int .i64 t3_4.N)), .p (slV (eI .u64) t3_4.Words)]), (10, rowV 51 (eI .u64) x18_1_2)], ⟨[], false⟩, []⟩ trivial (by kernel_rfl) ?_
      obtain ⟨t32_2, h32_1, h⟩ := bind_some h
      obtain ⟨t32_4, h32_3, h⟩ := bind_some h
      obtain ⟨t32_6, h32_5, h⟩ := bind_some h
      refine WC.drw (n := 40) (by assumption) [(16, [])] [] [(7, .val (.ptr 10 (x18_1_1.toNat * 1))), (8, .val (.p (.s (.int .u64 t32_2)))), (12, .val (.p (.rop ((eI .u64).cells t32_4 ++ encL (eI .u64) (t3_4.Words.drop (x18_1_1.toNat + 1)))))), (14, .resP (.s (.int .u64 t32_6))), (15, .val (.ptr 10 (x18_1_1.toNat * 1))), (16, .sto 10 (rowV 51 (eI .u64) (x18_1_2.set x18_1_1.toNat t32_6)))] [2, 3, 6, 7, 18, 19] [3, 6, 7, 10] ⟨[(2, .p (.fn 55 [])), (3, .ptr 3 0), (6, .ptr 6 0), (7, .ptr 7 0), (18, .p (.s (.int .i64 ((t2_2.Words.length : Int))))), (19, .p (.s (.int .i64 x18_1_1)))], [(3, .box 27 [.p (.s (.int .i64 t2_2.N)), .own 10]), (6, .box 27 [.p (.s (.int .i64 0)), .p (.sl .nil 0 [])]), (7, .box 27 [.p (.s (.int .i64 t3_4.N)), .p (slV (eI .u64) t3_4.Words)]), (10, rowV 51 (eI .u64) (x18_1_2.set x18_1_1.toNat t32_6))], ⟨[], false⟩, []⟩ (And.intro (IxO 10 1 h32_1) (And.intro (LdO0 Tryd.prog (eI .u64) 51 h32_1) (And.intro (Ix (eI .u64) h32_3) (And.intro ((bits_And_1_ok h32_5)) (And.intro (IxO 10 1 h32_1) (And.intro (StO0 (eI .u64) 10 51 1 1 [.s (.int .u64 t32_6)] t32_6 h32_1 rfl rfl (by decide)) (trivial))))))) (by kernel_rfl) (by kernel_rfl) (by kernel_rfl) (by kernel_rfl) ?_
      refine WX.popBlk ?_
      refine WC.reg (n := 40) (by assumption) [] [2, 3, 6, 7, 18, 19] [3, 6, 7, 10] ⟨[(2, .p (.fn 55 [])), (3, .ptr 3 0), (6, .ptr 6 0), (7, .ptr 7 0), (18, .p (.s (.int .i64 ((t2_2.Words.length : Int))))), (19, .p (.s (.int .i64 ((IntKind.i64.wrap (x18_1_1 + 1))))))], [(3, .box 27 [.p (.s (.int .i64 t2_2.N)), .own 10]), (6, .box 27 [.p (.s (.int .i64 0)), .p (.sl .nil 0 [])]), (7, .box 27 [.p (.s (.int .i64 t3_4.N)), .p (slV (eI .u64) t3_4.Words)]), (10, rowV 51 (eI .u64) (x18_1_2.set x18_1_1.toNat t32_6))], ⟨[], false⟩, []⟩ trivial (by kernel_rfl) ?_
      exact WC.next [2, 3, 6, 7, 18, 19] [3, 6, 7, 10] (by kernel_rfl) (hnext18 ((IntKind.i64.wrap (x18_1_1 + 1)), x18_1_2.set x18_1_1.toNat t32_6) h)
    · refine WC.condF c30 (by kernel_rfl) ?_
      refine WX.exit ?_
      refine WX.popCodeExit ?_
      refine WC.exit_nil (hexit18 _ _ (by simp) ?_)
      refine WX.popBlkHit ?_
      exact WC.keep [3, 6] [3, 6, 10] (by kernel_rfl) (hJ5 x18_1_2 h)
theorem bits_join_v2_okP {k : Nat} {a0 : api_Bits} {a1 : api_Bits} {a2 : (Unit)} {r : api_Bits} (h : bits_join_v2 k a0 a1 a2 = some r) : Ans Tryd.prog 53 [.agg [.s (.int .i64 a0.N), slV (eI .u64) a0.Words], .agg [.s (.int .i64 a1.N), slV (eI .u64) a1.Words], .fn 55 []] (.agg [.s (.int .i64 r.N), slV (eI .u64) r.Words]) := AnsO.ans (args := [.agg [.s (.int .i64 a0.N), slV (eI .u64) a0.Words], .agg [.s (.int .i64 a1.N), slV (eI .u64) a1.Words], .fn 55 []]) (bits_join_v2_ok h) (by kernel_rfl)
def bits_And (k : Nat) (a0 : api_Bits) (a1 : api_Bits) : Option (api_Bits) :=
  (bits_join_v2 k a0 a1 (())).bind fun t2_2 => some t2_2
theorem bits_And_ok {k : Nat} {a0 : api_Bits} {a1 : api_Bits} {r : api_Bits} (h : bits_And k a0 a1 = some r) : AnsO Tryd.prog 29 [] [.p (.agg [.s (.int .i64 a0.N), slV (eI .u64) a0.Words]), .p (.agg [.s (.int .i64 a1.N), slV (eI .u64) a1.Words])] [(7, rowV 51 (eI .u64) r.Words)] (.agg [.p (.s (.int .i64 r.N)), .own 7]) := by
  refine W_fnO [7] Tryd.func29 rfl (by kernel_rfl) (by kernel_rfl) (by kernel_rfl) (by kernel_rfl) ?_
  intro X hro hn
  unfold bits_And at h
  refine WX.seq ?_
  refine WC.reg (n := 8) (by assumption) [] [2, 3, 4] [2, 3, 4] ⟨[(2, .ptr 2 0), (3, .ptr 3 0), (4, .ptr 4 0)], [(2, .box 27 [.p (.s (.int .i64 a0.N)), .p (slV (eI .u64) a0.Words)]), (3, .box 27 [.p (.s (.int .i64 a1.N)), .p (slV (eI .u64) a1.Words)]), (4, .box 27 [.p (.s (.int .i64 0)), .p (.sl .nil 0 [])])], ⟨[], false⟩, []⟩ trivial (by kernel_rfl) ?_
  refine WX.seq ?_
  obtain ⟨t2_2, h2_1, h⟩ := bind_some h
  refine WC.reg (n := 8) (by assumption) [(2, .co [] [] [] [(7, rowV 51 (eI .u64) t2_2.Words)] (.agg [.p (.s (.int .i64 t2_2.N)), .own 7]))] [4] [4, 7] ⟨[(4, .ptr 4 0)], [(4, .box 27 [.p (.s (.int .i64 t2_2.N)), .own 7]), (7, rowV 51 (eI .u64) t2_2.Words)], ⟨[], false⟩, []⟩ (And.intro (And.intro ((bits_join_v2_ok h2_1).ren 10 7 (by kernel_rfl)) (trivial)) (trivial)) (by kernel_rfl) ?_
  refine WX.ret ?_
  exact WC.outO (by rw [← Option.some.inj h]; kernel_rfl)
theorem bits_And_okP {k : Nat} {a0 : api_Bits} {a1 : api_Bits} {r : api_Bits} (h : bits_And k a0 a1 = some r) : Ans Tryd.prog 29 [.agg [.s (.int .i64 a0.N), slV (eI .u64) a0.Words], .agg [.s (.int .i64 a1.N), slV (eI .u64) a1.Words]] (.agg [.s (.int .i64 r.N), slV (eI .u64) r.Words]) := AnsO.ans (args := [.agg [.s (.int .i64 a0.N), slV (eI .u64) a0.Words], .agg [.s (.int .i64 a1.N), slV (eI .u64) a1.Words]]) (bits_And_ok h) (by kernel_rfl)
def bits_Not_1 (a0 : Int) (a1 : Int) : Option (Int) :=
  some ((bits .andNot .u64 a0 a1))
theorem bits_Not_1_ok {a0 : Int} {a1 : Int} {r : Int} (h : bits_Not_1 a0 a1 = some r) : Ans Tryd.prog 56 [.s (.int .u64 a0), .s (.int .u64 a1)] (.s (.int .u64 r)) := by
  refine W_fn Tryd.func56 rfl (by kernel_rfl) (by kernel_rfl) ?_
  intro X hro hn
  unfold bits_Not_1 at h
  refine WX.seq ?_
  refine WC.reg (n := 8) (by assumption) [] [0, 1] [] ⟨[(0, .p (.s (.int .u64 a0))), (1, .p (.s (.int .u64 a1)))], [], ⟨[], false⟩, []⟩ trivial (by kernel_rfl) ?_
  refine WX.seq ?_
  refine WC.reg (n := 8) (by assumption) [] [4] [] ⟨[(4, .p (.s (.int .u64 ((bits .andNot .u64 a0 a1)))))], [], ⟨[], false⟩, []⟩ trivial (by kernel_rfl) ?_
  refine WX.ret ?_
  exact WC.outP (by rw [← Option.some.inj h]; kernel_rfl)
def bits_join_v3_l0 (t2_2 : api_Bits) (t3_4 : api_Bits) (J5 : List Int → Option (api_Bits)) : Nat → (Int × List Int) → Option (api_Bits)
  | 0, _ => none
  | k + 1, (x18_1_1, x18_1_2) => (if (decide (x18_1_1 < (t2_2.Words.length : Int))) = true then (at_ x18_1_2 x18_1_1).bind fun t32_2 => (at_ t3_4.Words x18_1_1).bind fun t32_4 => (bits_Not_1 t32_2 t32_4).bind fun t32_6 => bits_join_v3_l0 t2_2 t3_4 J5 k ((IntKind.i64.wrap (x18_1_1 + 1)), x18_1_2.set x18_1_1.toNat t32_6) else J5 x18_1_2)
def bits_join_v3 (k : Nat) (a0 : api_Bits) (a1 : api_Bits) (a2 : (Unit)) : Option (api_Bits) :=
  (bits_own a0).bind fun t2_2 => (bits_own a1).bind fun t3_2 => (bits_fit t3_2 t2_2.N).bind fun t3_4 => jn (fun (v5 : List Int) => some ((api_Bits.mk t2_2.N v5))) fun J5 => bits_join_v3_l0 t2_2 t3_4 J5 k (0, t2_2.Words)
theorem bits_join_v3_ok {k : Nat} {a0 : api_Bits} {a1 : api_Bits} {a2 : (Unit)} {r : api_Bits} (h : bits_join_v3 k a0 a1 a2 = some r) : AnsO Tryd.prog 53 [] [.p (.agg [.s (.int .i64 a0.N), slV (eI .u64) a0.Words]), .p (.agg [.s (.int .i64 a1.N), slV (eI .u64) a1.Words]), .p (.fn 56 [])] [(10, rowV 51 (eI .u64) r.Words)] (.agg [.p (.s (.int .i64 r.N)), .own 10]) := by
  refine W_fnO [10] Tryd.func53 rfl (by kernel_rfl) (by kernel_rfl) (by kernel_rfl) (by kernel_rfl) ?_
  intro X hro hn
  unfold bits_join_v3 at h
  refine WX.seq ?_
  refine WC.reg (n := 40) (by assumption) [] [2, 3, 4, 6] [3, 4, 6] ⟨[(2, .p (.fn 56 [])), (3, .ptr 3 0), (4, .ptr 4 0), (6, .ptr 6 0)], [(3, .box 27 [.p (.s (.int .i64 a0.N)), .p (slV (eI .u64) a0.Words)]), (4, .box 27 [.p (.s (.int .i64 a1.N)), .p (slV (eI .u64) a1.Words)]), (6, .box 27 [.p (.s (.int .i64 0)), .p (.sl .nil 0 [])])], ⟨[], false⟩, []⟩ trivial (by kernel_rfl) ?_
  refine WX.seq ?_
  obtain ⟨t2_2, h2_1, h⟩ := bind_some h
  refine WC.reg (n := 40) (by assumption) [(1, .co [] [] [] [(10, rowV 51 (eI .u64) t2_2.Words)] (.agg [.p (.s (.int .i64 t2_2.N)), .own 10]))] [2, 3, 4, 6] [3, 4, 6, 10] ⟨[(2, .p (.fn 56 [])), (3, .ptr 3 0), (4, .ptr 4 0), (6, .ptr 6 0)], [(3, .box 27 [.p (.s (.int .i64 t2_2.N)), .own 10]), (4, .box 27 [.p (.s (.int .i64 a1.N)), .p (slV (eI .u64) a1.Words)]), (6, .box 27 [.p (.s (.int .i64 0)), .p (.sl .nil 0 [])]), (10, rowV 51 (eI .u64) t2_2.Words)], ⟨[], false⟩, []⟩ (And.intro (And.intro ((bits_own_ok h2_1).ren 9 10 (by kernel_rfl)) (trivial)) (trivial)) (by kernel_rfl) ?_
  refine WX.seq ?_
  obtain ⟨t3_2, h3_1, h⟩ := bind_some h
  obtain ⟨t3_4, h3_3, h⟩ := bind_some h
  refine WC.drw (n := 40) (by assumption) [(6, [])] [7] [(1, .resP (.agg [.s (.int .i64 t3_2.N), slV (eI .u64) t3_2.Words])), (4, .resP (.agg [.s (.int .i64 t3_4.N), slV (eI .u64) t3_4.Words]))] [2, 3, 6, 7] [3, 6, 7, 10] ⟨[(2, .p (.fn 56 [])), (3, .ptr 3 0), (6, .ptr 6 0), (7, .ptr 7 0)], [(3, .box 27 [.p (.s (.int .i64 t2_2.N)), .own 10]), (6, .box 27 [.p (.s (.int .i64 0)), .p (.sl .nil 0 [])]), (7, .box 27 [.p (.s (.int .i64 t3_4.N)), .p (slV (eI .u64) t3_4.Words)]), (10, rowV 51 (eI .u64) t2_2.Words)], ⟨[], false⟩, []⟩ (And.intro ((bits_own_okP h3_1)) (And.intro ((bits_fit_okP h3_3)) (trivial))) (by kernel_rfl) (by kernel_rfl) (by kernel_rfl) (by kernel_rfl) ?_
  refine WX.seq ?_
  refine WX.seq ?_
  refine WC.reg (n := 40) (by assumption) [] [2, 3, 6, 7, 18, 19] [3, 6, 7, 10] ⟨[(2, .p (.fn 56 [])), (3, .ptr 3 0), (6, .ptr 6 0), (7, .ptr 7 0), (18, .p (.s (.int .i64 ((t2_2.Words.length : Int))))), (19, .p (.s (.int .i64 0)))], [(3, .box 27 [.p (.s (.int .i64 t2_2.N)), .own 10]), (6, .box 27 [.p (.s (.int .i64 0)), .p (.sl .nil 0 [])]), (7, .box 27 [.p (.s (.int .i64 t3_4.N)), .p (slV (eI .u64) t3_4.Words)]), (10, rowV 51 (eI .u64) t2_2.Words)], ⟨[], false⟩, []⟩ trivial (by kernel_rfl) ?_
  obtain ⟨J5, eJ5, h⟩ := jn_some h
  try dsimp only at h
  refine WC.join (α := List Int) (fun v5 => ⟨[(3, .ptr 3 0), (6, .ptr 6 0)], [(3, .box 27 [.p (.s (.int .i64 t2_2.N)), .own 10]), (6, .box 27 [.p (.s (.int .i64 0)), .p (.sl .nil 0 [])]), (10, rowV 51 (eI .u64) v5)], ⟨[], false⟩, []⟩) (fun v5 => J5 v5 = some r) ?_ (fun hJ5 => ?_)
  · rintro y5_1 h
    rw [eJ5] at h
    try dsimp only at h
    refine WX.seq ?_
    refine WC.reg (n := 40) (by assumption) [] [6] [6, 10] ⟨[(6, .ptr 6 0)], [(6, .box 27 [.p (.s (.int .i64 t2_2.N)), .own 10]), (10, rowV 51 (eI .u64) y5_1)], ⟨[], false⟩, []⟩ trivial (by kernel_rfl) ?_
    refine WX.ret ?_
    exact WC.outO (by rw [← Option.some.inj h]; kernel_rfl)
  · replace hJ5 := fun y5_1 => hJ5 y5_1
    refine WX.block ?_
    refine WC.loop (V := Int × List Int) (bits_join_v3_l0 t2_2 t3_4 J5) r (fun v18 => ⟨[(2, .p (.fn 56 [])), (3, .ptr 3 0), (6, .ptr 6 0), (7, .ptr 7 0), (18, .p (.s (.int .i64 ((t2_2.Words.length : Int))))), (19, .p (.s (.int .i64 v18.1)))], [(3, .box 27 [.p (.s (.int .i64 t2_2.N)), .own 10]), (6, .box 27 [.p (.s (.int .i64 0)), .p (.sl .nil 0 [])]), (7, .box 27 [.p (.s (.int .i64 t3_4.N)), .p (slV (eI .u64) t3_4.Words)]), (10, rowV 51 (eI .u64) v18.2)], ⟨[], false⟩, []⟩) _ (0, t2_2.Words) h (fun _ => rfl) [2, 3, 6, 7, 18, 19] [3, 6, 7, 10] (by kernel_rfl) ?_
    clear h; rintro k ⟨x18_1_1, x18_1_2⟩ h K18 hnext18 hexit18
    rw [bits_join_v3_l0] at h
    refine WX.seq ?_
    refine WC.reg (n := 40) (by assumption) [] [2, 3, 6, 7, 18, 19, 20] [3, 6, 7, 10] ⟨[(2, .p (.fn 56 [])), (3, .ptr 3 0), (6, .ptr 6 0), (7, .ptr 7 0), (18, .p (.s (.int .i64 ((t2_2.Words.length : Int))))), (19, .p (.s (.int .i64 x18_1_1))), (20, .p (.s (.bool ((decide (x18_1_1 < (t2_2.Words.length : Int)))))))], [(3, .box 27 [.p (.s (.int .i64 t2_2.N)), .own 10]), (6, .box 27 [.p (.s (.int .i64 0)), .p (.sl .nil 0 [])]), (7, .box 27 [.p (.s (.int .i64 t3_4.N)), .p (slV (eI .u64) t3_4.Words)]), (10, rowV 51 (eI .u64) x18_1_2)], ⟨[], false⟩, []⟩ trivial (by kernel_rfl) ?_
    refine WX.seq ?_
    rcases if_or h with ⟨c30, h⟩ | ⟨c30, h⟩
    · refine WC.condT c30 (by kernel_rfl) ?_
      refine WX.skip ?_
      refine WX.seq ?_
      refine WX.block ?_
      refine WX.seq ?_
      refine WC.reg (n := 40) (by assumption) [] [2, 3, 6, 7, 8, 18, 19] [3, 6, 7, 10] ⟨[(2, .p (.fn 56 [])), (3, .ptr 3 0), (6, .ptr 6 0), (7, .ptr 7 0), (8, .p (.s (.int .i64 x18_1_1))), (18, .p (.s (.int .i64 ((t2_2.Words.length : Int))))), (19, .p (.s (.int .i64 x18_1_1)))], [(3, .box 27 [.p (.s (.int .i64 t2_2.N)), .own 10]), (6, .box 27 [.p (.s (.int .i64 0)), .p (.sl .nil 0 [])]), (7, .box 27 [.p (.s (.int .i64 t3_4.N)), .p (slV (eI .u64) t3_4.Words)]), (10, rowV 51 (eI .u64) x18_1_2)], ⟨[], false⟩, []⟩ trivial (by kernel_rfl) ?_
      obtain ⟨t32_2, h32_1, h⟩ := bind_some h
      obtain ⟨t32_4, h32_3, h⟩ := bind_some h
      obtain ⟨t32_6, h32_5, h⟩ := bind_some h
      refine WC.drw (n := 40) (by assumption) [(16, [])] [] [(7, .val (.ptr 10 (x18_1_1.toNat * 1))), (8, .val (.p (.s (.int .u64 t32_2)))), (12, .val (.p (.rop ((eI .u64).cells t32_4 ++ encL (eI .u64) (t3_4.Words.drop (x18_1_1.toNat + 1)))))), (14, .resP (.s (.int .u64 t32_6))), (15, .val (.ptr 10 (x18_1_1.toNat * 1))), (16, .sto 10 (rowV 51 (eI .u64) (x18_1_2.set x18_1_1.toNat t32_6)))] [2, 3, 6, 7, 18, 19] [3, 6, 7, 10] ⟨[(2, .p (.fn 56 [])), (3, .ptr 3 0), (6, .ptr 6 0), (7, .ptr 7 0), (18, .p (.s (.int .i64 ((t2_2.Words.length : Int))))), (19, .p (.s (.int .i64 x18_1_1)))], [(3, .box 27 [.p (.s (.int .i64 t2_2.N)), .own 10]), (6, .box 27 [.p (.s (.int .i64 0)), .p (.sl .nil 0 [])]), (7, .box 27 [.p (.s (.int .i64 t3_4.N)), .p (slV (eI .u64) t3_4.Words)]), (10, rowV 51 (eI .u64) (x18_1_2.set x18_1_1.toNat t32_6))], ⟨[], false⟩, []⟩ (And.intro (IxO 10 1 h32_1) (And.intro (LdO0 Tryd.prog (eI .u64) 51 h32_1) (And.intro (Ix (eI .u64) h32_3) (And.intro ((bits_Not_1_ok h32_5)) (And.intro (IxO 10 1 h32_1) (And.intro (StO0 (eI .u64) 10 51 1 1 [.s (.int .u64 t32_6)] t32_6 h32_1 rfl rfl (by decide)) (trivial))))))) (by kernel_rfl) (by kernel_rfl) (by kernel_rfl) (by kernel_rfl) ?_
      refine WX.popBlk ?_
      refine WC.reg (n := 40) (by assumption) [] [2, 3, 6, 7, 18, 19] [3, 6, 7, 10] ⟨[(2, .p (.fn 56 [])), (3, .ptr 3 0), (6, .ptr 6 0), (7, .ptr 7 0), (18, .p (.s (.int .i64 ((t2_2.Words.length : Int))))), (19, .p (.s (.int .i64 ((IntKind.i64.wrap (x18_1_1 + 1))))))], [(3, .box 27 [.p (.s (.int .i64 t2_2.N)), .own 10]), (6, .box 27 [.p (.s (.int .i64 0)), .p (.sl .nil 0 [])]), (7, .box 27 [.p (.s (.int .i64 t3_4.N)), .p (slV (eI .u64) t3_4.Words)]), (10, rowV 51 (eI .u64) (x18_1_2.set x18_1_1.toNat t32_6))], ⟨[], false⟩, []⟩ trivial (by kernel_rfl) ?_
      exact WC.next [2, 3, 6, 7, 18, 19] [3, 6, 7, 10] (by kernel_rfl) (hnext18 ((IntKind.i64.wrap (x18_1_1 + 1)), x18_1_2.set x18_1_1.toNat t32_6) h)
    · refine WC.condF c30 (by kernel_rfl) ?_
      refine WX.exit ?_
      refine WX.popCodeExit ?_
      refine WC.exit_nil (hexit18 _ _ (by simp) ?_)
      refine WX.popBlkHit ?_
      exact WC.keep [3, 6] [3, 6, 10] (by kernel_rfl) (hJ5 x18_1_2 h)
theorem bits_join_v3_okP {k : Nat} {a0 : api_Bits} {a1 : api_Bits} {a2 : (Unit)} {r : api_Bits} (h : bits_join_v3 k a0 a1 a2 = some r) : Ans Tryd.prog 53 [.agg [.s (.int .i64 a0.N), slV (eI .u64) a0.Words], .agg [.s (.int .i64 a1.N), slV (eI .u64) a1.Words], .fn 56 []] (.agg [.s (.int .i64 r.N), slV (eI .u64) r.Words]) := AnsO.ans (args := [.agg [.s (.int .i64 a0.N), slV (eI .u64) a0.Words], .agg [.s (.int .i64 a1.N), slV (eI .u64) a1.Words], .fn 56 []]) (bits_join_v3_ok h) (by kernel_rfl)
def bits_Not (k : Nat) (a0 : api_Bits) (a1 : api_Bits) : Option (api_Bits) :=
  (bits_join_v3 k a0 a1 (())).bind fun t2_2 => some t2_2
theorem bits_Not_ok {k : Nat} {a0 : api_Bits} {a1 : api_Bits} {r : api_Bits} (h : bits_Not k a0 a1 = some r) : AnsO Tryd.prog 30 [] [.p (.agg [.s (.int .i64 a0.N), slV (eI .u64) a0.Words]), .p (.agg [.s (.int .i64 a1.N), slV (eI .u64) a1.Words])] [(7, rowV 51 (eI .u64) r.Words)] (.agg [.p (.s (.int .i64 r.N)), .own 7]) := by
  refine W_fnO [7] Tryd.func30 rfl (by kernel_rfl) (by kernel_rfl) (by kernel_rfl) (by kernel_rfl) ?_
  intro X hro hn
  unfold bits_Not at h
  refine WX.seq ?_
  refine WC.reg (n := 8) (by assumption) [] [2, 3, 4] [2, 3, 4] ⟨[(2, .ptr 2 0), (3, .ptr 3 0), (4, .ptr 4 0)], [(2, .box 27 [.p (.s (.int .i64 a0.N)), .p (slV (eI .u64) a0.Words)]), (3, .box 27 [.p (.s (.int .i64 a1.N)), .p (slV (eI .u64) a1.Words)]), (4, .box 27 [.p (.s (.int .i64 0)), .p (.sl .nil 0 [])])], ⟨[], false⟩, []⟩ trivial (by kernel_rfl) ?_
  refine WX.seq ?_
  obtain ⟨t2_2, h2_1, h⟩ := bind_some h
  refine WC.reg (n := 8) (by assumption) [(2, .co [] [] [] [(7, rowV 51 (eI .u64) t2_2.Words)] (.agg [.p (.s (.int .i64 t2_2.N)), .own 7]))] [4] [4, 7] ⟨[(4, .ptr 4 0)], [(4, .box 27 [.p (.s (.int .i64 t2_2.N)), .own 7]), (7, rowV 51 (eI .u64) t2_2.Words)], ⟨[], false⟩, []⟩ (And.intro (And.intro ((bits_join_v3_ok h2_1).ren 10 7 (by kernel_rfl)) (trivial)) (trivial)) (by kernel_rfl) ?_
  refine WX.ret ?_
  exact WC.outO (by rw [← Option.some.inj h]; kernel_rfl)
theorem bits_Not_okP {k : Nat} {a0 : api_Bits} {a1 : api_Bits} {r : api_Bits} (h : bits_Not k a0 a1 = some r) : Ans Tryd.prog 30 [.agg [.s (.int .i64 a0.N), slV (eI .u64) a0.Words], .agg [.s (.int .i64 a1.N), slV (eI .u64) a1.Words]] (.agg [.s (.int .i64 r.N), slV (eI .u64) r.Words]) := AnsO.ans (args := [.agg [.s (.int .i64 a0.N), slV (eI .u64) a0.Words], .agg [.s (.int .i64 a1.N), slV (eI .u64) a1.Words]]) (bits_Not_ok h) (by kernel_rfl)
def riddleref01_Not (k : Nat) (a0 : api_Bits) (a1 : api_Bits) : Option (api_Bits) :=
  (riddleref01_pick k a0 a1 false).bind fun t2_2 => some t2_2
theorem riddleref01_Not_ok {k : Nat} {a0 : api_Bits} {a1 : api_Bits} {r : api_Bits} (h : riddleref01_Not k a0 a1 = some r) : AnsO Tryd.prog 31 [] [.p (.agg [.s (.int .i64 a0.N), slV (eI .u64) a0.Words]), .p (.agg [.s (.int .i64 a1.N), slV (eI .u64) a1.Words])] [(7, rowV 51 (eI .u64) r.Words)] (.agg [.p (.s (.int .i64 r.N)), .own 7]) := by
  refine W_fnO [7] Tryd.func31 rfl (by kernel_rfl) (by kernel_rfl) (by kernel_rfl) (by kernel_rfl) ?_
  intro X hro hn
  unfold riddleref01_Not at h
  refine WX.seq ?_
  refine WC.reg (n := 8) (by assumption) [] [2, 3, 4] [2, 3, 4] ⟨[(2, .ptr 2 0), (3, .ptr 3 0), (4, .ptr 4 0)], [(2, .box 27 [.p (.s (.int .i64 a0.N)), .p (slV (eI .u64) a0.Words)]), (3, .box 27 [.p (.s (.int .i64 a1.N)), .p (slV (eI .u64) a1.Words)]), (4, .box 27 [.p (.s (.int .i64 0)), .p (.sl .nil 0 [])])], ⟨[], false⟩, []⟩ trivial (by kernel_rfl) ?_
  refine WX.seq ?_
  obtain ⟨t2_2, h2_1, h⟩ := bind_some h
  refine WC.reg (n := 8) (by assumption) [(2, .co [] [] [] [(7, rowV 51 (eI .u64) t2_2.Words)] (.agg [.p (.s (.int .i64 t2_2.N)), .own 7]))] [4] [4, 7] ⟨[(4, .ptr 4 0)], [(4, .box 27 [.p (.s (.int .i64 t2_2.N)), .own 7]), (7, rowV 51 (eI .u64) t2_2.Words)], ⟨[], false⟩, []⟩ (And.intro (And.intro ((riddleref01_pick_ok h2_1).ren 12 7 (by kernel_rfl)) (trivial)) (trivial)) (by kernel_rfl) ?_
  refine WX.ret ?_
  exact WC.outO (by rw [← Option.some.inj h]; kernel_rfl)
theorem riddleref01_Not_okP {k : Nat} {a0 : api_Bits} {a1 : api_Bits} {r : api_Bits} (h : riddleref01_Not k a0 a1 = some r) : Ans Tryd.prog 31 [.agg [.s (.int .i64 a0.N), slV (eI .u64) a0.Words], .agg [.s (.int .i64 a1.N), slV (eI .u64) a1.Words]] (.agg [.s (.int .i64 r.N), slV (eI .u64) r.Words]) := AnsO.ans (args := [.agg [.s (.int .i64 a0.N), slV (eI .u64) a0.Words], .agg [.s (.int .i64 a1.N), slV (eI .u64) a1.Words]]) (riddleref01_Not_ok h) (by kernel_rfl)
def bits_Meet (k : Nat) (a0 : api_Bits) (a1 : api_Bits) : Option (Bool) :=
  (bits_And k a0 a1).bind fun t2_2 => (bits_First k t2_2 0).bind fun t2_4 => some t2_4.2
theorem bits_Meet_ok {k : Nat} {a0 : api_Bits} {a1 : api_Bits} {r : Bool} (h : bits_Meet k a0 a1 = some r) : Ans Tryd.prog 32 [.agg [.s (.int .i64 a0.N), slV (eI .u64) a0.Words], .agg [.s (.int .i64 a1.N), slV (eI .u64) a1.Words]] (.s (.bool r)) := by
  refine W_fn Tryd.func32 rfl (by kernel_rfl) (by kernel_rfl) ?_
  intro X hro hn
  unfold bits_Meet at h
  refine WX.seq ?_
  refine WC.reg (n := 15) (by assumption) [] [2, 3] [2, 3] ⟨[(2, .ptr 2 0), (3, .ptr 3 0)], [(2, .box 27 [.p (.s (.int .i64 a0.N)), .p (slV (eI .u64) a0.Words)]), (3, .box 27 [.p (.s (.int .i64 a1.N)), .p (slV (eI .u64) a1.Words)])], ⟨[], false⟩, []⟩ trivial (by kernel_rfl) ?_
  refine WX.seq ?_
  obtain ⟨t2_2, h2_1, h⟩ := bind_some h
  obtain ⟨t2_4, h2_3, h⟩ := bind_some h
  refine WC.reg (n := 15) (by assumption) [(2, .co [] [] [] [(10, rowV 51 (eI .u64) t2_2.Words)] (.agg [.p (.s (.int .i64 t2_2.N)), .own 10])), (3, .res (.tup [.s (.int .i64 t2_4.1), .s (.bool t2_4.2)]))] [6] [] ⟨[(6, .p (.s (.bool t2_4.2)))], [], ⟨[], false⟩, []⟩ (And.intro (And.intro ((bits_And_ok h2_1).ren 7 10 (by kernel_rfl)) (trivial)) (And.intro (And.intro (bits_First_ok h2_3) (rfl : (.tup [.s (.int .i64 t2_4.1), .s (.bool t2_4.2)] : PV).flat = true)) (trivial))) (by kernel_rfl) ?_
  refine WX.seq ?_
  refine WC.reg (n := 15) (by assumption) [] [4] [] ⟨[(4, .p (.s (.bool t2_4.2)))], [], ⟨[], false⟩, []⟩ trivial (by kernel_rfl) ?_
  refine WX.ret ?_
  exact WC.outP (by rw [← Option.some.inj h]; kernel_rfl)
def bits_Same (k : Nat) (a0 : api_Bits) (a1 : api_Bits) : Option (Bool) :=
  (bits_own a0).bind fun t2_2 => (bits_own a1).bind fun t2_4 => ((if (t2_2.N == t2_4.N) = true then (slices_Equal_uint64_uint64 k t2_2.Words t2_4.Words).bind fun t3_2 => some t3_2 else some false) : Option (Bool)).bind fun v3 => some v3
theorem bits_Same_ok {k : Nat} {a0 : api_Bits} {a1 : api_Bits} {r : Bool} (h : bits_Same k a0 a1 = some r) : Ans Tryd.prog 33 [.agg [.s (.int .i64 a0.N), slV (eI .u64) a0.Words], .agg [.s (.int .i64 a1.N), slV (eI .u64) a1.Words]] (.s (.bool r)) := by
  refine W_fn Tryd.func33 rfl (by kernel_rfl) (by kernel_rfl) ?_
  intro X hro hn
  unfold bits_Same at h
  refine WX.seq ?_
  refine WC.reg (n := 21) (by assumption) [] [2, 3] [2, 3] ⟨[(2, .ptr 2 0), (3, .ptr 3 0)], [(2, .box 27 [.p (.s (.int .i64 a0.N)), .p (slV (eI .u64) a0.Words)]), (3, .box 27 [.p (.s (.int .i64 a1.N)), .p (slV (eI .u64) a1.Words)])], ⟨[], false⟩, []⟩ trivial (by kernel_rfl) ?_
  refine WX.seq ?_
  obtain ⟨t2_2, h2_1, h⟩ := bind_some h
  obtain ⟨t2_4, h2_3, h⟩ := bind_some h
  refine WC.drw (n := 21) (by assumption) [(4, []), (5, [])] [] [(1, .resP (.agg [.s (.int .i64 t2_2.N), slV (eI .u64) t2_2.Words])), (3, .resP (.agg [.s (.int .i64 t2_4.N), slV (eI .u64) t2_4.Words]))] [2, 3] [2, 3] ⟨[(2, .ptr 2 0), (3, .ptr 3 0)], [(2, .box 27 [.p (.s (.int .i64 t2_2.N)), .p (slV (eI .u64) t2_2.Words)]), (3, .box 27 [.p (.s (.int .i64 t2_4.N)), .p (slV (eI .u64) t2_4.Words)])], ⟨[], false⟩, []⟩ (And.intro ((bits_own_okP h2_1)) (And.intro ((bits_own_okP h2_3)) (trivial))) (by kernel_rfl) (by kernel_rfl) (by kernel_rfl) (by kernel_rfl) ?_
  refine WX.seq ?_
  obtain ⟨m3_1, g3, h⟩ := bind_some h
  refine WC.via (α := Bool) (fun v3 => ⟨[(4, .p (.s (.bool v3)))], [], ⟨[], false⟩, []⟩) m3_1 (fun hk => ?_) ?_
  · rcases if_or g3 with ⟨b3_5, g3⟩ | ⟨b3_5, g3⟩
    · obtain ⟨t3_2, h3_1, g3⟩ := bind_some g3
      exact WC.reg (n := 21) (by assumption) [(5, .val (.p (.s (.bool true)))), (10, .resP (.s (.bool t3_2)))] [4] [] ⟨[(4, .p (.s (.bool t3_2)))], [], ⟨[], false⟩, []⟩ (And.intro (Bl b3_5) (And.intro ((slices_Equal_uint64_uint64_ok h3_1)) (trivial))) (by kernel_rfl) (hk t3_2 (Option.some.inj g3))
    · exact WC.reg (n := 21) (by assumption) [(5, .val (.p (.s (.bool false))))] [4] [] ⟨[(4, .p (.s (.bool false)))], [], ⟨[], false⟩, []⟩ (And.intro (Bl b3_5) (trivial)) (by kernel_rfl) (hk false (Option.some.inj g3))
  refine WX.ret ?_
  exact WC.outP (by rw [← Option.some.inj h]; kernel_rfl)
def riddleref01_Same_l0 (t2_2 : api_Bits) (t2_4 : api_Bits) (J7 : Unit → Option (Bool)) : Nat → Int → Option (Bool)
  | 0, _ => none
  | k + 1, x22_1_1 => (if (decide (x22_1_1 < (t2_2.Words.length : Int))) = true then (at_ t2_2.Words x22_1_1).bind fun t37_2 => (at_ t2_4.Words x22_1_1).bind fun t37_4 => (if (t37_2 != t37_4) = true then some false else riddleref01_Same_l0 t2_2 t2_4 J7 k ((IntKind.i64.wrap (x22_1_1 + 1)))) else J7 ())
def riddleref01_Same (k : Nat) (a0 : api_Bits) (a1 : api_Bits) : Option (Bool) :=
  (riddleref01_may k a0).bind fun t2_2 => (riddleref01_may k a1).bind fun t2_4 => (if (t2_2.N != t2_4.N) = true then some false else jn (fun (v7 : Unit) => some true) fun J7 => riddleref01_Same_l0 t2_2 t2_4 J7 k 0)
theorem riddleref01_Same_ok {k : Nat} {a0 : api_Bits} {a1 : api_Bits} {r : Bool} (h : riddleref01_Same k a0 a1 = some r) : Ans Tryd.prog 34 [.agg [.s (.int .i64 a0.N), slV (eI .u64) a0.Words], .agg [.s (.int .i64 a1.N), slV (eI .u64) a1.Words]] (.s (.bool r)) := by
  refine W_fn Tryd.func34 rfl (by kernel_rfl) (by kernel_rfl) ?_
  intro X hro hn
  unfold riddleref01_Same at h
  refine WX.seq ?_
  refine WC.reg (n := 33) (by assumption) [] [2, 3] [2, 3] ⟨[(2, .ptr 2 0), (3, .ptr 3 0)], [(2, .box 27 [.p (.s (.int .i64 a0.N)), .p (slV (eI .u64) a0.Words)]), (3, .box 27 [.p (.s (.int .i64 a1.N)), .p (slV (eI .u64) a1.Words)])], ⟨[], false⟩, []⟩ trivial (by kernel_rfl) ?_
  refine WX.seq ?_
  obtain ⟨t2_2, h2_1, h⟩ := bind_some h
  obtain ⟨t2_4, h2_3, h⟩ := bind_some h
  refine WC.drw (n := 33) (by assumption) [(4, []), (5, [])] [] [(1, .resP (.agg [.s (.int .i64 t2_2.N), slV (eI .u64) t2_2.Words])), (3, .resP (.agg [.s (.int .i64 t2_4.N), slV (eI .u64) t2_4.Words]))] [2, 3] [2, 3] ⟨[(2, .ptr 2 0), (3, .ptr 3 0)], [(2, .box 27 [.p (.s (.int .i64 t2_2.N)), .p (slV (eI .u64) t2_2.Words)]), (3, .box 27 [.p (.s (.int .i64 t2_4.N)), .p (slV (eI .u64) t2_4.Words)])], ⟨[], false⟩, []⟩ (And.intro ((riddleref01_may_ok h2_1)) (And.intro ((riddleref01_may_ok h2_3)) (trivial))) (by kernel_rfl) (by kernel_rfl) (by kernel_rfl) (by kernel_rfl) ?_
  refine WX.seq ?_
  refine WX.seq ?_
  refine WC.reg (n := 33) (by assumption) [] [2, 3, 14] [2, 3] ⟨[(2, .ptr 2 0), (3, .ptr 3 0), (14, .p (.s (.bool ((t2_2.N != t2_4.N)))))], [(2, .box 27 [.p (.s (.int .i64 t2_2.N)), .p (slV (eI .u64) t2_2.Words)]), (3, .box 27 [.p (.s (.int .i64 t2_4.N)), .p (slV (eI .u64) t2_4.Words)])], ⟨[], false⟩, []⟩ trivial (by kernel_rfl) ?_
  rcases if_or h with ⟨c4, h⟩ | ⟨c4, h⟩
  · refine WC.condT c4 (by kernel_rfl) ?_
    refine WX.seq ?_
    refine WC.reg (n := 33) (by assumption) [] [4] [] ⟨[(4, .p (.s (.bool false)))], [], ⟨[], false⟩, []⟩ trivial (by kernel_rfl) ?_
    refine WX.ret ?_
    exact WC.outP (by rw [← Option.some.inj h]; kernel_rfl)
  · refine WC.condF c4 (by kernel_rfl) ?_
    refine WX.skip ?_
    refine WX.seq ?_
    refine WX.seq ?_
    refine WC.reg (n := 33) (by assumption) [] [2, 3, 5] [2, 3] ⟨[(2, .ptr 2 0), (3, .ptr 3 0), (5, .p (.s (.int .i64 0)))], [(2, .box 27 [.p (.s (.int .i64 t2_2.N)), .p (slV (eI .u64) t2_2.Words)]), (3, .box 27 [.p (.s (.int .i64 t2_4.N)), .p (slV (eI .u64) t2_4.Words)])], ⟨[], false⟩, []⟩ trivial (by kernel_rfl) ?_
    obtain ⟨J7, eJ7, h⟩ := jn_some h
    try dsimp only at h
    refine WC.join (α := Unit) (fun v7 => ⟨[], [], ⟨[], false⟩, []⟩) (fun v7 => J7 v7 = some r) ?_ (fun hJ7 => ?_)
    · rintro _ h
      rw [eJ7] at h
      try dsimp only at h
      refine WX.seq ?_
      refine WC.reg (n := 33) (by assumption) [] [4] [] ⟨[(4, .p (.s (.bool true)))], [], ⟨[], false⟩, []⟩ trivial (by kernel_rfl) ?_
      refine WX.ret ?_
      exact WC.outP (by rw [← Option.some.inj h]; kernel_rfl)
    · skip
      refine WX.block ?_
      refine WC.loop (V := Int) (riddleref01_Same_l0 t2_2 t2_4 J7) r (fun v22 => ⟨[(2, .ptr 2 0), (3, .ptr 3 0), (5, .p (.s (.int .i64 v22)))], [(2, .box 27 [.p (.s (.int .i64 t2_2.N)), .p (slV (eI .u64) t2_2.Words)]), (3, .box 27 [.p (.s (.int .i64 t2_4.N)), .p (slV (eI .u64) t2_4.Words)])], ⟨[], false⟩, []⟩) _ 0 h (fun _ => rfl) [2, 3, 5] [2, 3] (by kernel_rfl) ?_
      clear h; rintro k x22_1_1 h K22 hnext22 hexit22
      rw [riddleref01_Same_l0] at h
      refine WX.seq ?_
      refine WX.seq ?_
      refine WC.reg (n := 33) (by assumption) [] [2, 3, 5, 19] [2, 3] ⟨[(2, .ptr 2 0), (3, .ptr 3 0), (5, .p (.s (.int .i64 x22_1_1))), (19, .p (.s (.bool ((decide (x22_1_1 < (t2_2.Words.length : Int)))))))], [(2, .box 27 [.p (.s (.int .i64 t2_2.N)), .p (slV (eI .u64) t2_2.Words)]), (3, .box 27 [.p (.s (.int .i64 t2_4.N)), .p (slV (eI .u64) t2_4.Words)])], ⟨[], false⟩, []⟩ trivial (by kernel_rfl) ?_
      rcases if_or h with ⟨c36, h⟩ | ⟨c36, h⟩
      · refine WC.condT c36 (by kernel_rfl) ?_
        refine WX.skip ?_
        refine WX.seq ?_
        refine WX.block ?_
        refine WX.seq ?_
        obtain ⟨t37_2, h37_1, h⟩ := bind_some h
        obtain ⟨t37_4, h37_3, h⟩ := bind_some h
        refine WC.drw (n := 33) (by assumption) [] [] [(3, .val (.p (.rop ((eI .u64).cells t37_2 ++ encL (eI .u64) (t2_2.Words.drop (x22_1_1.toNat + 1)))))), (8, .val (.p (.rop ((eI .u64).cells t37_4 ++ encL (eI .u64) (t2_4.Words.drop (x22_1_1.toNat + 1))))))] [2, 3, 5, 32] [2, 3] ⟨[(2, .ptr 2 0), (3, .ptr 3 0), (5, .p (.s (.int .i64 x22_1_1))), (32, .p (.s (.bool ((t37_2 != t37_4)))))], [(2, .box 27 [.p (.s (.int .i64 t2_2.N)), .p (slV (eI .u64) t2_2.Words)]), (3, .box 27 [.p (.s (.int .i64 t2_4.N)), .p (slV (eI .u64) t2_4.Words)])], ⟨[], false⟩, []⟩ (And.intro (Ix (eI .u64) h37_1) (And.intro (Ix (eI .u64) h37_3) (trivial))) (by kernel_rfl) (by kernel_rfl) (by kernel_rfl) (by kernel_rfl) ?_
        rcases if_or h with ⟨c38, h⟩ | ⟨c38, h⟩
        · refine WC.condT c38 (by kernel_rfl) ?_
          refine WX.seq ?_
          refine WC.reg (n := 33) (by assumption) [] [4] [] ⟨[(4, .p (.s (.bool false)))], [], ⟨[], false⟩, []⟩ trivial (by kernel_rfl) ?_
          refine WX.ret ?_
          refine WC.ret_all (hexit22 _ _ (by simp) ?_)
          exact WC.outP (by rw [← Option.some.inj h]; kernel_rfl)
        · refine WC.condF c38 (by kernel_rfl) ?_
          refine WX.skip ?_
          refine WX.popBlk ?_
          refine WC.reg (n := 33) (by assumption) [] [2, 3, 5] [2, 3] ⟨[(2, .ptr 2 0), (3, .ptr 3 0), (5, .p (.s (.int .i64 ((IntKind.i64.wrap (x22_1_1 + 1))))))], [(2, .box 27 [.p (.s (.int .i64 t2_2.N)), .p (slV (eI .u64) t2_2.Words)]), (3, .box 27 [.p (.s (.int .i64 t2_4.N)), .p (slV (eI .u64) t2_4.Words)])], ⟨[], false⟩, []⟩ trivial (by kernel_rfl) ?_
          exact WC.next [2, 3, 5] [2, 3] (by kernel_rfl) (hnext22 ((IntKind.i64.wrap (x22_1_1 + 1))) h)
      · refine WC.condF c36 (by kernel_rfl) ?_
        refine WX.exit ?_
        refine WX.popCodeExit ?_
        refine WC.exit_nil (hexit22 _ _ (by simp) ?_)
        refine WX.popBlkHit ?_
        exact WC.keep [] [] (by kernel_rfl) (hJ7 () h)
def riddlelaw01_BitsTwo (k : Nat) (a0 : api_Bits) (a1 : api_Bits) : Option (Bool) :=
  (riddlelaw01_live k).bind fun t2_2 => (if (!t2_2) = true then some false else (riddleref01_And k a0 a1).bind fun t5_2 => (riddleref01_List k t5_2).bind fun t5_4 => (bits_Or k a0 a1).bind fun t6_2 => (riddleref01_Or k a0 a1).bind fun t6_4 => (riddleref01_Exact k t6_2 t6_4).bind fun t6_6 => ((if t6_6 = true then (bits_And k a0 a1).bind fun t6_8 => (riddleref01_And k a0 a1).bind fun t6_10 => (riddleref01_Exact k t6_8 t6_10).bind fun t6_12 => (if t6_12 = true then (bits_Not k a0 a1).bind fun t6_14 => (riddleref01_Not k a0 a1).bind fun t6_16 => (riddleref01_Exact k t6_14 t6_16).bind fun t6_18 => (if t6_18 = true then (bits_Meet k a0 a1).bind fun t6_20 => (if (t6_20 == (decide ((t5_4.length : Int) > 0))) = true then (bits_Same k a0 a1).bind fun t6_22 => (riddleref01_Same k a0 a1).bind fun t6_24 => (if (t6_22 == t6_24) = true then (bits_Same k a0 a0).bind fun t6_26 => some t6_26 else some false) else some false) else some false) else some false) else some false) : Option (Bool)).bind fun v6 => some v6)
theorem riddlelaw01_BitsTwo_ok {k : Nat} {a0 : api_Bits} {a1 : api_Bits} {r : Bool} (h : riddlelaw01_BitsTwo k a0 a1 = some r) : Ans Tryd.prog 5 [.agg [.s (.int .i64 a0.N), slV (eI .u64) a0.Words], .agg [.s (.int .i64 a1.N), slV (eI .u64) a1.Words]] (.s (.bool r)) := by
  refine W_fn Tryd.func5 rfl (by kernel_rfl) (by kernel_rfl) ?_
  intro X hro hn
  unfold riddlelaw01_BitsTwo at h
  refine WX.seq ?_
  refine WC.reg (n := 60) (by assumption) [] [2, 3] [2, 3] ⟨[(2, .ptr 2 0), (3, .ptr 3 0)], [(2, .box 27 [.p (.s (.int .i64 a0.N)), .p (slV (eI .u64) a0.Words)]), (3, .box 27 [.p (.s (.int .i64 a1.N)), .p (slV (eI .u64) a1.Words)])], ⟨[], false⟩, []⟩ trivial (by kernel_rfl) ?_
  refine WX.seq ?_
  refine WX.seq ?_
  obtain ⟨t2_2, h2_1, h⟩ := bind_some h
  refine WC.reg (n := 60) (by assumption) [(0, .resP (.s (.bool t2_2)))] [2, 3, 7] [2, 3] ⟨[(2, .ptr 2 0), (3, .ptr 3 0), (7, .p (.s (.bool ((!t2_2)))))], [(2, .box 27 [.p (.s (.int .i64 a0.N)), .p (slV (eI .u64) a0.Words)]), (3, .box 27 [.p (.s (.int .i64 a1.N)), .p (slV (eI .u64) a1.Words)])], ⟨[], false⟩, []⟩ (And.intro ((riddlelaw01_live_ok h2_1)) (trivial)) (by kernel_rfl) ?_
  rcases if_or h with ⟨c3, h⟩ | ⟨c3, h⟩
  · refine WC.condT c3 (by kernel_rfl) ?_
    refine WX.seq ?_
    refine WC.reg (n := 60) (by assumption) [] [4] [] ⟨[(4, .p (.s (.bool false)))], [], ⟨[], false⟩, []⟩ trivial (by kernel_rfl) ?_
    refine WX.ret ?_
    exact WC.outP (by rw [← Option.some.inj h]; kernel_rfl)
  · refine WC.condF c3 (by kernel_rfl) ?_
    refine WX.skip ?_
    refine WX.seq ?_
    obtain ⟨t5_2, h5_1, h⟩ := bind_some h
    obtain ⟨t5_4, h5_3, h⟩ := bind_some h
    refine WC.reg (n := 60) (by assumption) [(2, .co [] [] [] [(10, rowV 51 (eI .u64) t5_2.Words)] (.agg [.p (.s (.int .i64 t5_2.N)), .own 10])), (3, .co [] [] [10] [(11, rowV 3 (eI .i64) t5_4)] (.own 11))] [2, 3, 5] [2, 3] ⟨[(2, .ptr 2 0), (3, .ptr 3 0), (5, .p (.s (.bool ((decide ((t5_4.length : Int) > 0))))))], [(2, .box 27 [.p (.s (.int .i64 a0.N)), .p (slV (eI .u64) a0.Words)]), (3, .box 27 [.p (.s (.int .i64 a1.N)), .p (slV (eI .u64) a1.Words)])], ⟨[], false⟩, []⟩ (And.intro (And.intro ((riddleref01_And_ok h5_1).ren 7 10 (by kernel_rfl)) (trivial)) (And.intro (And.intro ((riddleref01_List_ok h5_3).ren 18 11 (by kernel_rfl)) (And.intro (rfl : (.own 11 : AV).flat = true) (And.intro (flats_encL (eI .i64) (fun _ => rfl) t5_4) (trivial)))) (trivial))) (by kernel_rfl) ?_
    refine WX.seq ?_
    obtain ⟨t6_2, h6_1, h⟩ := bind_some h
    obtain ⟨t6_4, h6_3, h⟩ := bind_some h
    obtain ⟨t6_6, h6_5, h⟩ := bind_some h
    obtain ⟨m6_1, g6, h⟩ := bind_some h
    refine WC.via (α := Bool) (fun v6 => ⟨[(4, .p (.s (.bool v6)))], [], ⟨[], false⟩, []⟩) m6_1 (fun hk => ?_) ?_
    · rcases if_or g6 with ⟨b6_7, g6⟩ | ⟨b6_7, g6⟩
      · obtain ⟨t6_8, h6_7, g6⟩ := bind_some g6
        obtain ⟨t6_10, h6_9, g6⟩ := bind_some g6
        obtain ⟨t6_12, h6_11, g6⟩ := bind_some g6
        rcases if_or g6 with ⟨b6_16, g6⟩ | ⟨b6_16, g6⟩
        · obtain ⟨t6_14, h6_13, g6⟩ := bind_some g6
          obtain ⟨t6_16, h6_15, g6⟩ := bind_some g6
          obtain ⟨t6_18, h6_17, g6⟩ := bind_some g6
          rcases if_or g6 with ⟨b6_25, g6⟩ | ⟨b6_25, g6⟩
          · obtain ⟨t6_20, h6_19, g6⟩ := bind_some g6
            rcases if_or g6 with ⟨b6_32, g6⟩ | ⟨b6_32, g6⟩
            · obtain ⟨t6_22, h6_21, g6⟩ := bind_some g6
              obtain ⟨t6_24, h6_23, g6⟩ := bind_some g6
              rcases if_or g6 with ⟨b6_41, g6⟩ | ⟨b6_41, g6⟩
              · obtain ⟨t6_26, h6_25, g6⟩ := bind_some g6
                exact WC.drw (n := 60) (by assumption) [] [] [(2, .resP (.agg [.s (.int .i64 t6_2.N), slV (eI .u64) t6_2.Words])), (5, .resP (.agg [.s (.int .i64 t6_4.N), slV (eI .u64) t6_4.Words])), (6, .resP (.s (.bool t6_6))), (7, .val (.p (.s (.bool true)))), (10, .resP (.agg [.s (.int .i64 t6_8.N), slV (eI .u64) t6_8.Words])), (13, .resP (.agg [.s (.int .i64 t6_10.N), slV (eI .u64) t6_10.Words])), (14, .resP (.s (.bool t6_12))), (16, .val (.p (.s (.bool true)))), (19, .resP (.agg [.s (.int .i64 t6_14.N), slV (eI .u64) t6_14.Words])), (22, .resP (.agg [.s (.int .i64 t6_16.N), slV (eI .u64) t6_16.Words])), (23, .resP (.s (.bool t6_18))), (25, .val (.p (.s (.bool true)))), (28, .resP (.s (.bool t6_20))), (32, .val (.p (.s (.bool true)))), (35, .resP (.s (.bool t6_22))), (38, .resP (.s (.bool t6_24))), (41, .val (.p (.s (.bool true)))), (44, .resP (.s (.bool t6_26)))] [4] [] ⟨[(4, .p (.s (.bool t6_26)))], [], ⟨[], false⟩, []⟩ (And.intro ((bits_Or_okP h6_1)) (And.intro ((riddleref01_Or_okP h6_3)) (And.intro ((riddleref01_Exact_ok h6_5)) (And.intro (Bl b6_7) (And.intro ((bits_And_okP h6_7)) (And.intro ((riddleref01_And_okP h6_9)) (And.intro ((riddleref01_Exact_ok h6_11)) (And.intro (Bl b6_16) (And.intro ((bits_Not_okP h6_13)) (And.intro ((riddleref01_Not_okP h6_15)) (And.intro ((riddleref01_Exact_ok h6_17)) (And.intro (Bl b6_25) (And.intro ((bits_Meet_ok h6_19)) (And.intro (Bl b6_32) (And.intro ((bits_Same_ok h6_21)) (And.intro ((riddleref01_Same_ok h6_23)) (And.intro (Bl b6_41) (And.intro ((bits_Same_ok h6_25)) (trivial))))))))))))))))))) (by kernel_rfl) (by kernel_rfl) (by kernel_rfl) (by kernel_rfl) (hk t6_26 (Option.some.inj g6))
              · exact WC.drw (n := 60) (by assumption) [] [] [(2, .resP (.agg [.s (.int .i64 t6_2.N), slV (eI .u64) t6_2.Words])), (5, .resP (.agg [.s (.int .i64 t6_4.N), slV (eI .u64) t6_4.Words])), (6, .resP (.s (.bool t6_6))), (7, .val (.p (.s (.bool true)))), (10, .resP (.agg [.s (.int .i64 t6_8.N), slV (eI .u64) t6_8.Words])), (13, .resP (.agg [.s (.int .i64 t6_10.N), slV (eI .u64) t6_10.Words])), (14, .resP (.s (.bool t6_12))), (16, .val (.p (.s (.bool true)))), (19, .resP (.agg [.s (.int .i64 t6_14.N), slV (eI .u64) t6_14.Words])), (22, .resP (.agg [.s (.int .i64 t6_16.N), slV (eI .u64) t6_16.Words])), (23, .resP (.s (.bool t6_18))), (25, .val (.p (.s (.bool true)))), (28, .resP (.s (.bool t6_20))), (32, .val (.p (.s (.bool true)))), (35, .resP (.s (.bool t6_22))), (38, .resP (.s (.bool t6_24))), (41, .val (.p (.s (.bool false))))] [4] [] ⟨[(4, .p (.s (.bool false)))], [], ⟨[], false⟩, []⟩ (And.intro ((bits_Or_okP h6_1)) (And.intro ((riddleref01_Or_okP h6_3)) (And.intro ((riddleref01_Exact_ok h6_5)) (And.intro (Bl b6_7) (And.intro ((bits_And_okP h6_7)) (And.intro ((riddleref01_And_okP h6_9)) (And.intro ((riddleref01_Exact_ok h6_11)) (And.intro (Bl b6_16) (And.intro ((bits_Not_okP h6_13)) (And.intro ((riddleref01_Not_okP h6_15)) (And.intro ((riddleref01_Exact_ok h6_17)) (And.intro (Bl b6_25) (And.intro ((bits_Meet_ok h6_19)) (And.intro (Bl b6_32) (And.intro ((bits_Same_ok h6_21)) (And.intro ((riddleref01_Same_ok h6_23)) (And.intro (Bl b6_41) (trivial)))))))))))))))))) (by kernel_rfl) (by kernel_rfl) (by kernel_rfl) (by kernel_rfl) (hk false (Option.some.inj g6))
            · exact WC.drw (n := 60) (by assumption) [] [] [(2, .resP (.agg [.s (.int .i64 t6_2.N), slV (eI .u64) t6_2.Words])), (5, .resP (.agg [.s (.int .i64 t6_4.N), slV (eI .u64) t6_4.Words])), (6, .resP (.s (.bool t6_6))), (7, .val (.p (.s (.bool true)))), (10, .resP (.agg [.s (.int .i64 t6_8.N), slV (eI .u64) t6_8.Words])), (13, .resP (.agg [.s (.int .i64 t6_10.N), slV (eI .u64) t6_10.Words])), (14, .resP (.s (.bool t6_12))), (16, .val (.p (.s (.bool true)))), (19, .resP (.agg [.s (.int .i64 t6_14.N), slV (eI .u64) t6_14.Words])), (22, .resP (.agg [.s (.int .i64 t6_16.N), slV (eI .u64) t6_16.Words])), (23, .resP (.s (.bool t6_18))), (25, .val (.p (.s (.bool true)))), (28, .resP (.s (.bool t6_20))), (32, .val (.p (.s (.bool false))))] [4] [] ⟨[(4, .p (.s (.bool false)))], [], ⟨[], false⟩, []⟩ (And.intro ((bits_Or_okP h6_1)) (And.intro ((riddleref01_Or_okP h6_3)) (And.intro ((riddleref01_Exact_ok h6_5)) (And.intro (Bl b6_7) (And.intro ((bits_And_okP h6_7)) (And.intro ((riddleref01_And_okP h6_9)) (And.intro ((riddleref01_Exact_ok h6_11)) (And.intro (Bl b6_16) (And.intro ((bits_Not_okP h6_13)) (And.intro ((riddleref01_Not_okP h6_15)) (And.intro ((riddleref01_Exact_ok h6_17)) (And.intro (Bl b6_25) (And.intro ((bits_Meet_ok h6_19)) (And.intro (Bl b6_32) (trivial))))))))))))))) (by kernel_rfl) (by kernel_rfl) (by kernel_rfl) (by kernel_rfl) (hk false (Option.some.inj g6))
          · exact WC.drw (n := 60) (by assumption) [] [] [(2, .resP (.agg [.s (.int .i64 t6_2.N), slV (eI .u64) t6_2.Words])), (5, .resP (.agg [.s (.int .i64 t6_4.N), slV (eI .u64) t6_4.Words])), (6, .resP (.s (.bool t6_6))), (7, .val (.p (.s (.bool true)))), (10, .resP (.agg [.s (.int .i64 t6_8.N), slV (eI .u64) t6_8.Words])), (13, .resP (.agg [.s (.int .i64 t6_10.N), slV (eI .u64) t6_10.Words])), (14, .resP (.s (.bool t6_12))), (16, .val (.p (.s (.bool true)))), (19, .resP (.agg [.s (.int .i64 t6_14.N), slV (eI .u64) t6_14.Words])), (22, .resP (.agg [.s (.int .i64 t6_16.N), slV (eI .u64) t6_16.Words])), (23, .resP (.s (.bool t6_18))), (25, .val (.p (.s (.bool false))))] [4] [] ⟨[(4, .p (.s (.bool false)))], [], ⟨[], false⟩, []⟩ (And.intro ((bits_Or_okP h6_1)) (And.intro ((riddleref01_Or_okP h6_3)) (And.intro ((riddleref01_Exact_ok h6_5)) (And.intro (Bl b6_7) (And.intro ((bits_And_okP h6_7)) (And.intro ((riddleref01_And_okP h6_9)) (And.intro ((riddleref01_Exact_ok h6_11)) (And.intro (Bl b6_16) (And.intro ((bits_Not_okP h6_13)) (And.intro ((riddleref01_Not_okP h6_15)) (And.intro ((riddleref01_Exact_ok h6_17)) (And.intro (Bl b6_25) (trivial))))))))))))) (by kernel_rfl) (by kernel_rfl) (by kernel_rfl) (by kernel_rfl) (hk false (Option.some.inj g6))
        · exact WC.drw (n := 60) (by assumption) [] [] [(2, .resP (.agg [.s (.int .i64 t6_2.N), slV (eI .u64) t6_2.Words])), (5, .resP (.agg [.s (.int .i64 t6_4.N), slV (eI .u64) t6_4.Words])), (6, .resP (.s (.bool t6_6))), (7, .val (.p (.s (.bool true)))), (10, .resP (.agg [.s (.int .i64 t6_8.N), slV (eI .u64) t6_8.Words])), (13, .resP (.agg [.s (.int .i64 t6_10.N), slV (eI .u64) t6_10.Words])), (14, .resP (.s (.bool t6_12))), (16, .val (.p (.s (.bool false))))] [4] [] ⟨[(4, .p (.s (.bool false)))], [], ⟨[], false⟩, []⟩ (And.intro ((bits_Or_okP h6_1)) (And.intro ((riddleref01_Or_okP h6_3)) (And.intro ((riddleref01_Exact_ok h6_5)) (And.intro (Bl b6_7) (And.intro ((bits_And_okP h6_7)) (And.intro ((riddleref01_And_okP h6_9)) (And.intro ((riddleref01_Exact_ok h6_11)) (And.intro (Bl b6_16) (trivial))))))))) (by kernel_rfl) (by kernel_rfl) (by kernel_rfl) (by kernel_rfl) (hk false (Option.some.inj g6))
      · exact WC.drw (n := 60) (by assumption) [] [] [(2, .resP (.agg [.s (.int .i64 t6_2.N), slV (eI .u64) t6_2.Words])), (5, .resP (.agg [.s (.int .i64 t6_4.N), slV (eI .u64) t6_4.Words])), (6, .resP (.s (.bool t6_6))), (7, .val (.p (.s (.bool false))))] [4] [] ⟨[(4, .p (.s (.bool false)))], [], ⟨[], false⟩, []⟩ (And.intro ((bits_Or_okP h6_1)) (And.intro ((riddleref01_Or_okP h6_3)) (And.intro ((riddleref01_Exact_ok h6_5)) (And.intro (Bl b6_7) (trivial))))) (by kernel_rfl) (by kernel_rfl) (by kernel_rfl) (by kernel_rfl) (hk false (Option.some.inj g6))
    refine WX.ret ?_
    exact WC.outP (by rw [← Option.some.inj h]; kernel_rfl)
def riddlelaw01_sized (k : Nat) (a0 : Int) (a1 : (List Int)) (a2 : (List Int)) (a3 : (List Int)) : Option (api_Bits × api_Bits × api_Bits) :=
  (bits_New k ((IntKind.i64.wrap a0)) a1).bind fun t2_2 => (bits_New k ((IntKind.i64.wrap a0)) a2).bind fun t3_2 => (bits_New k ((IntKind.i64.wrap a0)) a3).bind fun t4_2 => some (t2_2.1, t3_2.1, t4_2.1)
theorem riddlelaw01_sized_ok {k : Nat} {a0 : Int} {a1 : (List Int)} {a2 : (List Int)} {a3 : (List Int)} {r : api_Bits × api_Bits × api_Bits} (h : riddlelaw01_sized k a0 a1 a2 a3 = some r) : AnsO Tryd.prog 35 [] [.p (.s (.int .u8 a0)), .p (slV (eI .i64) a1), .p (slV (eI .i64) a2), .p (slV (eI .i64) a3)] [(21, rowV 51 (eI .u64) r.1.Words), (28, rowV 51 (eI .u64) r.2.1.Words), (35, rowV 51 (eI .u64) r.2.2.Words)] (.tup [.agg [.p (.s (.int .i64 r.1.N)), .own 21], .agg [.p (.s (.int .i64 r.2.1.N)), .own 28], .agg [.p (.s (.int .i64 r.2.2.N)), .own 35]]) := by
  refine W_fnO [21, 28, 35] Tryd.func35 rfl (by kernel_rfl) (by kernel_rfl) (by kernel_rfl) (by kernel_rfl) ?_
  intro X hro hn
  unfold riddlelaw01_sized at h
  refine WX.seq ?_
  refine WC.reg (n := 41) (by assumption) [] [0, 1, 2, 3, 8, 9, 10] [8, 9, 10] ⟨[(0, .p (.s (.int .u8 a0))), (1, .p (slV (eI .i64) a1)), (2, .p (slV (eI .i64) a2)), (3, .p (slV (eI .i64) a3)), (8, .ptr 8 0), (9, .ptr 9 0), (10, .ptr 10 0)], [(8, .box 27 [.p (.s (.int .i64 0)), .p (.sl .nil 0 [])]), (9, .box 27 [.p (.s (.int .i64 0)), .p (.sl .nil 0 [])]), (10, .box 27 [.p (.s (.int .i64 0)), .p (.sl .nil 0 [])])], ⟨[], false⟩, []⟩ trivial (by kernel_rfl) ?_
  refine WX.seq ?_
  obtain ⟨t2_2, h2_1, h⟩ := bind_some h
  refine WC.reg (n := 41) (by assumption) [(3, .co [] [] [] [(21, rowV 51 (eI .u64) t2_2.1.Words)] (.tup [.agg [.p (.s (.int .i64 t2_2.1.N)), .own 21], .p (.s (.int .i64 t2_2.2))]))] [0, 2, 3, 8, 9, 10, 11] [8, 9, 10, 11, 21] ⟨[(0, .p (.s (.int .u8 a0))), (2, .p (slV (eI .i64) a2)), (3, .p (slV (eI .i64) a3)), (8, .ptr 8 0), (9, .ptr 9 0), (10, .ptr 10 0), (11, .ptr 11 0)], [(8, .box 27 [.p (.s (.int .i64 0)), .p (.sl .nil 0 [])]), (9, .box 27 [.p (.s (.int .i64 0)), .p (.sl .nil 0 [])]), (10, .box 27 [.p (.s (.int .i64 0)), .p (.sl .nil 0 [])]), (11, .box 27 [.p (.s (.int .i64 t2_2.1.N)), .own 21]), (21, rowV 51 (eI .u64) t2_2.1.Words)], ⟨[], false⟩, []⟩ (And.intro (And.intro ((bits_New_ok h2_1).ren 17 21 (by kernel_rfl)) (trivial)) (trivial)) (by kernel_rfl) ?_
  refine WX.seq ?_
  obtain ⟨t3_2, h3_1, h⟩ := bind_some h
  refine WC.reg (n := 41) (by assumption) [(3, .co [] [] [] [(28, rowV 51 (eI .u64) t3_2.1.Words)] (.tup [.agg [.p (.s (.int .i64 t3_2.1.N)), .own 28], .p (.s (.int .i64 t3_2.2))]))] [0, 3, 8, 9, 10, 11, 13] [8, 9, 10, 11, 13, 21, 28] ⟨[(0, .p (.s (.int .u8 a0))), (3, .p (slV (eI .i64) a3)), (8, .ptr 8 0), (9, .ptr 9 0), (10, .ptr 10 0), (11, .ptr 11 0), (13, .ptr 13 0)], [(8, .box 27 [.p (.s (.int .i64 0)), .p (.sl .nil 0 [])]), (9, .box 27 [.p (.s (.int .i64 0)), .p (.sl .nil 0 [])]), (10, .box 27 [.p (.s (.int .i64 0)), .p (.sl .nil 0 [])]), (11, .box 27 [.p (.s (.int .i64 t2_2.1.N)), .own 21]), (13, .box 27 [.p (.s (.int .i64 t3_2.1.N)), .own 28]), (21, rowV 51 (eI .u64) t2_2.1.Words), (28, rowV 51 (eI .u64) t3_2.1.Words)], ⟨[], false⟩, []⟩ (And.intro (And.intro ((bits_New_ok h3_1).ren 17 28 (by kernel_rfl)) (trivial)) (trivial)) (by kernel_rfl) ?_
  refine WX.seq ?_
  obtain ⟨t4_2, h4_1, h⟩ := bind_some h
  refine WC.reg (n := 41) (by assumption) [(3, .co [] [] [] [(35, rowV 51 (eI .u64) t4_2.1.Words)] (.tup [.agg [.p (.s (.int .i64 t4_2.1.N)), .own 35], .p (.s (.int .i64 t4_2.2))]))] [8, 9, 10, 11, 13, 15] [8, 9, 10, 11, 13, 15, 21, 28, 35] ⟨[(8, .ptr 8 0), (9, .ptr 9 0), (10, .ptr 10 0), (11, .ptr 11 0), (13, .ptr 13 0), (15, .ptr 15 0)], [(8, .box 27 [.p (.s (.int .i64 0)), .p (.sl .nil 0 [])]), (9, .box 27 [.p (.s (.int .i64 0)), .p (.sl .nil 0 [])]), (10, .box 27 [.p (.s (.int .i64 0)), .p (.sl .nil 0 [])]), (11, .box 27 [.p (.s (.int .i64 t2_2.1.N)), .own 21]), (13, .box 27 [.p (.s (.int .i64 t3_2.1.N)), .own 28]), (15, .box 27 [.p (.s (.int .i64 t4_2.1.N)), .own 35]), (21, rowV 51 (eI .u64) t2_2.1.Words), (28, rowV 51 (eI .u64) t3_2.1.Words), (35, rowV 51 (eI .u64) t4_2.1.Words)], ⟨[], false⟩, []⟩ (And.intro (And.intro ((bits_New_ok h4_1).ren 17 35 (by kernel_rfl)) (trivial)) (trivial)) (by kernel_rfl) ?_
  refine WX.seq ?_
  refine WC.drw (n := 41) (by assumption) [(3, [1, 2]), (4, [2]), (5, [])] [] [] [8, 9, 10] [8, 9, 10, 21, 28, 35] ⟨[(8, .ptr 8 0), (9, .ptr 9 0), (10, .ptr 10 0)], [(8, .box 27 [.p (.s (.int .i64 t2_2.1.N)), .own 21]), (9, .box 27 [.p (.s (.int .i64 t3_2.1.N)), .own 28]), (10, .box 27 [.p (.s (.int .i64 t4_2.1.N)), .own 35]), (21, rowV 51 (eI .u64) t2_2.1.Words), (28, rowV 51 (eI .u64) t3_2.1.Words), (35, rowV 51 (eI .u64) t4_2.1.Words)], ⟨[], false⟩, []⟩ (And.intro (And.intro (Eq.refl (some (.agg [.p (.s (.int .i64 t3_2.1.N)), .own 28] : AV))) (And.intro (Eq.refl (some (.agg [.p (.s (.int .i64 t4_2.1.N)), .own 35] : AV))) (trivial))) (And.intro (And.intro (Eq.refl (some (.agg [.p (.s (.int .i64 t4_2.1.N)), .own 35] : AV))) (trivial)) (trivial))) (by kernel_rfl) (by kernel_rfl) (by kernel_rfl) (by kernel_rfl) ?_
  refine WX.ret ?_
  exact WC.outO (by rw [← Option.some.inj h]; kernel_rfl)
theorem riddlelaw01_sized_okP {k : Nat} {a0 : Int} {a1 : (List Int)} {a2 : (List Int)} {a3 : (List Int)} {r : api_Bits × api_Bits × api_Bits} (h : riddlelaw01_sized k a0 a1 a2 a3 = some r) : Ans Tryd.prog 35 [.s (.int .u8 a0), slV (eI .i64) a1, slV (eI .i64) a2, slV (eI .i64) a3] (.tup [.agg [.s (.int .i64 r.1.N), slV (eI .u64) r.1.Words], .agg [.s (.int .i64 r.2.1.N), slV (eI .u64) r.2.1.Words], .agg [.s (.int .i64 r.2.2.N), slV (eI .u64) r.2.2.Words]]) := AnsO.ans (args := [.s (.int .u8 a0), slV (eI .i64) a1, slV (eI .i64) a2, slV (eI .i64) a3]) (riddlelaw01_sized_ok h) (by kernel_rfl)
def riddlelaw01_BitsLaws (k : Nat) (a0 : riddlelaw01_Three) : Option (Bool) :=
  (riddlelaw01_live k).bind fun t2_2 => (if (!t2_2) = true then some false else (riddlelaw01_sized k a0.N a0.A a0.B a0.C).bind fun t5_2 => (bits_Or k t5_2.1 t5_2.2.1).bind fun t8_2 => (bits_Or k t5_2.2.1 t5_2.1).bind fun t8_4 => (bits_Same k t8_2 t8_4).bind fun t8_6 => ((if (!t8_6) = true then some true else (bits_And k t5_2.1 t5_2.2.1).bind fun t8_8 => (bits_And k t5_2.2.1 t5_2.1).bind fun t8_10 => (bits_Same k t8_8 t8_10).bind fun t8_12 => some ((!t8_12))) : Option (Bool)).bind fun v8 => (if v8 = true then some false else (bits_Or k t5_2.2.1 t5_2.2.2).bind fun t12_2 => (bits_Or k t5_2.1 t12_2).bind fun t12_4 => (bits_Or k t5_2.1 t5_2.2.1).bind fun t12_6 => (bits_Or k t12_6 t5_2.2.2).bind fun t12_8 => (bits_Same k t12_4 t12_8).bind fun t12_10 => ((if (!t12_10) = true then some true else (bits_And k t5_2.2.1 t5_2.2.2).bind fun t12_12 => (bits_And k t5_2.1 t12_12).bind fun t12_14 => (bits_And k t5_2.1 t5_2.2.1).bind fun t12_16 => (bits_And k t12_16 t5_2.2.2).bind fun t12_18 => (bits_Same k t12_14 t12_18).bind fun t12_20 => some ((!t12_20))) : Option (Bool)).bind fun v12 => (if v12 = true then some false else (bits_Or k t5_2.2.1 t5_2.2.2).bind fun t15_2 => (bits_And k t5_2.1 t15_2).bind fun t15_4 => (bits_And k t5_2.1 t5_2.2.1).bind fun t15_6 => (bits_And k t5_2.1 t5_2.2.2).bind fun t15_8 => (bits_Or k t15_6 t15_8).bind fun t15_10 => (bits_Same k t15_4 t15_10).bind fun t15_12 => (if (!t15_12) = true then some false else (bits_Not k t5_2.1 t5_2.2.1).bind fun t18_2 => (bits_And k t5_2.1 t5_2.2.1).bind fun t18_4 => (bits_Or k t18_2 t18_4).bind fun t18_6 => (bits_Same k t18_6 t5_2.1).bind fun t18_8 => ((if t18_8 = true then (bits_Not k t5_2.1 t5_2.2.1).bind fun t18_10 => (bits_Meet k t18_10 t5_2.2.1).bind fun t18_12 => some ((!t18_12)) else some false) : Option (Bool)).bind fun v18 => some v18))))
theorem riddlelaw01_BitsLaws_ok {k : Nat} {a0 : riddlelaw01_Three} {r : Bool} (h : riddlelaw01_BitsLaws k a0 = some r) : Ans Tryd.prog 6 [.agg [.s (.int .u8 a0.N), slV (eI .i64) a0.A, slV (eI .i64) a0.B, slV (eI .i64) a0.C]] (.s (.bool r)) := by
  refine W_fn Tryd.func6 rfl (by kernel_rfl) (by kernel_rfl) ?_
  intro X hro hn
  unfold riddlelaw01_BitsLaws at h
  refine WX.seq ?_
  refine WC.reg (n := 96) (by assumption) [] [1] [1] ⟨[(1, .ptr 1 0)], [(1, .box 46 [.p (.s (.int .u8 a0.N)), .p (slV (eI .i64) a0.A), .p (slV (eI .i64) a0.B), .p (slV (eI .i64) a0.C)])], ⟨[], false⟩, []⟩ trivial (by kernel_rfl) ?_
  refine WX.seq ?_
  refine WX.seq ?_
  obtain ⟨t2_2, h2_1, h⟩ := bind_some h
  refine WC.reg (n := 96) (by assumption) [(0, .resP (.s (.bool t2_2)))] [1, 7] [1] ⟨[(1, .ptr 1 0), (7, .p (.s (.bool ((!t2_2)))))], [(1, .box 46 [.p (.s (.int .u8 a0.N)), .p (slV (eI .i64) a0.A), .p (slV (eI .i64) a0.B), .p (slV (eI .i64) a0.C)])], ⟨[], false⟩, []⟩ (And.intro ((riddlelaw01_live_ok h2_1)) (trivial)) (by kernel_rfl) ?_
  rcases if_or h with ⟨c3, h⟩ | ⟨c3, h⟩
  · refine WC.condT c3 (by kernel_rfl) ?_
    refine WX.seq ?_
    refine WC.reg (n := 96) (by assumption) [] [2] [] ⟨[(2, .p (.s (.bool false)))], [], ⟨[], false⟩, []⟩ trivial (by kernel_rfl) ?_
    refine WX.ret ?_
    exact WC.outP (by rw [← Option.some.inj h]; kernel_rfl)
  · refine WC.condF c3 (by kernel_rfl) ?_
    refine WX.skip ?_
    refine WX.seq ?_
    obtain ⟨t5_2, h5_1, h⟩ := bind_some h
    refine WC.reg (n := 96) (by assumption) [(8, .co [] [] [] [(17, rowV 51 (eI .u64) t5_2.1.Words), (95, rowV 51 (eI .u64) t5_2.2.1.Words), (94, rowV 51 (eI .u64) t5_2.2.2.Words)] (.tup [.agg [.p (.s (.int .i64 t5_2.1.N)), .own 17], .agg [.p (.s (.int .i64 t5_2.2.1.N)), .own 95], .agg [.p (.s (.int .i64 t5_2.2.2.N)), .own 94]]))] [3, 4, 5] [3, 4, 5, 17, 94, 95] ⟨[(3, .ptr 3 0), (4, .ptr 4 0), (5, .ptr 5 0)], [(3, .box 27 [.p (.s (.int .i64 t5_2.1.N)), .own 17]), (4, .box 27 [.p (.s (.int .i64 t5_2.2.1.N)), .own 95]), (5, .box 27 [.p (.s (.int .i64 t5_2.2.2.N)), .own 94]), (17, rowV 51 (eI .u64) t5_2.1.Words), (94, rowV 51 (eI .u64) t5_2.2.2.Words), (95, rowV 51 (eI .u64) t5_2.2.1.Words)], ⟨[], false⟩, []⟩ (And.intro (And.intro ((((riddlelaw01_sized_ok h5_1).ren 21 17 (by kernel_rfl)).ren 28 95 (by kernel_rfl)).ren 35 94 (by kernel_rfl)) (trivial)) (trivial)) (by kernel_rfl) ?_
    refine WX.seq ?_
    refine WX.seq ?_
    refine WC.frz 17 (st' := ⟨[(3, .ptr 3 0), (4, .ptr 4 0), (5, .ptr 5 0)], [(3, .box 27 [.p (.s (.int .i64 t5_2.1.N)), .p (slV (eI .u64) t5_2.1.Words)]), (4, .box 27 [.p (.s (.int .i64 t5_2.2.1.N)), .own 95]), (5, .box 27 [.p (.s (.int .i64 t5_2.2.2.N)), .own 94]), (94, rowV 51 (eI .u64) t5_2.2.2.Words), (95, rowV 51 (eI .u64) t5_2.2.1.Words)], ⟨[], false⟩, []⟩) (by kernel_rfl) ?_
    refine WC.frz 95 (st' := ⟨[(3, .ptr 3 0), (4, .ptr 4 0), (5, .ptr 5 0)], [(3, .box 27 [.p (.s (.int .i64 t5_2.1.N)), .p (slV (eI .u64) t5_2.1.Words)]), (4, .box 27 [.p (.s (.int .i64 t5_2.2.1.N)), .p (slV (eI .u64) t5_2.2.1.Words)]), (5, .box 27 [.p (.s (.int .i64 t5_2.2.2.N)), .own 94]), (94, rowV 51 (eI .u64) t5_2.2.2.Words)], ⟨[], false⟩, []⟩) (by kernel_rfl) ?_
    obtain ⟨t8_2, h8_1, h⟩ := bind_some h
    obtain ⟨t8_4, h8_3, h⟩ := bind_some h
    obtain ⟨t8_6, h8_5, h⟩ := bind_some h
    obtain ⟨m8_1, g8, h⟩ := bind_some h
    refine WC.via (α := Bool) (fun v8 => ⟨[(3, .ptr 3 0), (4, .ptr 4 0), (5, .ptr 5 0), (38, .p (.s (.bool v8)))], [(3, .box 27 [.p (.s (.int .i64 t5_2.1.N)), .p (slV (eI .u64) t5_2.1.Words)]), (4, .box 27 [.p (.s (.int .i64 t5_2.2.1.N)), .p (slV (eI .u64) t5_2.2.1.Words)]), (5, .box 27 [.p (.s (.int .i64 t5_2.2.2.N)), .own 94]), (94, rowV 51 (eI .u64) t5_2.2.2.Words)], ⟨[], false⟩, []⟩) m8_1 (fun hk => ?_) ?_
    · rcases if_or g8 with ⟨b8_8, g8⟩ | ⟨b8_8, g8⟩
      · exact WC.drw (n := 96) (by assumption) [] [] [(2, .resP (.agg [.s (.int .i64 t8_2.N), slV (eI .u64) t8_2.Words])), (5, .resP (.agg [.s (.int .i64 t8_4.N), slV (eI .u64) t8_4.Words])), (6, .resP (.s (.bool t8_6))), (8, .val (.p (.s (.bool true))))] [3, 4, 5, 38] [3, 4, 5, 94] ⟨[(3, .ptr 3 0), (4, .ptr 4 0), (5, .ptr 5 0), (38, .p (.s (.bool true)))], [(3, .box 27 [.p (.s (.int .i64 t5_2.1.N)), .p (slV (eI .u64) t5_2.1.Words)]), (4, .box 27 [.p (.s (.int .i64 t5_2.2.1.N)), .p (slV (eI .u64) t5_2.2.1.Words)]), (5, .box 27 [.p (.s (.int .i64 t5_2.2.2.N)), .own 94]), (94, rowV 51 (eI .u64) t5_2.2.2.Words)], ⟨[], false⟩, []⟩ (And.intro ((bits_Or_okP h8_1)) (And.intro ((bits_Or_okP h8_3)) (And.intro ((bits_Same_ok h8_5)) (And.intro (Bl b8_8) (trivial))))) (by kernel_rfl) (by kernel_rfl) (by kernel_rfl) (by kernel_rfl) (hk true (Option.some.inj g8))
      · obtain ⟨t8_8, h8_7, g8⟩ := bind_some g8
        obtain ⟨t8_10, h8_9, g8⟩ := bind_some g8
        obtain ⟨t8_12, h8_11, g8⟩ := bind_some g8
        exact WC.drw (n := 96) (by assumption) [] [] [(2, .resP (.agg [.s (.int .i64 t8_2.N), slV (eI .u64) t8_2.Words])), (5, .resP (.agg [.s (.int .i64 t8_4.N), slV (eI .u64) t8_4.Words])), (6, .resP (.s (.bool t8_6))), (8, .val (.p (.s (.bool false)))), (11, .resP (.agg [.s (.int .i64 t8_8.N), slV (eI .u64) t8_8.Words])), (14, .resP (.agg [.s (.int .i64 t8_10.N), slV (eI .u64) t8_10.Words])), (15, .resP (.s (.bool t8_12)))] [3, 4, 5, 38] [3, 4, 5, 94] ⟨[(3, .ptr 3 0), (4, .ptr 4 0), (5, .ptr 5 0), (38, .p (.s (.bool ((!t8_12)))))], [(3, .box 27 [.p (.s (.int .i64 t5_2.1.N)), .p (slV (eI .u64) t5_2.1.Words)]), (4, .box 27 [.p (.s (.int .i64 t5_2.2.1.N)), .p (slV (eI .u64) t5_2.2.1.Words)]), (5, .box 27 [.p (.s (.int .i64 t5_2.2.2.N)), .own 94]), (94, rowV 51 (eI .u64) t5_2.2.2.Words)], ⟨[], false⟩, []⟩ (And.intro ((bits_Or_okP h8_1)) (And.intro ((bits_Or_okP h8_3)) (And.intro ((bits_Same_ok h8_5)) (And.intro (Bl b8_8) (And.intro ((bits_And_okP h8_7)) (And.intro ((bits_And_okP h8_9)) (And.intro ((bits_Same_ok h8_11)) (trivial)))))))) (by kernel_rfl) (by kernel_rfl) (by kernel_rfl) (by kernel_rfl) (hk ((!t8_12)) (Option.some.inj g8))
    rcases if_or h with ⟨c9, h⟩ | ⟨c9, h⟩
    · refine WC.condT c9 (by kernel_rfl) ?_
      refine WX.seq ?_
      refine WC.reg (n := 96) (by assumption) [] [2] [] ⟨[(2, .p (.s (.bool false)))], [], ⟨[], false⟩, []⟩ trivial (by kernel_rfl) ?_
      refine WX.ret ?_
      exact WC.outP (by rw [← Option.some.inj h]; kernel_rfl)
    · refine WC.condF c9 (by kernel_rfl) ?_
      refine WX.skip ?_
      refine WX.seq ?_
      refine WX.seq ?_
      refine WC.frz 94 (st' := ⟨[(3, .ptr 3 0), (4, .ptr 4 0), (5, .ptr 5 0), (38, .p (.s (.bool m8_1)))], [(3, .box 27 [.p (.s (.int .i64 t5_2.1.N)), .p (slV (eI .u64) t5_2.1.Words)]), (4, .box 27 [.p (.s (.int .i64 t5_2.2.1.N)), .p (slV (eI .u64) t5_2.2.1.Words)]), (5, .box 27 [.p (.s (.int .i64 t5_2.2.2.N)), .p (slV (eI .u64) t5_2.2.2.Words)])], ⟨[], false⟩, []⟩) (by kernel_rfl) ?_
      obtain ⟨t12_2, h12_1, h⟩ := bind_some h
      obtain ⟨t12_4, h12_3, h⟩ := bind_some h
      obtain ⟨t12_6, h12_5, h⟩ := bind_some h
      obtain ⟨t12_8, h12_7, h⟩ := bind_some h
      obtain ⟨t12_10, h12_9, h⟩ := bind_some h
      obtain ⟨m12_1, g12, h⟩ := bind_some h
      refine WC.via (α := Bool) (fun v12 => ⟨[(3, .ptr 3 0), (4, .ptr 4 0), (5, .ptr 5 0), (64, .p (.s (.bool v12)))], [(3, .box 27 [.p (.s (.int .i64 t5_2.1.N)), .p (slV (eI .u64) t5_2.1.Words)]), (4, .box 27 [.p (.s (.int .i64 t5_2.2.1.N)), .p (slV (eI .u64) t5_2.2.1.Words)]), (5, .box 27 [.p (.s (.int .i64 t5_2.2.2.N)), .p (slV (eI .u64) t5_2.2.2.Words)])], ⟨[], false⟩, []⟩) m12_1 (fun hk => ?_) ?_
      · rcases if_or g12 with ⟨b12_12, g12⟩ | ⟨b12_12, g12⟩
        · exact WC.drw (n := 96) (by assumption) [] [] [(3, .resP (.agg [.s (.int .i64 t12_2.N), slV (eI .u64) t12_2.Words])), (4, .resP (.agg [.s (.int .i64 t12_4.N), slV (eI .u64) t12_4.Words])), (7, .resP (.agg [.s (.int .i64 t12_6.N), slV (eI .u64) t12_6.Words])), (9, .resP (.agg [.s (.int .i64 t12_8.N), slV (eI .u64) t12_8.Words])), (10, .resP (.s (.bool t12_10))), (12, .val (.p (.s (.bool true))))] [3, 4, 5, 64] [3, 4, 5] ⟨[(3, .ptr 3 0), (4, .ptr 4 0), (5, .ptr 5 0), (64, .p (.s (.bool true)))], [(3, .box 27 [.p (.s (.int .i64 t5_2.1.N)), .p (slV (eI .u64) t5_2.1.Words)]), (4, .box 27 [.p (.s (.int .i64 t5_2.2.1.N)), .p (slV (eI .u64) t5_2.2.1.Words)]), (5, .box 27 [.p (.s (.int .i64 t5_2.2.2.N)), .p (slV (eI .u64) t5_2.2.2.Words)])], ⟨[], false⟩, []⟩ (And.intro ((bits_Or_okP h12_1)) (And.intro ((bits_Or_okP h12_3)) (And.intro ((bits_Or_okP h12_5)) (And.intro ((bits_Or_okP h12_7)) (And.intro ((bits_Same_ok h12_9)) (And.intro (Bl b12_12) (trivial))))))) (by kernel_rfl) (by kernel_rfl) (by kernel_rfl) (by kernel_rfl) (hk true (Option.some.inj g12))
        · obtain ⟨t12_12, h12_11, g12⟩ := bind_some g12
          obtain ⟨t12_14, h12_13, g12⟩ := bind_some g12
          obtain ⟨t12_16, h12_15, g12⟩ := bind_some g12
          obtain ⟨t12_18, h12_17, g12⟩ := bind_some g12
          obtain ⟨t12_20, h12_19, g12⟩ := bind_some g12
          exact WC.drw (n := 96) (by assumption) [] [] [(3, .resP (.agg [.s (.int .i64 t12_2.N), slV (eI .u64) t12_2.Words])), (4, .resP (.agg [.s (.int .i64 t12_4.N), slV (eI .u64) t12_4.Words])), (7, .resP (.agg [.s (.int .i64 t12_6.N), slV (eI .u64) t12_6.Words])), (9, .resP (.agg [.s (.int .i64 t12_8.N), slV (eI .u64) t12_8.Words])), (10, .resP (.s (.bool t12_10))), (12, .val (.p (.s (.bool false)))), (16, .resP (.agg [.s (.int .i64 t12_12.N), slV (eI .u64) t12_12.Words])), (17, .resP (.agg [.s (.int .i64 t12_14.N), slV (eI .u64) t12_14.Words])), (20, .resP (.agg [.s (.int .i64 t12_16.N), slV (eI .u64) t12_16.Words])), (22, .resP (.agg [.s (.int .i64 t12_18.N), slV (eI .u64) t12_18.Words])), (23, .resP (.s (.bool t12_20)))] [3, 4, 5, 64] [3, 4, 5] ⟨[(3, .ptr 3 0), (4, .ptr 4 0), (5, .ptr 5 0), (64, .p (.s (.bool ((!t12_20)))))], [(3, .box 27 [.p (.s (.int .i64 t5_2.1.N)), .p (slV (eI .u64) t5_2.1.Words)]), (4, .box 27 [.p (.s (.int .i64 t5_2.2.1.N)), .p (slV (eI .u64) t5_2.2.1.Words)]), (5, .box 27 [.p (.s (.int .i64 t5_2.2.2.N)), .p (slV (eI .u64) t5_2.2.2.Words)])], ⟨[], false⟩, []⟩ (And.intro ((bits_Or_okP h12_1)) (And.intro ((bits_Or_okP h12_3)) (And.intro ((bits_Or_okP h12_5)) (And.intro ((bits_Or_okP h12_7)) (And.intro ((bits_Same_ok h12_9)) (And.intro (Bl b12_12) (And.intro ((bits_And_okP h12_11)) (And.intro ((bits_And_okP h12_13)) (And.intro ((bits_And_okP h12_15)) (And.intro ((bits_And_okP h12_17)) (And.intro ((bits_Same_ok h12_19)) (trivial)))))))))))) (by kernel_rfl) (by kernel_rfl) (by kernel_rfl) (by kernel_rfl) (hk ((!t12_20)) (Option.some.inj g12))
      rcases if_or h with ⟨c13, h⟩ | ⟨c13, h⟩
      · refine WC.condT c13 (by kernel_rfl) ?_
        refine WX.seq ?_
        refine WC.reg (n := 96) (by assumption) [] [2] [] ⟨[(2, .p (.s (.bool false)))], [], ⟨[], false⟩, []⟩ trivial (by kernel_rfl) ?_
        refine WX.ret ?_
        exact WC.outP (by rw [← Option.some.inj h]; kernel_rfl)
      · refine WC.condF c13 (by kernel_rfl) ?_
        refine WX.skip ?_
        refine WX.seq ?_
        refine WX.seq ?_
        obtain ⟨t15_2, h15_1, h⟩ := bind_some h
        obtain ⟨t15_4, h15_3, h⟩ := bind_some h
        obtain ⟨t15_6, h15_5, h⟩ := bind_some h
        obtain ⟨t15_8, h15_7, h⟩ := bind_some h
        obtain ⟨t15_10, h15_9, h⟩ := bind_some h
        obtain ⟨t15_12, h15_11, h⟩ := bind_some h
        refine WC.drw (n := 96) (by assumption) [] [] [(3, .resP (.agg [.s (.int .i64 t15_2.N), slV (eI .u64) t15_2.Words])), (4, .resP (.agg [.s (.int .i64 t15_4.N), slV (eI .u64) t15_4.Words])), (7, .resP (.agg [.s (.int .i64 t15_6.N), slV (eI .u64) t15_6.Words])), (10, .resP (.agg [.s (.int .i64 t15_8.N), slV (eI .u64) t15_8.Words])), (11, .resP (.agg [.s (.int .i64 t15_10.N), slV (eI .u64) t15_10.Words])), (12, .resP (.s (.bool t15_12)))] [3, 4, 78] [3, 4] ⟨[(3, .ptr 3 0), (4, .ptr 4 0), (78, .p (.s (.bool ((!t15_12)))))], [(3, .box 27 [.p (.s (.int .i64 t5_2.1.N)), .p (slV (eI .u64) t5_2.1.Words)]), (4, .box 27 [.p (.s (.int .i64 t5_2.2.1.N)), .p (slV (eI .u64) t5_2.2.1.Words)])], ⟨[], false⟩, []⟩ (And.intro ((bits_Or_okP h15_1)) (And.intro ((bits_And_okP h15_3)) (And.intro ((bits_And_okP h15_5)) (And.intro ((bits_And_okP h15_7)) (And.intro ((bits_Or_okP h15_9)) (And.intro ((bits_Same_ok h15_11)) (trivial))))))) (by kernel_rfl) (by kernel_rfl) (by kernel_rfl) (by kernel_rfl) ?_
        rcases if_or h with ⟨c16, h⟩ | ⟨c16, h⟩
        · refine WC.condT c16 (by kernel_rfl) ?_
          refine WX.seq ?_
          refine WC.reg (n := 96) (by assumption) [] [2] [] ⟨[(2, .p (.s (.bool false)))], [], ⟨[], false⟩, []⟩ trivial (by kernel_rfl) ?_
          refine WX.ret ?_
          exact WC.outP (by rw [← Option.some.inj h]; kernel_rfl)
        · refine WC.condF c16 (by kernel_rfl) ?_
          refine WX.skip ?_
          refine WX.seq ?_
          obtain ⟨t18_2, h18_1, h⟩ := bind_some h
          obtain ⟨t18_4, h18_3, h⟩ := bind_some h
          obtain ⟨t18_6, h18_5, h⟩ := bind_some h
          obtain ⟨t18_8, h18_7, h⟩ := bind_some h
          obtain ⟨m18_1, g18, h⟩ := bind_some h
          refine WC.via (α := Bool) (fun v18 => ⟨[(2, .p (.s (.bool v18)))], [], ⟨[], false⟩, []⟩) m18_1 (fun hk => ?_) ?_
          · rcases if_or g18 with ⟨b18_9, g18⟩ | ⟨b18_9, g18⟩
            · obtain ⟨t18_10, h18_9, g18⟩ := bind_some g18
              obtain ⟨t18_12, h18_11, g18⟩ := bind_some g18
              exact WC.drw (n := 96) (by assumption) [] [] [(2, .resP (.agg [.s (.int .i64 t18_2.N), slV (eI .u64) t18_2.Words])), (5, .resP (.agg [.s (.int .i64 t18_4.N), slV (eI .u64) t18_4.Words])), (6, .resP (.agg [.s (.int .i64 t18_6.N), slV (eI .u64) t18_6.Words])), (8, .resP (.s (.bool t18_8))), (9, .val (.p (.s (.bool true)))), (12, .resP (.agg [.s (.int .i64 t18_10.N), slV (eI .u64) t18_10.Words])), (14, .resP (.s (.bool t18_12)))] [2] [] ⟨[(2, .p (.s (.bool ((!t18_12)))))], [], ⟨[], false⟩, []⟩ (And.intro ((bits_Not_okP h18_1)) (And.intro ((bits_And_okP h18_3)) (And.intro ((bits_Or_okP h18_5)) (And.intro ((bits_Same_ok h18_7)) (And.intro (Bl b18_9) (And.intro ((bits_Not_okP h18_9)) (And.intro ((bits_Meet_ok h18_11)) (trivial)))))))) (by kernel_rfl) (by kernel_rfl) (by kernel_rfl) (by kernel_rfl) (hk ((!t18_12)) (Option.some.inj g18))
            · exact WC.drw (n := 96) (by assumption) [] [] [(2, .resP (.agg [.s (.int .i64 t18_2.N), slV (eI .u64) t18_2.Words])), (5, .resP (.agg [.s (.int .i64 t18_4.N), slV (eI .u64) t18_4.Words])), (6, .resP (.agg [.s (.int .i64 t18_6.N), slV (eI .u64) t18_6.Words])), (8, .resP (.s (.bool t18_8))), (9, .val (.p (.s (.bool false))))] [2] [] ⟨[(2, .p (.s (.bool false)))], [], ⟨[], false⟩, []⟩ (And.intro ((bits_Not_okP h18_1)) (And.intro ((bits_And_okP h18_3)) (And.intro ((bits_Or_okP h18_5)) (And.intro ((bits_Same_ok h18_7)) (And.intro (Bl b18_9) (trivial)))))) (by kernel_rfl) (by kernel_rfl) (by kernel_rfl) (by kernel_rfl) (hk false (Option.some.inj g18))
          refine WX.ret ?_
          exact WC.outP (by rw [← Option.some.inj h]; kernel_rfl)
def riddleref01_First_l0 (a0 : api_Bits) (J3 : Unit → Option (Int × Bool)) : Nat → Int → Option (Int × Bool)
  | 0, _ => none
  | k + 1, x18_1_1 => (riddleref01_may k a0).bind fun t31_2 => (if (decide (x18_1_1 < t31_2.N)) = true then (riddleref01_Has k a0 x18_1_1).bind fun t33_2 => (if t33_2 = true then some (x18_1_1, true) else riddleref01_First_l0 a0 J3 k ((IntKind.i64.wrap (x18_1_1 + 1)))) else J3 ())
def riddleref01_First (k : Nat) (a0 : api_Bits) (a1 : Int) : Option (Int × Bool) :=
  jn (fun (v3 : Unit) => some (0, false)) fun J3 => riddleref01_First_l0 a0 J3 k ((maxI a1 0))
theorem riddleref01_First_ok {k : Nat} {a0 : api_Bits} {a1 : Int} {r : Int × Bool} (h : riddleref01_First k a0 a1 = some r) : Ans Tryd.prog 38 [.agg [.s (.int .i64 a0.N), slV (eI .u64) a0.Words], .s (.int .i64 a1)] (.tup [.s (.int .i64 r.1), .s (.bool r.2)]) := by
  refine W_fn Tryd.func38 rfl (by kernel_rfl) (by kernel_rfl) ?_
  intro X hro hn
  unfold riddleref01_First at h
  refine WX.seq ?_
  refine WC.reg (n := 20) (by assumption) [] [1, 2] [2] ⟨[(1, .p (.s (.int .i64 a1))), (2, .ptr 2 0)], [(2, .box 27 [.p (.s (.int .i64 a0.N)), .p (slV (eI .u64) a0.Words)])], ⟨[], false⟩, []⟩ trivial (by kernel_rfl) ?_
  refine WX.seq ?_
  refine WX.seq ?_
  refine WC.reg (n := 20) (by assumption) [] [2, 6] [2] ⟨[(2, .ptr 2 0), (6, .p (.s (.int .i64 ((maxI a1 0)))))], [(2, .box 27 [.p (.s (.int .i64 a0.N)), .p (slV (eI .u64) a0.Words)])], ⟨[], false⟩, []⟩ trivial (by kernel_rfl) ?_
  obtain ⟨J3, eJ3, h⟩ := jn_some h
  try dsimp only at h
  refine WC.join (α := Unit) (fun v3 => ⟨[], [], ⟨[], false⟩, []⟩) (fun v3 => J3 v3 = some r) ?_ (fun hJ3 => ?_)
  · rintro _ h
    rw [eJ3] at h
    try dsimp only at h
    refine WX.seq ?_
    refine WC.reg (n := 20) (by assumption) [] [4, 5] [] ⟨[(4, .p (.s (.int .i64 0))), (5, .p (.s (.bool false)))], [], ⟨[], false⟩, []⟩ trivial (by kernel_rfl) ?_
    refine WX.ret ?_
    exact WC.outP (by rw [← Option.some.inj h]; kernel_rfl)
  · skip
    refine WX.block ?_
    refine WC.loop (V := Int) (riddleref01_First_l0 a0 J3) r (fun v18 => ⟨[(2, .ptr 2 0), (6, .p (.s (.int .i64 v18)))], [(2, .box 27 [.p (.s (.int .i64 a0.N)), .p (slV (eI .u64) a0.Words)])], ⟨[], false⟩, []⟩) _ ((maxI a1 0)) h (fun _ => rfl) [2, 6] [2] (by kernel_rfl) ?_
    clear h; rintro k x18_1_1 h K18 hnext18 hexit18
    rw [riddleref01_First_l0] at h
    refine WX.seq ?_
    refine WX.seq ?_
    obtain ⟨t31_2, h31_1, h⟩ := bind_some h
    refine WC.reg (n := 20) (by assumption) [(2, .resP (.agg [.s (.int .i64 t31_2.N), slV (eI .u64) t31_2.Words]))] [2, 6, 13] [2] ⟨[(2, .ptr 2 0), (6, .p (.s (.int .i64 x18_1_1))), (13, .p (.s (.bool ((decide (x18_1_1 < t31_2.N))))))], [(2, .box 27 [.p (.s (.int .i64 a0.N)), .p (slV (eI .u64) a0.Words)])], ⟨[], false⟩, []⟩ (And.intro ((riddleref01_may_ok h31_1)) (trivial)) (by kernel_rfl) ?_
    rcases if_or h with ⟨c32, h⟩ | ⟨c32, h⟩
    · refine WC.condT c32 (by kernel_rfl) ?_
      refine WX.skip ?_
      refine WX.seq ?_
      refine WX.block ?_
      refine WX.seq ?_
      obtain ⟨t33_2, h33_1, h⟩ := bind_some h
      refine WC.reg (n := 20) (by assumption) [(2, .resP (.s (.bool t33_2)))] [2, 6, 18] [2] ⟨[(2, .ptr 2 0), (6, .p (.s (.int .i64 x18_1_1))), (18, .p (.s (.bool t33_2)))], [(2, .box 27 [.p (.s (.int .i64 a0.N)), .p (slV (eI .u64) a0.Words)])], ⟨[], false⟩, []⟩ (And.intro ((riddleref01_Has_ok h33_1)) (trivial)) (by kernel_rfl) ?_
      rcases if_or h with ⟨c34, h⟩ | ⟨c34, h⟩
      · refine WC.condT c34 (by kernel_rfl) ?_
        refine WX.seq ?_
        refine WC.reg (n := 20) (by assumption) [] [4, 5] [] ⟨[(4, .p (.s (.int .i64 x18_1_1))), (5, .p (.s (.bool true)))], [], ⟨[], false⟩, []⟩ trivial (by kernel_rfl) ?_
        refine WX.ret ?_
        refine WC.ret_all (hexit18 _ _ (by simp) ?_)
        exact WC.outP (by rw [← Option.some.inj h]; kernel_rfl)
      · refine WC.condF c34 (by kernel_rfl) ?_
        refine WX.skip ?_
        refine WX.popBlk ?_
        refine WC.reg (n := 20) (by assumption) [] [2, 6] [2] ⟨[(2, .ptr 2 0), (6, .p (.s (.int .i64 ((IntKind.i64.wrap (x18_1_1 + 1))))))], [(2, .box 27 [.p (.s (.int .i64 a0.N)), .p (slV (eI .u64) a0.Words)])], ⟨[], false⟩, []⟩ trivial (by kernel_rfl) ?_
        exact WC.next [2, 6] [2] (by kernel_rfl) (hnext18 ((IntKind.i64.wrap (x18_1_1 + 1))) h)
    · refine WC.condF c32 (by kernel_rfl) ?_
      refine WX.exit ?_
      refine WX.popCodeExit ?_
      refine WC.exit_nil (hexit18 _ _ (by simp) ?_)
      refine WX.popBlkHit ?_
      exact WC.keep [] [] (by kernel_rfl) (hJ3 () h)
def slices_Backward_uint64_uint64 (a0 : (List Int)) : Option (((List Int))) :=
  some a0
theorem slices_Backward_uint64_uint64_ok {a0 : (List Int)} {r : ((List Int))} (h : slices_Backward_uint64_uint64 a0 = some r) : Ans Tryd.prog 57 [slV (eI .u64) a0] (.fn 62 [.rop ([slV (eI .u64) r])]) := by
  refine W_fn Tryd.func57 rfl (by kernel_rfl) (by kernel_rfl) ?_
  intro X hro hn
  unfold slices_Backward_uint64_uint64 at h
  refine WX.seq ?_
  refine WC.reg (n := 4) (by assumption) [] [1] [1] ⟨[(1, .ptr 1 0)], [(1, .box 25 [.p (slV (eI .u64) a0)])], ⟨[], false⟩, []⟩ trivial (by kernel_rfl) ?_
  refine WX.seq ?_
  refine WC.reg (n := 4) (by assumption) [] [2] [1] ⟨[(2, .fn 62 [.ptr 1 0])], [(1, .box 25 [.p (slV (eI .u64) a0)])], ⟨[], false⟩, []⟩ trivial (by kernel_rfl) ?_
  refine WX.ret ?_
  exact WC.outP (by rw [← Option.some.inj h]; kernel_rfl)
def bits_Len64 (a0 : Int) : Option (Int) :=
  jn (fun (v3 : Int × Int) => jn (fun (v8 : Int × Int) => jn (fun (v13 : Int × Int) => (at_ (([0, 1, 2, 2, 3, 3, 3, 3, 4, 4, 4, 4, 4, 4, 4, 4, 5, 5, 5, 5, 5, 5, 5, 5, 5, 5, 5, 5, 5, 5, 5, 5, 6, 6, 6, 6, 6, 6, 6, 6, 6, 6, 6, 6, 6, 6, 6, 6, 6, 6, 6, 6, 6, 6, 6, 6, 6, 6, 6, 6, 6, 6, 6, 6, 7, 7, 7, 7, 7, 7, 7, 7, 7, 7, 7, 7, 7, 7, 7, 7, 7, 7, 7, 7, 7, 7, 7, 7, 7, 7, 7, 7, 7, 7, 7, 7, 7, 7, 7, 7, 7, 7, 7, 7, 7, 7, 7, 7, 7, 7, 7, 7, 7, 7, 7, 7, 7, 7, 7, 7, 7, 7, 7, 7, 7, 7, 7, 7, 8, 8, 8, 8, 8, 8, 8, 8, 8, 8, 8, 8, 8, 8, 8, 8, 8, 8, 8, 8, 8, 8, 8, 8, 8, 8, 8, 8, 8, 8, 8, 8, 8, 8, 8, 8, 8, 8, 8, 8, 8, 8, 8, 8, 8, 8, 8, 8, 8, 8, 8, 8, 8, 8, 8, 8, 8, 8, 8, 8, 8, 8, 8, 8, 8, 8, 8, 8, 8, 8, 8, 8, 8, 8, 8, 8, 8, 8, 8, 8, 8, 8, 8, 8, 8, 8, 8, 8, 8, 8, 8, 8, 8, 8, 8, 8, 8, 8, 8, 8, 8, 8, 8, 8, 8, 8, 8, 8, 8, 8, 8, 8, 8, 8, 8, 8, 8, 8, 8, 8, 8, 8, 8, 8, 8, 8, 8, 8] : List Int)) ((IntKind.u8.wrap v13.1))).bind fun t17_2 => some ((IntKind.i64.wrap (v13.2 + (IntKind.i64.wrap t17_2))))) fun J13 => (if (decide (v8.1 ≥ 256)) = true then J13 ((v8.1.fdiv (2 ^ 8)), (IntKind.i64.wrap (v8.2 + 8))) else J13 (v8.1, v8.2))) fun J8 => (if (decide (v3.1 ≥ 65536)) = true then J8 ((v3.1.fdiv (2 ^ 16)), (IntKind.i64.wrap (v3.2 + 16))) else J8 (v3.1, v3.2))) fun J3 => (if (decide (a0 ≥ 4294967296)) = true then J3 ((a0.fdiv (2 ^ 32)), 32) else J3 (a0, 0))
theorem bits_Len64_ok {a0 : Int} {r : Int} (h : bits_Len64 a0 = some r) : Ans Tryd.prog 58 [.s (.int .u64 a0)] (.s (.int .i64 r)) := by
  refine W_fn Tryd.func58 rfl (by kernel_rfl) (by kernel_rfl) ?_
  intro X hro hn
  unfold bits_Len64 at h
  refine WX.seq ?_
  refine WC.reg (n := 25) (by assumption) [] [0, 2] [] ⟨[(0, .p (.s (.int .u64 a0))), (2, .p (.s (.int .i64 0)))], [], ⟨[], false⟩, []⟩ trivial (by kernel_rfl) ?_
  refine WX.seq ?_
  refine WX.seq ?_
  refine WC.reg (n := 25) (by assumption) [] [0, 2, 4] [] ⟨[(0, .p (.s (.int .u64 a0))), (2, .p (.s (.int .i64 0))), (4, .p (.s (.bool ((decide (a0 ≥ 4294967296))))))], [], ⟨[], false⟩, []⟩ trivial (by kernel_rfl) ?_
  obtain ⟨J3, eJ3, h⟩ := jn_some h
  try dsimp only at h
  refine WC.join (α := Int × Int) (fun v3 => ⟨[(0, .p (.s (.int .u64 v3.1))), (2, .p (.s (.int .i64 v3.2)))], [], ⟨[], false⟩, []⟩) (fun v3 => J3 v3 = some r) ?_ (fun hJ3 => ?_)
  · rintro ⟨y3_1, y3_2⟩ h
    rw [eJ3] at h
    try dsimp only at h
    refine WX.seq ?_
    refine WX.seq ?_
    refine WC.reg (n := 25) (by assumption) [] [0, 2, 8] [] ⟨[(0, .p (.s (.int .u64 y3_1))), (2, .p (.s (.int .i64 y3_2))), (8, .p (.s (.bool ((decide (y3_1 ≥ 65536))))))], [], ⟨[], false⟩, []⟩ trivial (by kernel_rfl) ?_
    obtain ⟨J8, eJ8, h⟩ := jn_some h
    try dsimp only at h
    refine WC.join (α := Int × Int) (fun v8 => ⟨[(0, .p (.s (.int .u64 v8.1))), (2, .p (.s (.int .i64 v8.2)))], [], ⟨[], false⟩, []⟩) (fun v8 => J8 v8 = some r) ?_ (fun hJ8 => ?_)
    · rintro ⟨y8_1, y8_2⟩ h
      rw [eJ8] at h
      try dsimp only at h
      refine WX.seq ?_
      refine WX.seq ?_
      refine WC.reg (n := 25) (by assumption) [] [0, 2, 14] [] ⟨[(0, .p (.s (.int .u64 y8_1))), (2, .p (.s (.int .i64 y8_2))), (14, .p (.s (.bool ((decide (y8_1 ≥ 256))))))], [], ⟨[], false⟩, []⟩ trivial (by kernel_rfl) ?_
      obtain ⟨J13, eJ13, h⟩ := jn_some h
      try dsimp only at h
      refine WC.join (α := Int × Int) (fun v13 => ⟨[(0, .p (.s (.int .u64 v13.1))), (2, .p (.s (.int .i64 v13.2)))], [], ⟨[], false⟩, []⟩) (fun v13 => J13 v13 = some r) ?_ (fun hJ13 => ?_)
      · rintro ⟨y13_1, y13_2⟩ h
        rw [eJ13] at h
        try dsimp only at h
        refine WX.seq ?_
        obtain ⟨t17_2, h17_1, h⟩ := bind_some h
        refine WC.reg (n := 25) (by assumption) [(3, .val (.p (.s (.int .u8 t17_2))))] [2] [] ⟨[(2, .p (.s (.int .i64 ((IntKind.i64.wrap (y13_2 + (IntKind.i64.wrap t17_2)))))))], [], ⟨[], false⟩, []⟩ (And.intro (IxS (s := (ByteArray.mk (List.toArray [0, 1, 2, 2, 3, 3, 3, 3, 4, 4, 4, 4, 4, 4, 4, 4, 5, 5, 5, 5, 5, 5, 5, 5, 5, 5, 5, 5, 5, 5, 5, 5, 6, 6, 6, 6, 6, 6, 6, 6, 6, 6, 6, 6, 6, 6, 6, 6, 6, 6, 6, 6, 6, 6, 6, 6, 6, 6, 6, 6, 6, 6, 6, 6, 7, 7, 7, 7, 7, 7, 7, 7, 7, 7, 7, 7, 7, 7, 7, 7, 7, 7, 7, 7, 7, 7, 7, 7, 7, 7, 7, 7, 7, 7, 7, 7, 7, 7, 7, 7, 7, 7, 7, 7, 7, 7, 7, 7, 7, 7, 7, 7, 7, 7, 7, 7, 7, 7, 7, 7, 7, 7, 7, 7, 7, 7, 7, 7, 8, 8, 8, 8, 8, 8, 8, 8, 8, 8, 8, 8, 8, 8, 8, 8, 8, 8, 8, 8, 8, 8, 8, 8, 8, 8, 8, 8, 8, 8, 8, 8, 8, 8, 8, 8, 8, 8, 8, 8, 8, 8, 8, 8, 8, 8, 8, 8, 8, 8, 8, 8, 8, 8, 8, 8, 8, 8, 8, 8, 8, 8, 8, 8, 8, 8, 8, 8, 8, 8, 8, 8, 8, 8, 8, 8, 8, 8, 8, 8, 8, 8, 8, 8, 8, 8, 8, 8, 8, 8, 8, 8, 8, 8, 8, 8, 8, 8, 8, 8, 8, 8, 8, 8, 8, 8, 8, 8, 8, 8, 8, 8, 8, 8, 8, 8, 8, 8, 8, 8, 8, 8, 8, 8, 8, 8, 8, 8]))) (by kernel_rfl) h17_1) (trivial)) (by kernel_rfl) ?_
        refine WX.ret ?_
        exact WC.outP (by rw [← Option.some.inj h]; kernel_rfl)
      · replace hJ13 := fun y13_1 y13_2 => hJ13 (y13_1, y13_2)
        rcases if_or h with ⟨c18, h⟩ | ⟨c18, h⟩
        · refine WC.condT c18 (by kernel_rfl) ?_
          refine WX.seq ?_
          refine WC.reg (n := 25) (by assumption) [] [0, 2] [] ⟨[(0, .p (.s (.int .u64 ((y8_1.fdiv (2 ^ 8)))))), (2, .p (.s (.int .i64 y8_2)))], [], ⟨[], false⟩, []⟩ trivial (by kernel_rfl) ?_
          refine WC.reg (n := 25) (by assumption) [] [0, 2] [] ⟨[(0, .p (.s (.int .u64 ((y8_1.fdiv (2 ^ 8)))))), (2, .p (.s (.int .i64 ((IntKind.i64.wrap (y8_2 + 8))))))], [], ⟨[], false⟩, []⟩ trivial (by kernel_rfl) ?_
          exact WC.keep [0, 2] [] (by kernel_rfl) (hJ13 ((y8_1.fdiv (2 ^ 8))) ((IntKind.i64.wrap (y8_2 + 8))) h)
        · refine WC.condF c18 (by kernel_rfl) ?_
          refine WX.skip ?_
          exact WC.keep [0, 2] [] (by kernel_rfl) (hJ13 y8_1 y8_2 h)
    · replace hJ8 := fun y8_1 y8_2 => hJ8 (y8_1, y8_2)
      rcases if_or h with ⟨c21, h⟩ | ⟨c21, h⟩
      · refine WC.condT c21 (by kernel_rfl) ?_
        refine WX.seq ?_
        refine WC.reg (n := 25) (by assumption) [] [0, 2] [] ⟨[(0, .p (.s (.int .u64 ((y3_1.fdiv (2 ^ 16)))))), (2, .p (.s (.int .i64 y3_2)))], [], ⟨[], false⟩, []⟩ trivial (by kernel_rfl) ?_
        refine WC.reg (n := 25) (by assumption) [] [0, 2] [] ⟨[(0, .p (.s (.int .u64 ((y3_1.fdiv (2 ^ 16)))))), (2, .p (.s (.int .i64 ((IntKind.i64.wrap (y3_2 + 16))))))], [], ⟨[], false⟩, []⟩ trivial (by kernel_rfl) ?_
        exact WC.keep [0, 2] [] (by kernel_rfl) (hJ8 ((y3_1.fdiv (2 ^ 16))) ((IntKind.i64.wrap (y3_2 + 16))) h)
      · refine WC.condF c21 (by kernel_rfl) ?_
        refine WX.skip ?_
        exact WC.keep [0, 2] [] (by kernel_rfl) (hJ8 y3_1 y3_2 h)
  · replace hJ3 := fun y3_1 y3_2 => hJ3 (y3_1, y3_2)
    rcases if_or h with ⟨c24, h⟩ | ⟨c24, h⟩
    · refine WC.condT c24 (by kernel_rfl) ?_
      refine WX.seq ?_
      refine WC.reg (n := 25) (by assumption) [] [0] [] ⟨[(0, .p (.s (.int .u64 ((a0.fdiv (2 ^ 32))))))], [], ⟨[], false⟩, []⟩ trivial (by kernel_rfl) ?_
      refine WC.reg (n := 25) (by assumption) [] [0, 2] [] ⟨[(0, .p (.s (.int .u64 ((a0.fdiv (2 ^ 32)))))), (2, .p (.s (.int .i64 32)))], [], ⟨[], false⟩, []⟩ trivial (by kernel_rfl) ?_
      exact WC.keep [0, 2] [] (by kernel_rfl) (hJ3 ((a0.fdiv (2 ^ 32))) 32 h)
    · refine WC.condF c24 (by kernel_rfl) ?_
      refine WX.skip ?_
      exact WC.keep [0, 2] [] (by kernel_rfl) (hJ3 a0 0 h)
def slices_Backward_uint64_uint64_1_v1_l0 (a1 : (List Int)) : Nat → Int → Option (List (Int × Int))
  | 0, _ => none
  | k + 1, x2_1_1 => (if (decide (x2_1_1 ≥ 0)) = true then (at_ a1 x2_1_1).bind fun t13_2 => (slices_Backward_uint64_uint64_1_v1_l0 a1 k ((IntKind.i64.wrap (x2_1_1 - 1)))).map ((x2_1_1, t13_2) :: ·) else some [])
def slices_Backward_uint64_uint64_1_v1 (k : Nat) (a1 : (List Int)) : Option (List (Int × Int)) :=
  slices_Backward_uint64_uint64_1_v1_l0 a1 k ((IntKind.i64.wrap ((a1.length : Int) - 1)))
theorem slices_Backward_uint64_uint64_1_v1_it {k : Nat} {a1 : (List Int)} {r : List (Int × Int)} (h : slices_Backward_uint64_uint64_1_v1 k a1 = some r) : Iter Tryd.prog 62 [.rop ([slV (eI .u64) a1])] (r.map (fun x : Int × Int => ([.int .i64 x.1, .int .u64 x.2] : List Value))) := by
  refine W_it Tryd.func62 rfl (by kernel_rfl) (Nat.le_of_ble_eq_true (by kernel_rfl)) ?_
  intro X hro hn hY
  obtain ⟨L, hLe⟩ : ∃ L, L = r.map (fun x : Int × Int => ([.int .i64 x.1, .int .u64 x.2] : List Value)) := ⟨_, rfl⟩
  rw [← hLe] at hY ⊢
  have hL : ([] : List (List Value)) ++ r.map (fun x : Int × Int => ([.int .i64 x.1, .int .u64 x.2] : List Value)) = L := by rw [hLe]; rfl
  clear hLe
  unfold slices_Backward_uint64_uint64_1_v1 at h
  refine WX.seq ?_
  refine WC.reg (n := 19) (by assumption) [] [0, 1, 3] [] ⟨[(0, .yield), (1, .p (.rop ([slV (eI .u64) a1]))), (3, .p (.s (.int .i64 ((IntKind.i64.wrap ((a1.length : Int) - 1))))))], [], ⟨([] : List (List Value)), false⟩, []⟩ trivial (by kernel_rfl) ?_
  refine WX.block ?_
  refine WC.loop (V := Int × List (List Value)) (fun k v2 => (slices_Backward_uint64_uint64_1_v1_l0 a1 k v2.1).map fun r => v2.2 ++ r.map (fun x : Int × Int => ([.int .i64 x.1, .int .u64 x.2] : List Value))) L (fun v2 => ⟨[(0, .yield), (1, .p (.rop ([slV (eI .u64) a1]))), (3, .p (.s (.int .i64 v2.1)))], [], ⟨v2.2, false⟩, []⟩) _ ((IntKind.i64.wrap ((a1.length : Int) - 1)), ([] : List (List Value))) (by rw [h]; exact congrArg some hL) (fun _ => rfl) [0, 1, 3] [] (by kernel_rfl) ?_
  clear h hL; rintro k ⟨x2_1_1, x2_1_2⟩ h K2 hnext2 hexit2
  obtain ⟨r, h, hL⟩ := mapO_some h
  dsimp only at h hL
  rw [slices_Backward_uint64_uint64_1_v1_l0] at h
  refine WX.seq ?_
  refine WX.seq ?_
  refine WC.reg (n := 19) (by assumption) [] [0, 1, 3, 8] [] ⟨[(0, .yield), (1, .p (.rop ([slV (eI .u64) a1]))), (3, .p (.s (.int .i64 x2_1_1))), (8, .p (.s (.bool ((decide (x2_1_1 ≥ 0))))))], [], ⟨x2_1_2, false⟩, []⟩ trivial (by kernel_rfl) ?_
  rcases if_or h with ⟨c12, h⟩ | ⟨c12, h⟩
  · refine WC.condT c12 (by kernel_rfl) ?_
    refine WX.skip ?_
    refine WX.seq ?_
    refine WX.block ?_
    refine WX.seq ?_
    obtain ⟨t13_2, h13_1, h⟩ := bind_some h
    obtain ⟨r13, hh13, hr13⟩ := mapO_some h
    subst hr13
    replace h := hh13
    refine WC.yld (n := 19) (by assumption) hY 6 [(4, .val (.p (.rop ((eI .u64).cells t13_2 ++ encL (eI .u64) (a1.drop (x2_1_1.toNat + 1))))))] [0, 1, 3, 18] [] (⟨[(0, .yield), (1, .p (.rop ([slV (eI .u64) a1]))), (3, .p (.s (.int .i64 x2_1_1))), (18, .p (.s (.bool false)))], [], ⟨(x2_1_2 ++ [[.int .i64 x2_1_1, .int .u64 t13_2]]), false⟩, []⟩) (⟨[(0, .yield), (1, .p (.rop ([slV (eI .u64) a1]))), (3, .p (.s (.int .i64 x2_1_1))), (18, .p (.s (.bool true)))], [], ⟨(x2_1_2 ++ [[.int .i64 x2_1_1, .int .u64 t13_2]]), true⟩, []⟩) x2_1_2 [.int .i64 x2_1_1, .int .u64 t13_2] (And.intro (And.intro (Ix (eI .u64) h13_1) (True.intro)) (And.intro True.intro True.intro)) (by kernel_rfl) (pre_ok (val := (fun x : Int × Int => ([.int .i64 x.1, .int .u64 x.2] : List Value))) (x := (x2_1_1, t13_2)) (l := r13) hL) ?_ ?_
    · replace hL : (x2_1_2 ++ [[.int .i64 x2_1_1, .int .u64 t13_2]]) ++ r13.map (fun x : Int × Int => ([.int .i64 x.1, .int .u64 x.2] : List Value)) = L := by rw [← hL]; simp
      refine WC.condF rfl (by kernel_rfl) ?_
      refine WX.skip ?_
      refine WX.popBlk ?_
      refine WC.reg (n := 19) (by assumption) [] [0, 1, 3] [] ⟨[(0, .yield), (1, .p (.rop ([slV (eI .u64) a1]))), (3, .p (.s (.int .i64 ((IntKind.i64.wrap (x2_1_1 - 1))))))], [], ⟨(x2_1_2 ++ [[.int .i64 x2_1_1, .int .u64 t13_2]]), false⟩, []⟩ trivial (by kernel_rfl) ?_
      exact WC.next [0, 1, 3] [] (by kernel_rfl) (hnext2 ((IntKind.i64.wrap (x2_1_1 - 1)), (x2_1_2 ++ [[.int .i64 x2_1_1, .int .u64 t13_2]])) (by rw [h]; exact congrArg some hL))
    · refine WC.condT rfl (by kernel_rfl) ?_
      refine WX.ret ?_
      refine WC.ret_all (hexit2 _ _ (by simp) ?_)
      exact WC.ret_all ⟨by kernel_rfl, fun h => by cases h⟩
  · refine WC.condF c12 (by kernel_rfl) ?_
    refine WX.exit ?_
    refine WX.popCodeExit ?_
    refine WC.exit_nil (hexit2 _ _ (by simp) ?_)
    refine WX.popBlkHit ?_
    obtain rfl := Option.some.inj h
    exact WC.exit_nil ⟨by kernel_rfl, fun _ => by simpa using hL⟩
def bits_Last_l0 (k : Nat) : List (Int × Int) → Unit → Option (Int × Bool)
  | [], _ => some (0, false)
  | x6 :: xs6, _ => (if (x6.2 != 0) = true then (bits_Len64 x6.2).bind fun t18_2 => some ((IntKind.i64.wrap ((IntKind.i64.wrap ((IntKind.i64.wrap (64 * x6.1)) + t18_2)) - 1)), true) else bits_Last_l0 k xs6 ())
def bits_Last (k : Nat) (a0 : api_Bits) : Option (Int × Bool) :=
  (bits_Check a0).bind fun t2_2 => (if (t2_2 != 0) = true then some (0, false) else (slices_Backward_uint64_uint64 a0.Words).bind fun t5_2 => (slices_Backward_uint64_uint64_1_v1 k t5_2).bind fun l6 => bits_Last_l0 k l6 ())
theorem bits_Last_ok {k : Nat} {a0 : api_Bits} {r : Int × Bool} (h : bits_Last k a0 = some r) : Ans Tryd.prog 39 [.agg [.s (.int .i64 a0.N), slV (eI .u64) a0.Words]] (.tup [.s (.int .i64 r.1), .s (.bool r.2)]) := by
  refine W_fn Tryd.func39 rfl (by kernel_rfl) (by kernel_rfl) ?_
  intro X hro hn
  unfold bits_Last at h
  refine WX.seq ?_
  refine WC.reg (n := 22) (by assumption) [] [1, 2, 3] [1, 2, 3] ⟨[(1, .ptr 1 0), (2, .ptr 2 0), (3, .ptr 3 0)], [(1, .box 27 [.p (.s (.int .i64 a0.N)), .p (slV (eI .u64) a0.Words)]), (2, .box 3 [.p (.s (.int .i64 0))]), (3, .box 4 [.p (.s (.bool false))])], ⟨[], false⟩, []⟩ trivial (by kernel_rfl) ?_
  refine WX.seq ?_
  refine WX.seq ?_
  obtain ⟨t2_2, h2_1, h⟩ := bind_some h
  refine WC.reg (n := 22) (by assumption) [(1, .resP (.s (.int .i64 t2_2)))] [1, 2, 3, 8] [1, 2, 3] ⟨[(1, .ptr 1 0), (2, .ptr 2 0), (3, .ptr 3 0), (8, .p (.s (.bool ((t2_2 != 0)))))], [(1, .box 27 [.p (.s (.int .i64 a0.N)), .p (slV (eI .u64) a0.Words)]), (2, .box 3 [.p (.s (.int .i64 0))]), (3, .box 4 [.p (.s (.bool false))])], ⟨[], false⟩, []⟩ (And.intro ((bits_Check_ok h2_1)) (trivial)) (by kernel_rfl) ?_
  rcases if_or h with ⟨c3, h⟩ | ⟨c3, h⟩
  · refine WC.condT c3 (by kernel_rfl) ?_
    refine WX.seq ?_
    refine WC.reg (n := 22) (by assumption) [] [2, 3] [2, 3] ⟨[(2, .ptr 2 0), (3, .ptr 3 0)], [(2, .box 3 [.p (.s (.int .i64 0))]), (3, .box 4 [.p (.s (.bool false))])], ⟨[], false⟩, []⟩ trivial (by kernel_rfl) ?_
    refine WX.ret ?_
    exact WC.outP (by rw [← Option.some.inj h]; kernel_rfl)
  · refine WC.condF c3 (by kernel_rfl) ?_
    refine WX.skip ?_
    refine WX.seq ?_
    refine WX.seq ?_
    obtain ⟨t5_2, h5_1, h⟩ := bind_some h
    refine WC.reg (n := 22) (by assumption) [(2, .resP (.fn 62 [.rop ([slV (eI .u64) t5_2])]))] [2, 3, 11] [2, 3] ⟨[(2, .ptr 2 0), (3, .ptr 3 0), (11, .p (.fn 62 [.rop ([slV (eI .u64) t5_2])]))], [(2, .box 3 [.p (.s (.int .i64 0))]), (3, .box 4 [.p (.s (.bool false))])], ⟨[], false⟩, []⟩ (And.intro ((slices_Backward_uint64_uint64_ok h5_1)) (trivial)) (by kernel_rfl) ?_
    refine WX.block ?_
    obtain ⟨l6, hI6, h⟩ := bind_some h
    refine WC.range (V := Unit) (n := 22) (by assumption) (bits_Last_l0 k) r (fun v6 => ⟨[(2, .ptr 2 0), (3, .ptr 3 0), (11, .p (.fn 62 [.rop ([slV (eI .u64) t5_2])]))], [(2, .box 3 [.p (.s (.int .i64 0))]), (3, .box 4 [.p (.s (.bool false))])], ⟨[], false⟩, []⟩) (fun x6 v6 => ⟨[(2, .ptr 2 0), (3, .ptr 3 0), (4, .p (.s (.int .i64 x6.1))), (5, .p (.s (.int .u64 x6.2))), (11, .p (.fn 62 [.rop ([slV (eI .u64) t5_2])])), (12, .p (.s (.int .i64 x6.1))), (13, .p (.s (.int .u64 x6.2)))], [(2, .box 3 [.p (.s (.int .i64 0))]), (3, .box 4 [.p (.s (.bool false))])], ⟨[], false⟩, [[(2, .ptr 2 0), (3, .ptr 3 0), (11, .p (.fn 62 [.rop ([slV (eI .u64) t5_2])]))]]⟩) (fun x : Int × Int => ([.int .i64 x.1, .int .u64 x.2] : List Value)) l6 () h [2, 3, 11] [2, 3] (by kernel_rfl) (fun v6 => .p (.fn 62 [.rop ([slV (eI .u64) t5_2])])) (fun v6 => by kernel_rfl) (by kernel_rfl) (slices_Backward_uint64_uint64_1_v1_it hI6) (by kernel_rfl) (fun v6 => by kernel_rfl) (fun x => ⟨rfl, rfl⟩) ?_ ?_ ?_
    · clear h; rintro _ h
      rw [bits_Last_l0] at h
      refine WX.popBlk ?_
      refine WX.seq ?_
      refine WC.reg (n := 22) (by assumption) [] [2, 3] [2, 3] ⟨[(2, .ptr 2 0), (3, .ptr 3 0)], [(2, .box 3 [.p (.s (.int .i64 0))]), (3, .box 4 [.p (.s (.bool false))])], ⟨[], false⟩, []⟩ trivial (by kernel_rfl) ?_
      refine WX.ret ?_
      exact WC.outP (by rw [← Option.some.inj h]; kernel_rfl)
    · clear h; intro X hn x6; rintro _
      refine WX.seq ?_
      refine WC.reg (n := 22) (by assumption) [] [2, 3, 4, 11, 12, 13] [2, 3] ⟨[(2, .ptr 2 0), (3, .ptr 3 0), (4, .p (.s (.int .i64 x6.1))), (11, .p (.fn 62 [.rop ([slV (eI .u64) t5_2])])), (12, .p (.s (.int .i64 x6.1))), (13, .p (.s (.int .u64 x6.2)))], [(2, .box 3 [.p (.s (.int .i64 0))]), (3, .box 4 [.p (.s (.bool false))])], ⟨[], false⟩, [[(2, .ptr 2 0), (3, .ptr 3 0), (11, .p (.fn 62 [.rop ([slV (eI .u64) t5_2])]))]]⟩ trivial (by kernel_rfl) ?_
      refine WC.reg (n := 22) (by assumption) [] [2, 3, 4, 5, 11, 12, 13] [2, 3] ⟨[(2, .ptr 2 0), (3, .ptr 3 0), (4, .p (.s (.int .i64 x6.1))), (5, .p (.s (.int .u64 x6.2))), (11, .p (.fn 62 [.rop ([slV (eI .u64) t5_2])])), (12, .p (.s (.int .i64 x6.1))), (13, .p (.s (.int .u64 x6.2)))], [(2, .box 3 [.p (.s (.int .i64 0))]), (3, .box 4 [.p (.s (.bool false))])], ⟨[], false⟩, [[(2, .ptr 2 0), (3, .ptr 3 0), (11, .p (.fn 62 [.rop ([slV (eI .u64) t5_2])]))]]⟩ trivial (by kernel_rfl) ?_
      exact WC.exit_nil ⟨rfl, rfl⟩
    · clear h; intro X hn x6 xs6; rintro _ h K6 hnext6 hexit6
      rw [bits_Last_l0] at h
      refine WX.block ?_
      refine WX.seq ?_
      refine WC.reg (n := 22) (by assumption) [] [2, 3, 4, 5, 15] [2, 3] ⟨[(2, .ptr 2 0), (3, .ptr 3 0), (4, .p (.s (.int .i64 x6.1))), (5, .p (.s (.int .u64 x6.2))), (15, .p (.s (.bool ((x6.2 != 0)))))], [(2, .box 3 [.p (.s (.int .i64 0))]), (3, .box 4 [.p (.s (.bool false))])], ⟨[], false⟩, [[(2, .ptr 2 0), (3, .ptr 3 0), (11, .p (.fn 62 [.rop ([slV (eI .u64) t5_2])]))]]⟩ trivial (by kernel_rfl) ?_
      rcases if_or h with ⟨c17, h⟩ | ⟨c17, h⟩
      · refine WC.condT c17 (by kernel_rfl) ?_
        refine WX.seq ?_
        obtain ⟨t18_2, h18_1, h⟩ := bind_some h
        refine WC.reg (n := 22) (by assumption) [(3, .resP (.s (.int .i64 t18_2)))] [] [2, 3] ⟨[], [(2, .box 3 [.p (.s (.int .i64 ((IntKind.i64.wrap ((IntKind.i64.wrap ((IntKind.i64.wrap (64 * x6.1)) + t18_2)) - 1)))))]), (3, .box 4 [.p (.s (.bool true))])], ⟨[], false⟩, [[(2, .ptr 2 0), (3, .ptr 3 0), (11, .p (.fn 62 [.rop ([slV (eI .u64) t5_2])]))]]⟩ (And.intro ((bits_Len64_ok h18_1)) (trivial)) (by kernel_rfl) ?_
        refine WX.ret ?_
        refine WC.ret_all (hexit6 _ _ (by simp) ?_)
        refine WC.keep [2, 3, 11] [2, 3] (st' := ⟨[(2, .ptr 2 0), (3, .ptr 3 0), (11, .p (.fn 62 [.rop ([slV (eI .u64) t5_2])]))], [(2, .box 3 [.p (.s (.int .i64 ((IntKind.i64.wrap ((IntKind.i64.wrap ((IntKind.i64.wrap (64 * x6.1)) + t18_2)) - 1)))))]), (3, .box 4 [.p (.s (.bool true))])], ⟨[], false⟩, []⟩) (by kernel_rfl) ?_
        exact WC.outP (by rw [← Option.some.inj h]; kernel_rfl)
      · refine WC.condF c17 (by kernel_rfl) ?_
        refine WX.skip ?_
        refine WX.popBlk ?_
        refine WC.keep [] [2, 3] (st' := ⟨[], [(2, .box 3 [.p (.s (.int .i64 0))]), (3, .box 4 [.p (.s (.bool false))])], ⟨[], false⟩, [[(2, .ptr 2 0), (3, .ptr 3 0), (11, .p (.fn 62 [.rop ([slV (eI .u64) t5_2])]))]]⟩) (by kernel_rfl) ?_
        exact WC.nextR [] [2, 3] (s := ⟨[], [(2, .box 3 [.p (.s (.int .i64 0))]), (3, .box 4 [.p (.s (.bool false))])], ⟨[], false⟩, [[(2, .ptr 2 0), (3, .ptr 3 0), (11, .p (.fn 62 [.rop ([slV (eI .u64) t5_2])]))]]⟩) (by kernel_rfl) rfl (fun s hb => hnext6 () s h hb)
def riddleref01_Shift_l0 (a0 : api_Bits) (a1 : Int) (t2_4 : api_Bits) (J4 : List Int → Option (api_Bits)) : Nat → (Int × List Int) → Option (api_Bits)
  | 0, _ => none
  | k + 1, (x21_1_1, x21_1_2) => (if (decide (x21_1_1 < t2_4.N)) = true then (riddleref01_Has k a0 x21_1_1).bind fun t38_2 => (if (t38_2 && ((((decide (a1 < t2_4.N))) && ((decide (a1 > (IntKind.i64.wrap (0 - t2_4.N)))))))) = true then (riddleref01_put ((api_Bits.mk t2_4.N x21_1_2)) ((IntKind.i64.wrap (x21_1_1 + a1)))).bind fun t40_2 => riddleref01_Shift_l0 a0 a1 t2_4 J4 k ((IntKind.i64.wrap (x21_1_1 + 1)), t40_2) else riddleref01_Shift_l0 a0 a1 t2_4 J4 k ((IntKind.i64.wrap (x21_1_1 + 1)), x21_1_2)) else J4 x21_1_2)
def riddleref01_Shift (k : Nat) (a0 : api_Bits) (a1 : Int) : Option (api_Bits) :=
  (riddleref01_may k a0).bind fun t2_2 => (riddleref01_Zero t2_2.N).bind fun t2_4 => jn (fun (v4 : List Int) => some ((api_Bits.mk t2_4.N v4))) fun J4 => riddleref01_Shift_l0 a0 a1 t2_4 J4 k (0, t2_4.Words)
theorem riddleref01_Shift_ok {k : Nat} {a0 : api_Bits} {a1 : Int} {r : api_Bits} (h : riddleref01_Shift k a0 a1 = some r) : AnsO Tryd.prog 40 [] [.p (.agg [.s (.int .i64 a0.N), slV (eI .u64) a0.Words]), .p (.s (.int .i64 a1))] [(10, rowV 51 (eI .u64) r.Words)] (.agg [.p (.s (.int .i64 r.N)), .own 10]) := by
  refine W_fnO [10] Tryd.func40 rfl (by kernel_rfl) (by kernel_rfl) (by kernel_rfl) (by kernel_rfl) ?_
  intro X hro hn
  unfold riddleref01_Shift at h
  refine WX.seq ?_
  refine WC.reg (n := 39) (by assumption) [] [1, 2, 4] [2, 4] ⟨[(1, .p (.s (.int .i64 a1))), (2, .ptr 2 0), (4, .ptr 4 0)], [(2, .box 27 [.p (.s (.int .i64 a0.N)), .p (slV (eI .u64) a0.Words)]), (4, .box 27 [.p (.s (.int .i64 0)), .p (.sl .nil 0 [])])], ⟨[], false⟩, []⟩ trivial (by kernel_rfl) ?_
  refine WX.seq ?_
  obtain ⟨t2_2, h2_1, h⟩ := bind_some h
  obtain ⟨t2_4, h2_3, h⟩ := bind_some h
  refine WC.reg (n := 39) (by assumption) [(1, .resP (.agg [.s (.int .i64 t2_2.N), slV (eI .u64) t2_2.Words])), (3, .co [] [] [] [(10, rowV 51 (eI .u64) t2_4.Words)] (.agg [.p (.s (.int .i64 t2_4.N)), .own 10]))] [1, 2, 4, 5] [2, 4, 5, 10] ⟨[(1, .p (.s (.int .i64 a1))), (2, .ptr 2 0), (4, .ptr 4 0), (5, .ptr 5 0)], [(2, .box 27 [.p (.s (.int .i64 a0.N)), .p (slV (eI .u64) a0.Words)]), (4, .box 27 [.p (.s (.int .i64 0)), .p (.sl .nil 0 [])]), (5, .box 27 [.p (.s (.int .i64 t2_4.N)), .own 10]), (10, rowV 51 (eI .u64) t2_4.Words)], ⟨[], false⟩, []⟩ (And.intro ((riddleref01_may_ok h2_1)) (And.intro (And.intro ((riddleref01_Zero_ok h2_3).ren 7 10 (by kernel_rfl)) (trivial)) (trivial))) (by kernel_rfl) ?_
  refine WX.seq ?_
  refine WX.seq ?_
  refine WC.reg (n := 39) (by assumption) [] [1, 2, 4, 5, 6] [2, 4, 5, 10] ⟨[(1, .p (.s (.int .i64 a1))), (2, .ptr 2 0), (4, .ptr 4 0), (5, .ptr 5 0), (6, .p (.s (.int .i64 0)))], [(2, .box 27 [.p (.s (.int .i64 a0.N)), .p (slV (eI .u64) a0.Words)]), (4, .box 27 [.p (.s (.int .i64 0)), .p (.sl .nil 0 [])]), (5, .box 27 [.p (.s (.int .i64 t2_4.N)), .own 10]), (10, rowV 51 (eI .u64) t2_4.Words)], ⟨[], false⟩, []⟩ trivial (by kernel_rfl) ?_
  obtain ⟨J4, eJ4, h⟩ := jn_some h
  try dsimp only at h
  refine WC.join (α := List Int) (fun v4 => ⟨[(4, .ptr 4 0), (5, .ptr 5 0)], [(4, .box 27 [.p (.s (.int .i64 0)), .p (.sl .nil 0 [])]), (5, .box 27 [.p (.s (.int .i64 t2_4.N)), .own 10]), (10, rowV 51 (eI .u64) v4)], ⟨[], false⟩, []⟩) (fun v4 => J4 v4 = some r) ?_ (fun hJ4 => ?_)
  · rintro y4_1 h
    rw [eJ4] at h
    try dsimp only at h
    refine WX.seq ?_
    refine WC.reg (n := 39) (by assumption) [] [4] [4, 10] ⟨[(4, .ptr 4 0)], [(4, .box 27 [.p (.s (.int .i64 t2_4.N)), .own 10]), (10, rowV 51 (eI .u64) y4_1)], ⟨[], false⟩, []⟩ trivial (by kernel_rfl) ?_
    refine WX.ret ?_
    exact WC.outO (by rw [← Option.some.inj h]; kernel_rfl)
  · replace hJ4 := fun y4_1 => hJ4 y4_1
    refine WX.block ?_
    refine WC.loop (V := Int × List Int) (riddleref01_Shift_l0 a0 a1 t2_4 J4) r (fun v21 => ⟨[(1, .p (.s (.int .i64 a1))), (2, .ptr 2 0), (4, .ptr 4 0), (5, .ptr 5 0), (6, .p (.s (.int .i64 v21.1)))], [(2, .box 27 [.p (.s (.int .i64 a0.N)), .p (slV (eI .u64) a0.Words)]), (4, .box 27 [.p (.s (.int .i64 0)), .p (.sl .nil 0 [])]), (5, .box 27 [.p (.s (.int .i64 t2_4.N)), .own 10]), (10, rowV 51 (eI .u64) v21.2)], ⟨[], false⟩, []⟩) _ (0, t2_4.Words) h (fun _ => rfl) [1, 2, 4, 5, 6] [2, 4, 5, 10] (by kernel_rfl) ?_
    clear h; rintro k ⟨x21_1_1, x21_1_2⟩ h K21 hnext21 hexit21
    rw [riddleref01_Shift_l0] at h
    refine WX.seq ?_
    refine WX.seq ?_
    refine WC.reg (n := 39) (by assumption) [] [1, 2, 4, 5, 6, 14] [2, 4, 5, 10] ⟨[(1, .p (.s (.int .i64 a1))), (2, .ptr 2 0), (4, .ptr 4 0), (5, .ptr 5 0), (6, .p (.s (.int .i64 x21_1_1))), (14, .p (.s (.bool ((decide (x21_1_1 < t2_4.N))))))], [(2, .box 27 [.p (.s (.int .i64 a0.N)), .p (slV (eI .u64) a0.Words)]), (4, .box 27 [.p (.s (.int .i64 0)), .p (.sl .nil 0 [])]), (5, .box 27 [.p (.s (.int .i64 t2_4.N)), .own 10]), (10, rowV 51 (eI .u64) x21_1_2)], ⟨[], false⟩, []⟩ trivial (by kernel_rfl) ?_
    rcases if_or h with ⟨c37, h⟩ | ⟨c37, h⟩
    · refine WC.condT c37 (by kernel_rfl) ?_
      refine WX.skip ?_
      refine WX.seq ?_
      refine WX.block ?_
      refine WX.seq ?_
      obtain ⟨t38_2, h38_1, h⟩ := bind_some h
      refine WC.via (α := Bool) (fun v38 => ⟨[(1, .p (.s (.int .i64 a1))), (2, .ptr 2 0), (4, .ptr 4 0), (5, .ptr 5 0), (6, .p (.s (.int .i64 x21_1_1))), (32, .p (.s (.bool v38)))], [(2, .box 27 [.p (.s (.int .i64 a0.N)), .p (slV (eI .u64) a0.Words)]), (4, .box 27 [.p (.s (.int .i64 0)), .p (.sl .nil 0 [])]), (5, .box 27 [.p (.s (.int .i64 t2_4.N)), .own 10]), (10, rowV 51 (eI .u64) x21_1_2)], ⟨[], false⟩, []⟩) ((t38_2 && ((((decide (a1 < t2_4.N))) && ((decide (a1 > (IntKind.i64.wrap (0 - t2_4.N))))))))) (fun hk => ?_) ?_
      · rcases Bool.eq_false_or_eq_true t38_2 with b38_3 | b38_3
        · rcases Bool.eq_false_or_eq_true ((decide (a1 < t2_4.N))) with b38_9 | b38_9
          · exact WC.reg (n := 39) (by assumption) [(2, .resP (.s (.bool t38_2))), (3, .val (.p (.s (.bool true)))), (9, .val (.p (.s (.bool true))))] [1, 2, 4, 5, 6, 32] [2, 4, 5, 10] ⟨[(1, .p (.s (.int .i64 a1))), (2, .ptr 2 0), (4, .ptr 4 0), (5, .ptr 5 0), (6, .p (.s (.int .i64 x21_1_1))), (32, .p (.s (.bool ((decide (a1 > (IntKind.i64.wrap (0 - t2_4.N))))))))], [(2, .box 27 [.p (.s (.int .i64 a0.N)), .p (slV (eI .u64) a0.Words)]), (4, .box 27 [.p (.s (.int .i64 0)), .p (.sl .nil 0 [])]), (5, .box 27 [.p (.s (.int .i64 t2_4.N)), .own 10]), (10, rowV 51 (eI .u64) x21_1_2)], ⟨[], false⟩, []⟩ (And.intro ((riddleref01_Has_ok h38_1)) (And.intro (Bl b38_3) (And.intro (Bl b38_9) (trivial)))) (by kernel_rfl) (hk ((decide (a1 > (IntKind.i64.wrap (0 - t2_4.N))))) (by first | (rw [b38_3, b38_9]; rfl) | simp [b38_3, b38_9]))
          · exact WC.reg (n := 39) (by assumption) [(2, .resP (.s (.bool t38_2))), (3, .val (.p (.s (.bool true)))), (9, .val (.p (.s (.bool false))))] [1, 2, 4, 5, 6, 32] [2, 4, 5, 10] ⟨[(1, .p (.s (.int .i64 a1))), (2, .ptr 2 0), (4, .ptr 4 0), (5, .ptr 5 0), (6, .p (.s (.int .i64 x21_1_1))), (32, .p (.s (.bool false)))], [(2, .box 27 [.p (.s (.int .i64 a0.N)), .p (slV (eI .u64) a0.Words)]), (4, .box 27 [.p (.s (.int .i64 0)), .p (.sl .nil 0 [])]), (5, .box 27 [.p (.s (.int .i64 t2_4.N)), .own 10]), (10, rowV 51 (eI .u64) x21_1_2)], ⟨[], false⟩, []⟩ (And.intro ((riddleref01_Has_ok h38_1)) (And.intro (Bl b38_3) (And.intro (Bl b38_9) (trivial)))) (by kernel_rfl) (hk false (by first | (rw [b38_3, b38_9]; rfl) | simp [b38_3, b38_9]))
        · exact WC.reg (n := 39) (by assumption) [(2, .resP (.s (.bool t38_2))), (3, .val (.p (.s (.bool false))))] [1, 2, 4, 5, 6, 32] [2, 4, 5, 10] ⟨[(1, .p (.s (.int .i64 a1))), (2, .ptr 2 0), (4, .ptr 4 0), (5, .ptr 5 0), (6, .p (.s (.int .i64 x21_1_1))), (32, .p (.s (.bool false)))], [(2, .box 27 [.p (.s (.int .i64 a0.N)), .p (slV (eI .u64) a0.Words)]), (4, .box 27 [.p (.s (.int .i64 0)), .p (.sl .nil 0 [])]), (5, .box 27 [.p (.s (.int .i64 t2_4.N)), .own 10]), (10, rowV 51 (eI .u64) x21_1_2)], ⟨[], false⟩, []⟩ (And.intro ((riddleref01_Has_ok h38_1)) (And.intro (Bl b38_3) (trivial))) (by kernel_rfl) (hk false (by first | (rw [b38_3]; rfl) | simp [b38_3]))
      rcases if_or h with ⟨c39, h⟩ | ⟨c39, h⟩
      · refine WC.condT c39 (by kernel_rfl) ?_
        obtain ⟨t40_2, h40_1, h⟩ := bind_some h
        refine WC.reg (n := 39) (by assumption) [(4, .co [] [10] [] [(10, rowV 51 (eI .u64) t40_2)] (.tup []))] [1, 2, 4, 5, 6] [2, 4, 5, 10] ⟨[(1, .p (.s (.int .i64 a1))), (2, .ptr 2 0), (4, .ptr 4 0), (5, .ptr 5 0), (6, .p (.s (.int .i64 x21_1_1)))], [(2, .box 27 [.p (.s (.int .i64 a0.N)), .p (slV (eI .u64) a0.Words)]), (4, .box 27 [.p (.s (.int .i64 0)), .p (.sl .nil 0 [])]), (5, .box 27 [.p (.s (.int .i64 t2_4.N)), .own 10]), (10, rowV 51 (eI .u64) t40_2)], ⟨[], false⟩, []⟩ (And.intro (And.intro ((riddleref01_put_ok h40_1).ren 1000 10 (by kernel_rfl)) (trivial)) (trivial)) (by kernel_rfl) ?_
        refine WX.popBlk ?_
        refine WC.reg (n := 39) (by assumption) [] [1, 2, 4, 5, 6] [2, 4, 5, 10] ⟨[(1, .p (.s (.int .i64 a1))), (2, .ptr 2 0), (4, .ptr 4 0), (5, .ptr 5 0), (6, .p (.s (.int .i64 ((IntKind.i64.wrap (x21_1_1 + 1))))))], [(2, .box 27 [.p (.s (.int .i64 a0.N)), .p (slV (eI .u64) a0.Words)]), (4, .box 27 [.p (.s (.int .i64 0)), .p (.sl .nil 0 [])]), (5, .box 27 [.p (.s (.int .i64 t2_4.N)), .own 10]), (10, rowV 51 (eI .u64) t40_2)], ⟨[], false⟩, []⟩ trivial (by kernel_rfl) ?_
        exact WC.next [1, 2, 4, 5, 6] [2, 4, 5, 10] (by kernel_rfl) (hnext21 ((IntKind.i64.wrap (x21_1_1 + 1)), t40_2) h)
      · refine WC.condF c39 (by kernel_rfl) ?_
        refine WX.skip ?_
        refine WX.popBlk ?_
        refine WC.reg (n := 39) (by assumption) [] [1, 2, 4, 5, 6] [2, 4, 5, 10] ⟨[(1, .p (.s (.int .i64 a1))), (2, .ptr 2 0), (4, .ptr 4 0), (5, .ptr 5 0), (6, .p (.s (.int .i64 ((IntKind.i64.wrap (x21_1_1 + 1))))))], [(2, .box 27 [.p (.s (.int .i64 a0.N)), .p (slV (eI .u64) a0.Words)]), (4, .box 27 [.p (.s (.int .i64 0)), .p (.sl .nil 0 [])]), (5, .box 27 [.p (.s (.int .i64 t2_4.N)), .own 10]), (10, rowV 51 (eI .u64) x21_1_2)], ⟨[], false⟩, []⟩ trivial (by kernel_rfl) ?_
        exact WC.next [1, 2, 4, 5, 6] [2, 4, 5, 10] (by kernel_rfl) (hnext21 ((IntKind.i64.wrap (x21_1_1 + 1)), x21_1_2) h)
    · refine WC.condF c37 (by kernel_rfl) ?_
      refine WX.exit ?_
      refine WX.popCodeExit ?_
      refine WC.exit_nil (hexit21 _ _ (by simp) ?_)
      refine WX.popBlkHit ?_
      exact WC.keep [4, 5] [4, 5, 10] (by kernel_rfl) (hJ4 x21_1_2 h)
theorem riddleref01_Shift_okP {k : Nat} {a0 : api_Bits} {a1 : Int} {r : api_Bits} (h : riddleref01_Shift k a0 a1 = some r) : Ans Tryd.prog 40 [.agg [.s (.int .i64 a0.N), slV (eI .u64) a0.Words], .s (.int .i64 a1)] (.agg [.s (.int .i64 r.N), slV (eI .u64) r.Words]) := AnsO.ans (args := [.agg [.s (.int .i64 a0.N), slV (eI .u64) a0.Words], .s (.int .i64 a1)]) (riddleref01_Shift_ok h) (by kernel_rfl)
def bits_OnesCount64 (a0 : Int) : Option (Int) :=
  some ((bits .and .i64 ((IntKind.i64.wrap ((IntKind.u64.wrap ((IntKind.u64.wrap ((IntKind.u64.wrap ((bits .and .u64 ((IntKind.u64.wrap ((((IntKind.u64.wrap ((bits .and .u64 ((((IntKind.u64.wrap ((bits .and .u64 ((a0.fdiv (2 ^ 1))) 6148914691236517205) + (bits .and .u64 a0 6148914691236517205)))).fdiv (2 ^ 2))) 3689348814741910323) + (bits .and .u64 ((IntKind.u64.wrap ((bits .and .u64 ((a0.fdiv (2 ^ 1))) 6148914691236517205) + (bits .and .u64 a0 6148914691236517205)))) 3689348814741910323)))).fdiv (2 ^ 4)) + (IntKind.u64.wrap ((bits .and .u64 ((((IntKind.u64.wrap ((bits .and .u64 ((a0.fdiv (2 ^ 1))) 6148914691236517205) + (bits .and .u64 a0 6148914691236517205)))).fdiv (2 ^ 2))) 3689348814741910323) + (bits .and .u64 ((IntKind.u64.wrap ((bits .and .u64 ((a0.fdiv (2 ^ 1))) 6148914691236517205) + (bits .and .u64 a0 6148914691236517205)))) 3689348814741910323)))))) 1085102592571150095) + (((bits .and .u64 ((IntKind.u64.wrap ((((IntKind.u64.wrap ((bits .and .u64 ((((IntKind.u64.wrap ((bits .and .u64 ((a0.fdiv (2 ^ 1))) 6148914691236517205) + (bits .and .u64 a0 6148914691236517205)))).fdiv (2 ^ 2))) 3689348814741910323) + (bits .and .u64 ((IntKind.u64.wrap ((bits .and .u64 ((a0.fdiv (2 ^ 1))) 6148914691236517205) + (bits .and .u64 a0 6148914691236517205)))) 3689348814741910323)))).fdiv (2 ^ 4)) + (IntKind.u64.wrap ((bits .and .u64 ((((IntKind.u64.wrap ((bits .and .u64 ((a0.fdiv (2 ^ 1))) 6148914691236517205) + (bits .and .u64 a0 6148914691236517205)))).fdiv (2 ^ 2))) 3689348814741910323) + (bits .and .u64 ((IntKind.u64.wrap ((bits .and .u64 ((a0.fdiv (2 ^ 1))) 6148914691236517205) + (bits .and .u64 a0 6148914691236517205)))) 3689348814741910323)))))) 1085102592571150095)).fdiv (2 ^ 8)))) + (((IntKind.u64.wrap ((bits .and .u64 ((IntKind.u64.wrap ((((IntKind.u64.wrap ((bits .and .u64 ((((IntKind.u64.wrap ((bits .and .u64 ((a0.fdiv (2 ^ 1))) 6148914691236517205) + (bits .and .u64 a0 6148914691236517205)))).fdiv (2 ^ 2))) 3689348814741910323) + (bits .and .u64 ((IntKind.u64.wrap ((bits .and .u64 ((a0.fdiv (2 ^ 1))) 6148914691236517205) + (bits .and .u64 a0 6148914691236517205)))) 3689348814741910323)))).fdiv (2 ^ 4)) + (IntKind.u64.wrap ((bits .and .u64 ((((IntKind.u64.wrap ((bits .and .u64 ((a0.fdiv (2 ^ 1))) 6148914691236517205) + (bits .and .u64 a0 6148914691236517205)))).fdiv (2 ^ 2))) 3689348814741910323) + (bits .and .u64 ((IntKind.u64.wrap ((bits .and .u64 ((a0.fdiv (2 ^ 1))) 6148914691236517205) + (bits .and .u64 a0 6148914691236517205)))) 3689348814741910323)))))) 1085102592571150095) + (((bits .and .u64 ((IntKind.u64.wrap ((((IntKind.u64.wrap ((bits .and .u64 ((((IntKind.u64.wrap ((bits .and .u64 ((a0.fdiv (2 ^ 1))) 6148914691236517205) + (bits .and .u64 a0 6148914691236517205)))).fdiv (2 ^ 2))) 3689348814741910323) + (bits .and .u64 ((IntKind.u64.wrap ((bits .and .u64 ((a0.fdiv (2 ^ 1))) 6148914691236517205) + (bits .and .u64 a0 6148914691236517205)))) 3689348814741910323)))).fdiv (2 ^ 4)) + (IntKind.u64.wrap ((bits .and .u64 ((((IntKind.u64.wrap ((bits .and .u64 ((a0.fdiv (2 ^ 1))) 6148914691236517205) + (bits .and .u64 a0 6148914691236517205)))).fdiv (2 ^ 2))) 3689348814741910323) + (bits .and .u64 ((IntKind.u64.wrap ((bits .and .u64 ((a0.fdiv (2 ^ 1))) 6148914691236517205) + (bits .and .u64 a0 6148914691236517205)))) 3689348814741910323)))))) 1085102592571150095)).fdiv (2 ^ 8))))).fdiv (2 ^ 16)))) + (((IntKind.u64.wrap ((IntKind.u64.wrap ((bits .and .u64 ((IntKind.u64.wrap ((((IntKind.u64.wrap ((bits .and .u64 ((((IntKind.u64.wrap ((bits .and .u64 ((a0.fdiv (2 ^ 1))) 6148914691236517205) + (bits .and .u64 a0 6148914691236517205)))).fdiv (2 ^ 2))) 3689348814741910323) + (bits .and .u64 ((IntKind.u64.wrap ((bits .and .u64 ((a0.fdiv (2 ^ 1))) 6148914691236517205) + (bits .and .u64 a0 6148914691236517205)))) 3689348814741910323)))).fdiv (2 ^ 4)) + (IntKind.u64.wrap ((bits .and .u64 ((((IntKind.u64.wrap ((bits .and .u64 ((a0.fdiv (2 ^ 1))) 6148914691236517205) + (bits .and .u64 a0 6148914691236517205)))).fdiv (2 ^ 2))) 3689348814741910323) + (bits .and .u64 ((IntKind.u64.wrap ((bits .and .u64 ((a0.fdiv (2 ^ 1))) 6148914691236517205) + (bits .and .u64 a0 6148914691236517205)))) 3689348814741910323)))))) 1085102592571150095) + (((bits .and .u64 ((IntKind.u64.wrap ((((IntKind.u64.wrap ((bits .and .u64 ((((IntKind.u64.wrap ((bits .and .u64 ((a0.fdiv (2 ^ 1))) 6148914691236517205) + (bits .and .u64 a0 6148914691236517205)))).fdiv (2 ^ 2))) 3689348814741910323) + (bits .and .u64 ((IntKind.u64.wrap ((bits .and .u64 ((a0.fdiv (2 ^ 1))) 6148914691236517205) + (bits .and .u64 a0 6148914691236517205)))) 3689348814741910323)))).fdiv (2 ^ 4)) + (IntKind.u64.wrap ((bits .and .u64 ((((IntKind.u64.wrap ((bits .and .u64 ((a0.fdiv (2 ^ 1))) 6148914691236517205) + (bits .and .u64 a0 6148914691236517205)))).fdiv (2 ^ 2))) 3689348814741910323) + (bits .and .u64 ((IntKind.u64.wrap ((bits .and .u64 ((a0.fdiv (2 ^ 1))) 6148914691236517205) + (bits .and .u64 a0 6148914691236517205)))) 3689348814741910323)))))) 1085102592571150095)).fdiv (2 ^ 8)))) + (((IntKind.u64.wrap ((bits .and .u64 ((IntKind.u64.wrap ((((IntKind.u64.wrap ((bits .and .u64 ((((IntKind.u64.wrap ((bits .and .u64 ((a0.fdiv (2 ^ 1))) 6148914691236517205) + (bits .and .u64 a0 6148914691236517205)))).fdiv (2 ^ 2))) 3689348814741910323) + (bits .and .u64 ((IntKind.u64.wrap ((bits .and .u64 ((a0.fdiv (2 ^ 1))) 6148914691236517205) + (bits .and .u64 a0 6148914691236517205)))) 3689348814741910323)))).fdiv (2 ^ 4)) + (IntKind.u64.wrap ((bits .and .u64 ((((IntKind.u64.wrap ((bits .and .u64 ((a0.fdiv (2 ^ 1))) 6148914691236517205) + (bits .and .u64 a0 6148914691236517205)))).fdiv (2 ^ 2))) 3689348814741910323) + (bits .and .u64 ((IntKind.u64.wrap ((bits .and .u64 ((a0.fdiv (2 ^ 1))) 6148914691236517205) + (bits .and .u64 a0 6148914691236517205)))) 3689348814741910323)))))) 1085102592571150095) + (((bits .and .u64 ((IntKind.u64.wrap ((((IntKind.u64.wrap ((bits .and .u64 ((((IntKind.u64.wrap ((bits .and .u64 ((a0.fdiv (2 ^ 1))) 6148914691236517205) + (bits .and .u64 a0 6148914691236517205)))).fdiv (2 ^ 2))) 3689348814741910323) + (bits .and .u64 ((IntKind.u64.wrap ((bits .and .u64 ((a0.fdiv (2 ^ 1))) 6148914691236517205) + (bits .and .u64 a0 6148914691236517205)))) 3689348814741910323)))).fdiv (2 ^ 4)) + (IntKind.u64.wrap ((bits .and .u64 ((((IntKind.u64.wrap ((bits .and .u64 ((a0.fdiv (2 ^ 1))) 6148914691236517205) + (bits .and .u64 a0 6148914691236517205)))).fdiv (2 ^ 2))) 3689348814741910323) + (bits .and .u64 ((IntKind.u64.wrap ((bits .and .u64 ((a0.fdiv (2 ^ 1))) 6148914691236517205) + (bits .and .u64 a0 6148914691236517205)))) 3689348814741910323)))))) 1085102592571150095)).fdiv (2 ^ 8))))).fdiv (2 ^ 16))))).fdiv (2 ^ 32))))))) 127))
theorem bits_OnesCount64_ok {a0 : Int} {r : Int} (h : bits_OnesCount64 a0 = some r) : Ans Tryd.prog 59 [.s (.int .u64 a0)] (.s (.int .i64 r)) := by
  refine W_fn Tryd.func59 rfl (by kernel_rfl) (by kernel_rfl) ?_
  intro X hro hn
  unfold bits_OnesCount64 at h
  refine WX.seq ?_
  refine WC.reg (n := 35) (by assumption) [] [0] [] ⟨[(0, .p (.s (.int .u64 a0)))], [], ⟨[], false⟩, []⟩ trivial (by kernel_rfl) ?_
  refine WX.seq ?_
  refine WC.reg (n := 35) (by assumption) [] [0] [] ⟨[(0, .p (.s (.int .u64 ((IntKind.u64.wrap ((bits .and .u64 ((a0.fdiv (2 ^ 1))) 6148914691236517205) + (bits .and .u64 a0 6148914691236517205)))))))], [], ⟨[], false⟩, []⟩ trivial (by kernel_rfl) ?_
  refine WX.seq ?_
  refine WC.reg (n := 35) (by assumption) [] [0] [] ⟨[(0, .p (.s (.int .u64 ((IntKind.u64.wrap ((bits .and .u64 ((((IntKind.u64.wrap ((bits .and .u64 ((a0.fdiv (2 ^ 1))) 6148914691236517205) + (bits .and .u64 a0 6148914691236517205)))).fdiv (2 ^ 2))) 3689348814741910323) + (bits .and .u64 ((IntKind.u64.wrap ((bits .and .u64 ((a0.fdiv (2 ^ 1))) 6148914691236517205) + (bits .and .u64 a0 6148914691236517205)))) 3689348814741910323)))))))], [], ⟨[], false⟩, []⟩ trivial (by kernel_rfl) ?_
  refine WX.seq ?_
  refine WC.reg (n := 35) (by assumption) [] [0] [] ⟨[(0, .p (.s (.int .u64 ((bits .and .u64 ((IntKind.u64.wrap ((((IntKind.u64.wrap ((bits .and .u64 ((((IntKind.u64.wrap ((bits .and .u64 ((a0.fdiv (2 ^ 1))) 6148914691236517205) + (bits .and .u64 a0 6148914691236517205)))).fdiv (2 ^ 2))) 3689348814741910323) + (bits .and .u64 ((IntKind.u64.wrap ((bits .and .u64 ((a0.fdiv (2 ^ 1))) 6148914691236517205) + (bits .and .u64 a0 6148914691236517205)))) 3689348814741910323)))).fdiv (2 ^ 4)) + (IntKind.u64.wrap ((bits .and .u64 ((((IntKind.u64.wrap ((bits .and .u64 ((a0.fdiv (2 ^ 1))) 6148914691236517205) + (bits .and .u64 a0 6148914691236517205)))).fdiv (2 ^ 2))) 3689348814741910323) + (bits .and .u64 ((IntKind.u64.wrap ((bits .and .u64 ((a0.fdiv (2 ^ 1))) 6148914691236517205) + (bits .and .u64 a0 6148914691236517205)))) 3689348814741910323)))))) 1085102592571150095)))))], [], ⟨[], false⟩, []⟩ trivial (by kernel_rfl) ?_
  refine WX.seq ?_
  refine WC.reg (n := 35) (by assumption) [] [0] [] ⟨[(0, .p (.s (.int .u64 ((IntKind.u64.wrap ((bits .and .u64 ((IntKind.u64.wrap ((((IntKind.u64.wrap ((bits .and .u64 ((((IntKind.u64.wrap ((bits .and .u64 ((a0.fdiv (2 ^ 1))) 6148914691236517205) + (bits .and .u64 a0 6148914691236517205)))).fdiv (2 ^ 2))) 3689348814741910323) + (bits .and .u64 ((IntKind.u64.wrap ((bits .and .u64 ((a0.fdiv (2 ^ 1))) 6148914691236517205) + (bits .and .u64 a0 6148914691236517205)))) 3689348814741910323)))).fdiv (2 ^ 4)) + (IntKind.u64.wrap ((bits .and .u64 ((((IntKind.u64.wrap ((bits .and .u64 ((a0.fdiv (2 ^ 1))) 6148914691236517205) + (bits .and .u64 a0 6148914691236517205)))).fdiv (2 ^ 2))) 3689348814741910323) + (bits .and .u64 ((IntKind.u64.wrap ((bits .and .u64 ((a0.fdiv (2 ^ 1))) 6148914691236517205) + (bits .and .u64 a0 6148914691236517205)))) 3689348814741910323)))))) 1085102592571150095) + (((bits .and .u64 ((IntKind.u64.wrap ((((IntKind.u64.wrap ((bits .and .u64 ((((IntKind.u64.wrap ((bits .and .u64 ((a0.fdiv (2 ^ 1))) 6148914691236517205) + (bits .and .u64 a0 6148914691236517205)))).fdiv (2 ^ 2))) 3689348814741910323) + (bits .and .u64 ((IntKind.u64.wrap ((bits .and .u64 ((a0.fdiv (2 ^ 1))) 6148914691236517205) + (bits .and .u64 a0 6148914691236517205)))) 3689348814741910323)))).fdiv (2 ^ 4)) + (IntKind.u64.wrap ((bits .and .u64 ((((IntKind.u64.wrap ((bits .and .u64 ((a0.fdiv (2 ^ 1))) 6148914691236517205) + (bits .and .u64 a0 6148914691236517205)))).fdiv (2 ^ 2))) 3689348814741910323) + (bits .and .u64 ((IntKind.u64.wrap ((bits .and .u64 ((a0.fdiv (2 ^ 1))) 6148914691236517205) + (bits .and .u64 a0 6148914691236517205)))) 3689348814741910323)))))) 1085102592571150095)).fdiv (2 ^ 8))))))))], [], ⟨[], false⟩, []⟩ trivial (by kernel_rfl) ?_
  refine WX.seq ?_
  refine WC.reg (n := 35) (by assumption) [] [0] [] ⟨[(0, .p (.s (.int .u64 ((IntKind.u64.wrap ((IntKind.u64.wrap ((bits .and .u64 ((IntKind.u64.wrap ((((IntKind.u64.wrap ((bits .and .u64 ((((IntKind.u64.wrap ((bits .and .u64 ((a0.fdiv (2 ^ 1))) 6148914691236517205) + (bits .and .u64 a0 6148914691236517205)))).fdiv (2 ^ 2))) 3689348814741910323) + (bits .and .u64 ((IntKind.u64.wrap ((bits .and .u64 ((a0.fdiv (2 ^ 1))) 6148914691236517205) + (bits .and .u64 a0 6148914691236517205)))) 3689348814741910323)))).fdiv (2 ^ 4)) + (IntKind.u64.wrap ((bits .and .u64 ((((IntKind.u64.wrap ((bits .and .u64 ((a0.fdiv (2 ^ 1))) 6148914691236517205) + (bits .and .u64 a0 6148914691236517205)))).fdiv (2 ^ 2))) 3689348814741910323) + (bits .and .u64 ((IntKind.u64.wrap ((bits .and .u64 ((a0.fdiv (2 ^ 1))) 6148914691236517205) + (bits .and .u64 a0 6148914691236517205)))) 3689348814741910323)))))) 1085102592571150095) + (((bits .and .u64 ((IntKind.u64.wrap ((((IntKind.u64.wrap ((bits .and .u64 ((((IntKind.u64.wrap ((bits .and .u64 ((a0.fdiv (2 ^ 1))) 6148914691236517205) + (bits .and .u64 a0 6148914691236517205)))).fdiv (2 ^ 2))) 3689348814741910323) + (bits .and .u64 ((IntKind.u64.wrap ((bits .and .u64 ((a0.fdiv (2 ^ 1))) 6148914691236517205) + (bits .and .u64 a0 6148914691236517205)))) 3689348814741910323)))).fdiv (2 ^ 4)) + (IntKind.u64.wrap ((bits .and .u64 ((((IntKind.u64.wrap ((bits .and .u64 ((a0.fdiv (2 ^ 1))) 6148914691236517205) + (bits .and .u64 a0 6148914691236517205)))).fdiv (2 ^ 2))) 3689348814741910323) + (bits .and .u64 ((IntKind.u64.wrap ((bits .and .u64 ((a0.fdiv (2 ^ 1))) 6148914691236517205) + (bits .and .u64 a0 6148914691236517205)))) 3689348814741910323)))))) 1085102592571150095)).fdiv (2 ^ 8)))) + (((IntKind.u64.wrap ((bits .and .u64 ((IntKind.u64.wrap ((((IntKind.u64.wrap ((bits .and .u64 ((((IntKind.u64.wrap ((bits .and .u64 ((a0.fdiv (2 ^ 1))) 6148914691236517205) + (bits .and .u64 a0 6148914691236517205)))).fdiv (2 ^ 2))) 3689348814741910323) + (bits .and .u64 ((IntKind.u64.wrap ((bits .and .u64 ((a0.fdiv (2 ^ 1))) 6148914691236517205) + (bits .and .u64 a0 6148914691236517205)))) 3689348814741910323)))).fdiv (2 ^ 4)) + (IntKind.u64.wrap ((bits .and .u64 ((((IntKind.u64.wrap ((bits .and .u64 ((a0.fdiv (2 ^ 1))) 6148914691236517205) + (bits .and .u64 a0 6148914691236517205)))).fdiv (2 ^ 2))) 3689348814741910323) + (bits .and .u64 ((IntKind.u64.wrap ((bits .and .u64 ((a0.fdiv (2 ^ 1))) 6148914691236517205) + (bits .and .u64 a0 6148914691236517205)))) 3689348814741910323)))))) 1085102592571150095) + (((bits .and .u64 ((IntKind.u64.wrap ((((IntKind.u64.wrap ((bits .and .u64 ((((IntKind.u64.wrap ((bits .and .u64 ((a0.fdiv (2 ^ 1))) 6148914691236517205) + (bits .and .u64 a0 6148914691236517205)))).fdiv (2 ^ 2))) 3689348814741910323) + (bits .and .u64 ((IntKind.u64.wrap ((bits .and .u64 ((a0.fdiv (2 ^ 1))) 6148914691236517205) + (bits .and .u64 a0 6148914691236517205)))) 3689348814741910323)))).fdiv (2 ^ 4)) + (IntKind.u64.wrap ((bits .and .u64 ((((IntKind.u64.wrap ((bits .and .u64 ((a0.fdiv (2 ^ 1))) 6148914691236517205) + (bits .and .u64 a0 6148914691236517205)))).fdiv (2 ^ 2))) 3689348814741910323) + (bits .and .u64 ((IntKind.u64.wrap ((bits .and .u64 ((a0.fdiv (2 ^ 1))) 6148914691236517205) + (bits .and .u64 a0 6148914691236517205)))) 3689348814741910323)))))) 1085102592571150095)).fdiv (2 ^ 8))))).fdiv (2 ^ 16))))))))], [], ⟨[], false⟩, []⟩ trivial (by kernel_rfl) ?_
  refine WX.seq ?_
  refine WC.reg (n := 35) (by assumption) [] [0] [] ⟨[(0, .p (.s (.int .u64 ((IntKind.u64.wrap ((IntKind.u64.wrap ((IntKind.u64.wrap ((bits .and .u64 ((IntKind.u64.wrap ((((IntKind.u64.wrap ((bits .and .u64 ((((IntKind.u64.wrap ((bits .and .u64 ((a0.fdiv (2 ^ 1))) 6148914691236517205) + (bits .and .u64 a0 6148914691236517205)))).fdiv (2 ^ 2))) 3689348814741910323) + (bits .and .u64 ((IntKind.u64.wrap ((bits .and .u64 ((a0.fdiv (2 ^ 1))) 6148914691236517205) + (bits .and .u64 a0 6148914691236517205)))) 3689348814741910323)))).fdiv (2 ^ 4)) + (IntKind.u64.wrap ((bits .and .u64 ((((IntKind.u64.wrap ((bits .and .u64 ((a0.fdiv (2 ^ 1))) 6148914691236517205) + (bits .and .u64 a0 6148914691236517205)))).fdiv (2 ^ 2))) 3689348814741910323) + (bits .and .u64 ((IntKind.u64.wrap ((bits .and .u64 ((a0.fdiv (2 ^ 1))) 6148914691236517205) + (bits .and .u64 a0 6148914691236517205)))) 3689348814741910323)))))) 1085102592571150095) + (((bits .and .u64 ((IntKind.u64.wrap ((((IntKind.u64.wrap ((bits .and .u64 ((((IntKind.u64.wrap ((bits .and .u64 ((a0.fdiv (2 ^ 1))) 6148914691236517205) + (bits .and .u64 a0 6148914691236517205)))).fdiv (2 ^ 2))) 3689348814741910323) + (bits .and .u64 ((IntKind.u64.wrap ((bits .and .u64 ((a0.fdiv (2 ^ 1))) 6148914691236517205) + (bits .and .u64 a0 6148914691236517205)))) 3689348814741910323)))).fdiv (2 ^ 4)) + (IntKind.u64.wrap ((bits .and .u64 ((((IntKind.u64.wrap ((bits .and .u64 ((a0.fdiv (2 ^ 1))) 6148914691236517205) + (bits .and .u64 a0 6148914691236517205)))).fdiv (2 ^ 2))) 3689348814741910323) + (bits .and .u64 ((IntKind.u64.wrap ((bits .and .u64 ((a0.fdiv (2 ^ 1))) 6148914691236517205) + (bits .and .u64 a0 6148914691236517205)))) 3689348814741910323)))))) 1085102592571150095)).fdiv (2 ^ 8)))) + (((IntKind.u64.wrap ((bits .and .u64 ((IntKind.u64.wrap ((((IntKind.u64.wrap ((bits .and .u64 ((((IntKind.u64.wrap ((bits .and .u64 ((a0.fdiv (2 ^ 1))) 6148914691236517205) + (bits .and .u64 a0 6148914691236517205)))).fdiv (2 ^ 2))) 3689348814741910323) + (bits .and .u64 ((IntKind.u64.wrap ((bits .and .u64 ((a0.fdiv (2 ^ 1))) 6148914691236517205) + (bits .and .u64 a0 6148914691236517205)))) 3689348814741910323)))).fdiv (2 ^ 4)) + (IntKind.u64.wrap ((bits .and .u64 ((((IntKind.u64.wrap ((bits .and .u64 ((a0.fdiv (2 ^ 1))) 6148914691236517205) + (bits .and .u64 a0 6148914691236517205)))).fdiv (2 ^ 2))) 3689348814741910323) + (bits .and .u64 ((IntKind.u64.wrap ((bits .and .u64 ((a0.fdiv (2 ^ 1))) 6148914691236517205) + (bits .and .u64 a0 6148914691236517205)))) 3689348814741910323)))))) 1085102592571150095) + (((bits .and .u64 ((IntKind.u64.wrap ((((IntKind.u64.wrap ((bits .and .u64 ((((IntKind.u64.wrap ((bits .and .u64 ((a0.fdiv (2 ^ 1))) 6148914691236517205) + (bits .and .u64 a0 6148914691236517205)))).fdiv (2 ^ 2))) 3689348814741910323) + (bits .and .u64 ((IntKind.u64.wrap ((bits .and .u64 ((a0.fdiv (2 ^ 1))) 6148914691236517205) + (bits .and .u64 a0 6148914691236517205)))) 3689348814741910323)))).fdiv (2 ^ 4)) + (IntKind.u64.wrap ((bits .and .u64 ((((IntKind.u64.wrap ((bits .and .u64 ((a0.fdiv (2 ^ 1))) 6148914691236517205) + (bits .and .u64 a0 6148914691236517205)))).fdiv (2 ^ 2))) 3689348814741910323) + (bits .and .u64 ((IntKind.u64.wrap ((bits .and .u64 ((a0.fdiv (2 ^ 1))) 6148914691236517205) + (bits .and .u64 a0 6148914691236517205)))) 3689348814741910323)))))) 1085102592571150095)).fdiv (2 ^ 8))))).fdiv (2 ^ 16)))) + (((IntKind.u64.wrap ((IntKind.u64.wrap ((bits .and .u64 ((IntKind.u64.wrap ((((IntKind.u64.wrap ((bits .and .u64 ((((IntKind.u64.wrap ((bits .and .u64 ((a0.fdiv (2 ^ 1))) 6148914691236517205) + (bits .and .u64 a0 6148914691236517205)))).fdiv (2 ^ 2))) 3689348814741910323) + (bits .and .u64 ((IntKind.u64.wrap ((bits .and .u64 ((a0.fdiv (2 ^ 1))) 6148914691236517205) + (bits .and .u64 a0 6148914691236517205)))) 3689348814741910323)))).fdiv (2 ^ 4)) + (IntKind.u64.wrap ((bits .and .u64 ((((IntKind.u64.wrap ((bits .and .u64 ((a0.fdiv (2 ^ 1))) 6148914691236517205) + (bits .and .u64 a0 6148914691236517205)))).fdiv (2 ^ 2))) 3689348814741910323) + (bits .and .u64 ((IntKind.u64.wrap ((bits .and .u64 ((a0.fdiv (2 ^ 1))) 6148914691236517205) + (bits .and .u64 a0 6148914691236517205)))) 3689348814741910323)))))) 1085102592571150095) + (((bits .and .u64 ((IntKind.u64.wrap ((((IntKind.u64.wrap ((bits .and .u64 ((((IntKind.u64.wrap ((bits .and .u64 ((a0.fdiv (2 ^ 1))) 6148914691236517205) + (bits .and .u64 a0 6148914691236517205)))).fdiv (2 ^ 2))) 3689348814741910323) + (bits .and .u64 ((IntKind.u64.wrap ((bits .and .u64 ((a0.fdiv (2 ^ 1))) 6148914691236517205) + (bits .and .u64 a0 6148914691236517205)))) 3689348814741910323)))).fdiv (2 ^ 4)) + (IntKind.u64.wrap ((bits .and .u64 ((((IntKind.u64.wrap ((bits .and .u64 ((a0.fdiv (2 ^ 1))) 6148914691236517205) + (bits .and .u64 a0 6148914691236517205)))).fdiv (2 ^ 2))) 3689348814741910323) + (bits .and .u64 ((IntKind.u64.wrap ((bits .and .u64 ((a0.fdiv (2 ^ 1))) 6148914691236517205) + (bits .and .u64 a0 6148914691236517205)))) 3689348814741910323)))))) 1085102592571150095)).fdiv (2 ^ 8)))) + (((IntKind.u64.wrap ((bits .and .u64 ((IntKind.u64.wrap ((((IntKind.u64.wrap ((bits .and .u64 ((((IntKind.u64.wrap ((bits .and .u64 ((a0.fdiv (2 ^ 1))) 6148914691236517205) + (bits .and .u64 a0 6148914691236517205)))).fdiv (2 ^ 2))) 3689348814741910323) + (bits .and .u64 ((IntKind.u64.wrap ((bits .and .u64 ((a0.fdiv (2 ^ 1))) 6148914691236517205) + (bits .and .u64 a0 6148914691236517205)))) 3689348814741910323)))).fdiv (2 ^ 4)) + (IntKind.u64.wrap ((bits .and .u64 ((((IntKind.u64.wrap ((bits .and .u64 ((a0.fdiv (2 ^ 1))) 6148914691236517205) + (bits .and .u64 a0 6148914691236517205)))).fdiv (2 ^ 2))) 3689348814741910323) + (bits .and .u64 ((IntKind.u64.wrap ((bits .and .u64 ((a0.fdiv (2 ^ 1))) 6148914691236517205) + (bits .and .u64 a0 6148914691236517205)))) 3689348814741910323)))))) 1085102592571150095) + (((bits .and .u64 ((IntKind.u64.wrap ((((IntKind.u64.wrap ((bits .and .u64 ((((IntKind.u64.wrap ((bits .and .u64 ((a0.fdiv (2 ^ 1))) 6148914691236517205) + (bits .and .u64 a0 6148914691236517205)))).fdiv (2 ^ 2))) 3689348814741910323) + (bits .and .u64 ((IntKind.u64.wrap ((bits .and .u64 ((a0.fdiv (2 ^ 1))) 6148914691236517205) + (bits .and .u64 a0 6148914691236517205)))) 3689348814741910323)))).fdiv (2 ^ 4)) + (IntKind.u64.wrap ((bits .and .u64 ((((IntKind.u64.wrap ((bits .and .u64 ((a0.fdiv (2 ^ 1))) 6148914691236517205) + (bits .and .u64 a0 6148914691236517205)))).fdiv (2 ^ 2))) 3689348814741910323) + (bits .and .u64 ((IntKind.u64.wrap ((bits .and .u64 ((a0.fdiv (2 ^ 1))) 6148914691236517205) + (bits .and .u64 a0 6148914691236517205)))) 3689348814741910323)))))) 1085102592571150095)).fdiv (2 ^ 8))))).fdiv (2 ^ 16))))).fdiv (2 ^ 32))))))))], [], ⟨[], false⟩, []⟩ trivial (by kernel_rfl) ?_
  refine WX.seq ?_
  refine WC.reg (n := 35) (by assumption) [] [2] [] ⟨[(2, .p (.s (.int .i64 ((bits .and .i64 ((IntKind.i64.wrap ((IntKind.u64.wrap ((IntKind.u64.wrap ((IntKind.u64.wrap ((bits .and .u64 ((IntKind.u64.wrap ((((IntKind.u64.wrap ((bits .and .u64 ((((IntKind.u64.wrap ((bits .and .u64 ((a0.fdiv (2 ^ 1))) 6148914691236517205) + (bits .and .u64 a0 6148914691236517205)))).fdiv (2 ^ 2))) 3689348814741910323) + (bits .and .u64 ((IntKind.u64.wrap ((bits .and .u64 ((a0.fdiv (2 ^ 1))) 6148914691236517205) + (bits .and .u64 a0 6148914691236517205)))) 3689348814741910323)))).fdiv (2 ^ 4)) + (IntKind.u64.wrap ((bits .and .u64 ((((IntKind.u64.wrap ((bits .and .u64 ((a0.fdiv (2 ^ 1))) 6148914691236517205) + (bits .and .u64 a0 6148914691236517205)))).fdiv (2 ^ 2))) 3689348814741910323) + (bits .and .u64 ((IntKind.u64.wrap ((bits .and .u64 ((a0.fdiv (2 ^ 1))) 6148914691236517205) + (bits .and .u64 a0 6148914691236517205)))) 3689348814741910323)))))) 1085102592571150095) + (((bits .and .u64 ((IntKind.u64.wrap ((((IntKind.u64.wrap ((bits .and .u64 ((((IntKind.u64.wrap ((bits .and .u64 ((a0.fdiv (2 ^ 1))) 6148914691236517205) + (bits .and .u64 a0 6148914691236517205)))).fdiv (2 ^ 2))) 3689348814741910323) + (bits .and .u64 ((IntKind.u64.wrap ((bits .and .u64 ((a0.fdiv (2 ^ 1))) 6148914691236517205) + (bits .and .u64 a0 6148914691236517205)))) 3689348814741910323)))).fdiv (2 ^ 4)) + (IntKind.u64.wrap ((bits .and .u64 ((((IntKind.u64.wrap ((bits .and .u64 ((a0.fdiv (2 ^ 1))) 6148914691236517205) + (bits .and .u64 a0 6148914691236517205)))).fdiv (2 ^ 2))) 3689348814741910323) + (bits .and .u64 ((IntKind.u64.wrap ((bits .and .u64 ((a0.fdiv (2 ^ 1))) 6148914691236517205) + (bits .and .u64 a0 6148914691236517205)))) 3689348814741910323)))))) 1085102592571150095)).fdiv (2 ^ 8)))) + (((IntKind.u64.wrap ((bits .and .u64 ((IntKind.u64.wrap ((((IntKind.u64.wrap ((bits .and .u64 ((((IntKind.u64.wrap ((bits .and .u64 ((a0.fdiv (2 ^ 1))) 6148914691236517205) + (bits .and .u64 a0 6148914691236517205)))).fdiv (2 ^ 2))) 3689348814741910323) + (bits .and .u64 ((IntKind.u64.wrap ((bits .and .u64 ((a0.fdiv (2 ^ 1))) 6148914691236517205) + (bits .and .u64 a0 6148914691236517205)))) 3689348814741910323)))).fdiv (2 ^ 4)) + (IntKind.u64.wrap ((bits .and .u64 ((((IntKind.u64.wrap ((bits .and .u64 ((a0.fdiv (2 ^ 1))) 6148914691236517205) + (bits .and .u64 a0 6148914691236517205)))).fdiv (2 ^ 2))) 3689348814741910323) + (bits .and .u64 ((IntKind.u64.wrap ((bits .and .u64 ((a0.fdiv (2 ^ 1))) 6148914691236517205) + (bits .and .u64 a0 6148914691236517205)))) 3689348814741910323)))))) 1085102592571150095) + (((bits .and .u64 ((IntKind.u64.wrap ((((IntKind.u64.wrap ((bits .and .u64 ((((IntKind.u64.wrap ((bits .and .u64 ((a0.fdiv (2 ^ 1))) 6148914691236517205) + (bits .and .u64 a0 6148914691236517205)))).fdiv (2 ^ 2))) 3689348814741910323) + (bits .and .u64 ((IntKind.u64.wrap ((bits .and .u64 ((a0.fdiv (2 ^ 1))) 6148914691236517205) + (bits .and .u64 a0 6148914691236517205)))) 3689348814741910323)))).fdiv (2 ^ 4)) + (IntKind.u64.wrap ((bits .and .u64 ((((IntKind.u64.wrap ((bits .and .u64 ((a0.fdiv (2 ^ 1))) 6148914691236517205) + (bits .and .u64 a0 6148914691236517205)))).fdiv (2 ^ 2))) 3689348814741910323) + (bits .and .u64 ((IntKind.u64.wrap ((bits .and .u64 ((a0.fdiv (2 ^ 1))) 6148914691236517205) + (bits .and .u64 a0 6148914691236517205)))) 3689348814741910323)))))) 1085102592571150095)).fdiv (2 ^ 8))))).fdiv (2 ^ 16)))) + (((IntKind.u64.wrap ((IntKind.u64.wrap ((bits .and .u64 ((IntKind.u64.wrap ((((IntKind.u64.wrap ((bits .and .u64 ((((IntKind.u64.wrap ((bits .and .u64 ((a0.fdiv (2 ^ 1))) 6148914691236517205) + (bits .and .u64 a0 6148914691236517205)))).fdiv (2 ^ 2))) 3689348814741910323) + (bits .and .u64 ((IntKind.u64.wrap ((bits .and .u64 ((a0.fdiv (2 ^ 1))) 6148914691236517205) + (bits .and .u64 a0 6148914691236517205)))) 3689348814741910323)))).fdiv (2 ^ 4)) + (IntKind.u64.wrap ((bits .and .u64 ((((IntKind.u64.wrap ((bits .and .u64 ((a0.fdiv (2 ^ 1))) 6148914691236517205) + (bits .and .u64 a0 6148914691236517205)))).fdiv (2 ^ 2))) 3689348814741910323) + (bits .and .u64 ((IntKind.u64.wrap ((bits .and .u64 ((a0.fdiv (2 ^ 1))) 6148914691236517205) + (bits .and .u64 a0 6148914691236517205)))) 3689348814741910323)))))) 1085102592571150095) + (((bits .and .u64 ((IntKind.u64.wrap ((((IntKind.u64.wrap ((bits .and .u64 ((((IntKind.u64.wrap ((bits .and .u64 ((a0.fdiv (2 ^ 1))) 6148914691236517205) + (bits .and .u64 a0 6148914691236517205)))).fdiv (2 ^ 2))) 3689348814741910323) + (bits .and .u64 ((IntKind.u64.wrap ((bits .and .u64 ((a0.fdiv (2 ^ 1))) 6148914691236517205) + (bits .and .u64 a0 6148914691236517205)))) 3689348814741910323)))).fdiv (2 ^ 4)) + (IntKind.u64.wrap ((bits .and .u64 ((((IntKind.u64.wrap ((bits .and .u64 ((a0.fdiv (2 ^ 1))) 6148914691236517205) + (bits .and .u64 a0 6148914691236517205)))).fdiv (2 ^ 2))) 3689348814741910323) + (bits .and .u64 ((IntKind.u64.wrap ((bits .and .u64 ((a0.fdiv (2 ^ 1))) 6148914691236517205) + (bits .and .u64 a0 6148914691236517205)))) 3689348814741910323)))))) 1085102592571150095)).fdiv (2 ^ 8)))) + (((IntKind.u64.wrap ((bits .and .u64 ((IntKind.u64.wrap ((((IntKind.u64.wrap ((bits .and .u64 ((((IntKind.u64.wrap ((bits .and .u64 ((a0.fdiv (2 ^ 1))) 6148914691236517205) + (bits .and .u64 a0 6148914691236517205)))).fdiv (2 ^ 2))) 3689348814741910323) + (bits .and .u64 ((IntKind.u64.wrap ((bits .and .u64 ((a0.fdiv (2 ^ 1))) 6148914691236517205) + (bits .and .u64 a0 6148914691236517205)))) 3689348814741910323)))).fdiv (2 ^ 4)) + (IntKind.u64.wrap ((bits .and .u64 ((((IntKind.u64.wrap ((bits .and .u64 ((a0.fdiv (2 ^ 1))) 6148914691236517205) + (bits .and .u64 a0 6148914691236517205)))).fdiv (2 ^ 2))) 3689348814741910323) + (bits .and .u64 ((IntKind.u64.wrap ((bits .and .u64 ((a0.fdiv (2 ^ 1))) 6148914691236517205) + (bits .and .u64 a0 6148914691236517205)))) 3689348814741910323)))))) 1085102592571150095) + (((bits .and .u64 ((IntKind.u64.wrap ((((IntKind.u64.wrap ((bits .and .u64 ((((IntKind.u64.wrap ((bits .and .u64 ((a0.fdiv (2 ^ 1))) 6148914691236517205) + (bits .and .u64 a0 6148914691236517205)))).fdiv (2 ^ 2))) 3689348814741910323) + (bits .and .u64 ((IntKind.u64.wrap ((bits .and .u64 ((a0.fdiv (2 ^ 1))) 6148914691236517205) + (bits .and .u64 a0 6148914691236517205)))) 3689348814741910323)))).fdiv (2 ^ 4)) + (IntKind.u64.wrap ((bits .and .u64 ((((IntKind.u64.wrap ((bits .and .u64 ((a0.fdiv (2 ^ 1))) 6148914691236517205) + (bits .and .u64 a0 6148914691236517205)))).fdiv (2 ^ 2))) 3689348814741910323) + (bits .and .u64 ((IntKind.u64.wrap ((bits .and .u64 ((a0.fdiv (2 ^ 1))) 6148914691236517205) + (bits .and .u64 a0 6148914691236517205)))) 3689348814741910323)))))) 1085102592571150095)).fdiv (2 ^ 8))))).fdiv (2 ^ 16))))).fdiv (2 ^ 32))))))) 127)))))], [], ⟨[], false⟩, []⟩ trivial (by kernel_rfl) ?_
  refine WX.ret ?_
  exact WC.outP (by rw [← Option.some.inj h]; kernel_rfl)
def bits_Count_l0 (t3_2 : api_Bits) (J4 : Int → Option (Int)) : Nat → (Int × Int) → Option (Int)
  | 0, _ => none
  | k + 1, (x17_1_1, x17_1_2) => (if (decide (x17_1_2 < (t3_2.Words.length : Int))) = true then (at_ t3_2.Words x17_1_2).bind fun t30_2 => (bits_OnesCount64 t30_2).bind fun t31_2 => bits_Count_l0 t3_2 J4 k ((IntKind.i64.wrap (x17_1_1 + t31_2)), (IntKind.i64.wrap (x17_1_2 + 1))) else J4 x17_1_1)
def bits_Count (k : Nat) (a0 : api_Bits) : Option (Int) :=
  (bits_own a0).bind fun t3_2 => jn (fun (v4 : Int) => some v4) fun J4 => bits_Count_l0 t3_2 J4 k (0, 0)
theorem bits_Count_ok {k : Nat} {a0 : api_Bits} {r : Int} (h : bits_Count k a0 = some r) : Ans Tryd.prog 41 [.agg [.s (.int .i64 a0.N), slV (eI .u64) a0.Words]] (.s (.int .i64 r)) := by
  refine W_fn Tryd.func41 rfl (by kernel_rfl) (by kernel_rfl) ?_
  intro X hro hn
  unfold bits_Count at h
  refine WX.seq ?_
  refine WC.reg (n := 20) (by assumption) [] [1] [1] ⟨[(1, .ptr 1 0)], [(1, .box 27 [.p (.s (.int .i64 a0.N)), .p (slV (eI .u64) a0.Words)])], ⟨[], false⟩, []⟩ trivial (by kernel_rfl) ?_
  refine WX.seq ?_
  refine WC.reg (n := 20) (by assumption) [] [1, 3] [1] ⟨[(1, .ptr 1 0), (3, .p (.s (.int .i64 0)))], [(1, .box 27 [.p (.s (.int .i64 a0.N)), .p (slV (eI .u64) a0.Words)])], ⟨[], false⟩, []⟩ trivial (by kernel_rfl) ?_
  refine WX.seq ?_
  refine WX.seq ?_
  obtain ⟨t3_2, h3_1, h⟩ := bind_some h
  refine WC.reg (n := 20) (by assumption) [(1, .co [] [] [] [(7, rowV 51 (eI .u64) t3_2.Words)] (.agg [.p (.s (.int .i64 t3_2.N)), .own 7]))] [3, 8, 9, 10] [7] ⟨[(3, .p (.s (.int .i64 0))), (8, .own 7), (9, .p (.s (.int .i64 ((t3_2.Words.length : Int))))), (10, .p (.s (.int .i64 0)))], [(7, rowV 51 (eI .u64) t3_2.Words)], ⟨[], false⟩, []⟩ (And.intro (And.intro ((bits_own_ok h3_1).ren 9 7 (by kernel_rfl)) (trivial)) (trivial)) (by kernel_rfl) ?_
  obtain ⟨J4, eJ4, h⟩ := jn_some h
  try dsimp only at h
  refine WC.join (α := Int) (fun v4 => ⟨[(3, .p (.s (.int .i64 v4)))], [], ⟨[], false⟩, []⟩) (fun v4 => J4 v4 = some r) ?_ (fun hJ4 => ?_)
  · rintro y4_1 h
    rw [eJ4] at h
    try dsimp only at h
    refine WX.seq ?_
    refine WC.reg (n := 20) (by assumption) [] [2] [] ⟨[(2, .p (.s (.int .i64 y4_1)))], [], ⟨[], false⟩, []⟩ trivial (by kernel_rfl) ?_
    refine WX.ret ?_
    exact WC.outP (by rw [← Option.some.inj h]; kernel_rfl)
  · replace hJ4 := fun y4_1 => hJ4 y4_1
    refine WX.block ?_
    refine WC.loop (V := Int × Int) (bits_Count_l0 t3_2 J4) r (fun v17 => ⟨[(3, .p (.s (.int .i64 v17.1))), (8, .own 7), (9, .p (.s (.int .i64 ((t3_2.Words.length : Int))))), (10, .p (.s (.int .i64 v17.2)))], [(7, rowV 51 (eI .u64) t3_2.Words)], ⟨[], false⟩, []⟩) _ (0, 0) h (fun _ => rfl) [3, 8, 9, 10] [7] (by kernel_rfl) ?_
    clear h; rintro k ⟨x17_1_1, x17_1_2⟩ h K17 hnext17 hexit17
    rw [bits_Count_l0] at h
    refine WX.seq ?_
    refine WC.reg (n := 20) (by assumption) [] [3, 8, 9, 10, 11] [7] ⟨[(3, .p (.s (.int .i64 x17_1_1))), (8, .own 7), (9, .p (.s (.int .i64 ((t3_2.Words.length : Int))))), (10, .p (.s (.int .i64 x17_1_2))), (11, .p (.s (.bool ((decide (x17_1_2 < (t3_2.Words.length : Int)))))))], [(7, rowV 51 (eI .u64) t3_2.Words)], ⟨[], false⟩, []⟩ trivial (by kernel_rfl) ?_
    refine WX.seq ?_
    rcases if_or h with ⟨c29, h⟩ | ⟨c29, h⟩
    · refine WC.condT c29 (by kernel_rfl) ?_
      refine WX.skip ?_
      refine WX.seq ?_
      refine WX.block ?_
      refine WX.seq ?_
      obtain ⟨t30_2, h30_1, h⟩ := bind_some h
      refine WC.reg (n := 20) (by assumption) [(0, .val (.ptr 7 (x17_1_2.toNat * 1))), (1, .val (.p (.s (.int .u64 t30_2))))] [3, 5, 8, 9, 10] [7] ⟨[(3, .p (.s (.int .i64 x17_1_1))), (5, .p (.s (.int .u64 t30_2))), (8, .own 7), (9, .p (.s (.int .i64 ((t3_2.Words.length : Int))))), (10, .p (.s (.int .i64 x17_1_2)))], [(7, rowV 51 (eI .u64) t3_2.Words)], ⟨[], false⟩, []⟩ (And.intro (IxO 7 1 h30_1) (And.intro (LdO0 Tryd.prog (eI .u64) 51 h30_1) (trivial))) (by kernel_rfl) ?_
      obtain ⟨t31_2, h31_1, h⟩ := bind_some h
      refine WC.reg (n := 20) (by assumption) [(2, .resP (.s (.int .i64 t31_2)))] [3, 8, 9, 10] [7] ⟨[(3, .p (.s (.int .i64 ((IntKind.i64.wrap (x17_1_1 + t31_2)))))), (8, .own 7), (9, .p (.s (.int .i64 ((t3_2.Words.length : Int))))), (10, .p (.s (.int .i64 x17_1_2)))], [(7, rowV 51 (eI .u64) t3_2.Words)], ⟨[], false⟩, []⟩ (And.intro ((bits_OnesCount64_ok h31_1)) (trivial)) (by kernel_rfl) ?_
      refine WX.popBlk ?_
      refine WC.reg (n := 20) (by assumption) [] [3, 8, 9, 10] [7] ⟨[(3, .p (.s (.int .i64 ((IntKind.i64.wrap (x17_1_1 + t31_2)))))), (8, .own 7), (9, .p (.s (.int .i64 ((t3_2.Words.length : Int))))), (10, .p (.s (.int .i64 ((IntKind.i64.wrap (x17_1_2 + 1))))))], [(7, rowV 51 (eI .u64) t3_2.Words)], ⟨[], false⟩, []⟩ trivial (by kernel_rfl) ?_
      exact WC.next [3, 8, 9, 10] [7] (by kernel_rfl) (hnext17 ((IntKind.i64.wrap (x17_1_1 + t31_2)), (IntKind.i64.wrap (x17_1_2 + 1))) h)
    · refine WC.condF c29 (by kernel_rfl) ?_
      refine WX.exit ?_
      refine WX.popCodeExit ?_
      refine WC.exit_nil (hexit17 _ _ (by simp) ?_)
      refine WX.popBlkHit ?_
      exact WC.keep [3] [] (by kernel_rfl) (hJ4 x17_1_1 h)
def riddlelaw01_BitsTell (k : Nat) (a0 : api_Bits) (a1 : Int) : Option (Bool) :=
  (riddlelaw01_live k).bind fun t2_2 => (if (!t2_2) = true then some false else (riddleref01_List k a0).bind fun t5_2 => (bits_First k a0 a1).bind fun t6_2 => (riddleref01_First k a0 a1).bind fun t7_2 => (bits_Last k a0).bind fun t8_2 => ((if (t8_2.2 != (decide ((t5_2.length : Int) > 0))) = true then some true else (if t8_2.2 = true then (at_ t5_2 ((IntKind.i64.wrap ((t5_2.length : Int) - 1)))).bind fun t9_2 => (if (t8_2.1 != t9_2) = true then some true else (if (!t8_2.2) = true then some ((t8_2.1 != 0)) else some false)) else (if (!t8_2.2) = true then some ((t8_2.1 != 0)) else some false))) : Option (Bool)).bind fun v9 => (if v9 = true then some false else (bits_Shift k a0 a1).bind fun t12_2 => (riddleref01_Shift k a0 a1).bind fun t12_4 => (riddleref01_Exact k t12_2 t12_4).bind fun t12_6 => ((if t12_6 = true then (riddlelaw01_all k a0).bind fun t12_8 => (slices_Equal_int_int k t12_8 t5_2).bind fun t12_10 => (if t12_10 = true then (bits_Count k a0).bind fun t12_12 => (if (t12_12 == (t5_2.length : Int)) = true then (if (t6_2.1 == t7_2.1) = true then some ((t6_2.2 == t7_2.2)) else some false) else some false) else some false) else some false) : Option (Bool)).bind fun v12 => some v12))
theorem riddlelaw01_BitsTell_ok {k : Nat} {a0 : api_Bits} {a1 : Int} {r : Bool} (h : riddlelaw01_BitsTell k a0 a1 = some r) : Ans Tryd.prog 8 [.agg [.s (.int .i64 a0.N), slV (eI .u64) a0.Words], .s (.int .i64 a1)] (.s (.bool r)) := by
  refine W_fn Tryd.func8 rfl (by kernel_rfl) (by kernel_rfl) ?_
  intro X hro hn
  unfold riddlelaw01_BitsTell at h
  refine WX.seq ?_
  refine WC.reg (n := 89) (by assumption) [] [1, 2] [2] ⟨[(1, .p (.s (.int .i64 a1))), (2, .ptr 2 0)], [(2, .box 27 [.p (.s (.int .i64 a0.N)), .p (slV (eI .u64) a0.Words)])], ⟨[], false⟩, []⟩ trivial (by kernel_rfl) ?_
  refine WX.seq ?_
  refine WX.seq ?_
  obtain ⟨t2_2, h2_1, h⟩ := bind_some h
  refine WC.reg (n := 89) (by assumption) [(0, .resP (.s (.bool t2_2)))] [1, 2, 13] [2] ⟨[(1, .p (.s (.int .i64 a1))), (2, .ptr 2 0), (13, .p (.s (.bool ((!t2_2)))))], [(2, .box 27 [.p (.s (.int .i64 a0.N)), .p (slV (eI .u64) a0.Words)])], ⟨[], false⟩, []⟩ (And.intro ((riddlelaw01_live_ok h2_1)) (trivial)) (by kernel_rfl) ?_
  rcases if_or h with ⟨c3, h⟩ | ⟨c3, h⟩
  · refine WC.condT c3 (by kernel_rfl) ?_
    refine WX.seq ?_
    refine WC.reg (n := 89) (by assumption) [] [4] [] ⟨[(4, .p (.s (.bool false)))], [], ⟨[], false⟩, []⟩ trivial (by kernel_rfl) ?_
    refine WX.ret ?_
    exact WC.outP (by rw [← Option.some.inj h]; kernel_rfl)
  · refine WC.condF c3 (by kernel_rfl) ?_
    refine WX.skip ?_
    refine WX.seq ?_
    obtain ⟨t5_2, h5_1, h⟩ := bind_some h
    refine WC.reg (n := 89) (by assumption) [(1, .co [] [] [] [(15, rowV 3 (eI .i64) t5_2)] (.own 15))] [1, 2, 5] [2, 15] ⟨[(1, .p (.s (.int .i64 a1))), (2, .ptr 2 0), (5, .own 15)], [(2, .box 27 [.p (.s (.int .i64 a0.N)), .p (slV (eI .u64) a0.Words)]), (15, rowV 3 (eI .i64) t5_2)], ⟨[], false⟩, []⟩ (And.intro (And.intro ((riddleref01_List_ok h5_1).ren 18 15 (by kernel_rfl)) (trivial)) (trivial)) (by kernel_rfl) ?_
    refine WX.seq ?_
    obtain ⟨t6_2, h6_1, h⟩ := bind_some h
    refine WC.reg (n := 89) (by assumption) [(2, .resP (.tup [.s (.int .i64 t6_2.1), .s (.bool t6_2.2)]))] [1, 2, 5, 6, 7] [2, 15] ⟨[(1, .p (.s (.int .i64 a1))), (2, .ptr 2 0), (5, .own 15), (6, .p (.s (.int .i64 t6_2.1))), (7, .p (.s (.bool t6_2.2)))], [(2, .box 27 [.p (.s (.int .i64 a0.N)), .p (slV (eI .u64) a0.Words)]), (15, rowV 3 (eI .i64) t5_2)], ⟨[], false⟩, []⟩ (And.intro ((bits_First_ok h6_1)) (trivial)) (by kernel_rfl) ?_
    refine WX.seq ?_
    obtain ⟨t7_2, h7_1, h⟩ := bind_some h
    refine WC.reg (n := 89) (by assumption) [(2, .resP (.tup [.s (.int .i64 t7_2.1), .s (.bool t7_2.2)]))] [1, 2, 5, 6, 7, 8, 9] [2, 15] ⟨[(1, .p (.s (.int .i64 a1))), (2, .ptr 2 0), (5, .own 15), (6, .p (.s (.int .i64 t6_2.1))), (7, .p (.s (.bool t6_2.2))), (8, .p (.s (.int .i64 t7_2.1))), (9, .p (.s (.bool t7_2.2)))], [(2, .box 27 [.p (.s (.int .i64 a0.N)), .p (slV (eI .u64) a0.Words)]), (15, rowV 3 (eI .i64) t5_2)], ⟨[], false⟩, []⟩ (And.intro ((riddleref01_First_ok h7_1)) (trivial)) (by kernel_rfl) ?_
    refine WX.seq ?_
    obtain ⟨t8_2, h8_1, h⟩ := bind_some h
    refine WC.reg (n := 89) (by assumption) [(1, .resP (.tup [.s (.int .i64 t8_2.1), .s (.bool t8_2.2)]))] [1, 2, 5, 6, 7, 8, 9, 10, 11] [2, 15] ⟨[(1, .p (.s (.int .i64 a1))), (2, .ptr 2 0), (5, .own 15), (6, .p (.s (.int .i64 t6_2.1))), (7, .p (.s (.bool t6_2.2))), (8, .p (.s (.int .i64 t7_2.1))), (9, .p (.s (.bool t7_2.2))), (10, .p (.s (.int .i64 t8_2.1))), (11, .p (.s (.bool t8_2.2)))], [(2, .box 27 [.p (.s (.int .i64 a0.N)), .p (slV (eI .u64) a0.Words)]), (15, rowV 3 (eI .i64) t5_2)], ⟨[], false⟩, []⟩ (And.intro ((bits_Last_ok h8_1)) (trivial)) (by kernel_rfl) ?_
    refine WX.seq ?_
    refine WX.seq ?_
    obtain ⟨m9_1, g9, h⟩ := bind_some h
    refine WC.via (α := Bool) (fun v9 => ⟨[(1, .p (.s (.int .i64 a1))), (2, .ptr 2 0), (5, .own 15), (6, .p (.s (.int .i64 t6_2.1))), (7, .p (.s (.bool t6_2.2))), (8, .p (.s (.int .i64 t7_2.1))), (9, .p (.s (.bool t7_2.2))), (58, .p (.s (.bool v9)))], [(2, .box 27 [.p (.s (.int .i64 a0.N)), .p (slV (eI .u64) a0.Words)]), (15, rowV 3 (eI .i64) t5_2)], ⟨[], false⟩, []⟩) m9_1 (fun hk => ?_) ?_
    · rcases if_or g9 with ⟨b9_5, g9⟩ | ⟨b9_5, g9⟩
      · exact WC.reg (n := 89) (by assumption) [(5, .val (.p (.s (.bool true))))] [1, 2, 5, 6, 7, 8, 9, 58] [2, 15] ⟨[(1, .p (.s (.int .i64 a1))), (2, .ptr 2 0), (5, .own 15), (6, .p (.s (.int .i64 t6_2.1))), (7, .p (.s (.bool t6_2.2))), (8, .p (.s (.int .i64 t7_2.1))), (9, .p (.s (.bool t7_2.2))), (58, .p (.s (.bool true)))], [(2, .box 27 [.p (.s (.int .i64 a0.N)), .p (slV (eI .u64) a0.Words)]), (15, rowV 3 (eI .i64) t5_2)], ⟨[], false⟩, []⟩ (And.intro (Bl b9_5) (trivial)) (by kernel_rfl) (hk true (Option.some.inj g9))
      · rcases if_or g9 with ⟨b9_7, g9⟩ | ⟨b9_7, g9⟩
        · obtain ⟨t9_2, h9_1, g9⟩ := bind_some g9
          rcases if_or g9 with ⟨b9_18, g9⟩ | ⟨b9_18, g9⟩
          · exact WC.reg (n := 89) (by assumption) [(5, .val (.p (.s (.bool false)))), (7, .val (.p (.s (.bool true)))), (13, .val (.ptr 15 (((IntKind.i64.wrap ((t5_2.length : Int) - 1))).toNat * 1))), (14, .val (.p (.s (.int .i64 t9_2)))), (18, .val (.p (.s (.bool true))))] [1, 2, 5, 6, 7, 8, 9, 58] [2, 15] ⟨[(1, .p (.s (.int .i64 a1))), (2, .ptr 2 0), (5, .own 15), (6, .p (.s (.int .i64 t6_2.1))), (7, .p (.s (.bool t6_2.2))), (8, .p (.s (.int .i64 t7_2.1))), (9, .p (.s (.bool t7_2.2))), (58, .p (.s (.bool true)))], [(2, .box 27 [.p (.s (.int .i64 a0.N)), .p (slV (eI .u64) a0.Words)]), (15, rowV 3 (eI .i64) t5_2)], ⟨[], false⟩, []⟩ (And.intro (Bl b9_5) (And.intro (Bl b9_7) (And.intro (IxO 15 1 h9_1) (And.intro (LdO0 Tryd.prog (eI .i64) 3 h9_1) (And.intro (Bl b9_18) (trivial)))))) (by kernel_rfl) (hk true (Option.some.inj g9))
          · rcases if_or g9 with ⟨b9_21, g9⟩ | ⟨b9_21, g9⟩
            · exact WC.reg (n := 89) (by assumption) [(5, .val (.p (.s (.bool false)))), (7, .val (.p (.s (.bool true)))), (13, .val (.ptr 15 (((IntKind.i64.wrap ((t5_2.length : Int) - 1))).toNat * 1))), (14, .val (.p (.s (.int .i64 t9_2)))), (18, .val (.p (.s (.bool false)))), (21, .val (.p (.s (.bool true))))] [1, 2, 5, 6, 7, 8, 9, 58] [2, 15] ⟨[(1, .p (.s (.int .i64 a1))), (2, .ptr 2 0), (5, .own 15), (6, .p (.s (.int .i64 t6_2.1))), (7, .p (.s (.bool t6_2.2))), (8, .p (.s (.int .i64 t7_2.1))), (9, .p (.s (.bool t7_2.2))), (58, .p (.s (.bool ((t8_2.1 != 0)))))], [(2, .box 27 [.p (.s (.int .i64 a0.N)), .p (slV (eI .u64) a0.Words)]), (15, rowV 3 (eI .i64) t5_2)], ⟨[], false⟩, []⟩ (And.intro (Bl b9_5) (And.intro (Bl b9_7) (And.intro (IxO 15 1 h9_1) (And.intro (LdO0 Tryd.prog (eI .i64) 3 h9_1) (And.intro (Bl b9_18) (And.intro (Bl b9_21) (trivial))))))) (by kernel_rfl) (hk ((t8_2.1 != 0)) (Option.some.inj g9))
            · exact WC.reg (n := 89) (by assumption) [(5, .val (.p (.s (.bool false)))), (7, .val (.p (.s (.bool true)))), (13, .val (.ptr 15 (((IntKind.i64.wrap ((t5_2.length : Int) - 1))).toNat * 1))), (14, .val (.p (.s (.int .i64 t9_2)))), (18, .val (.p (.s (.bool false)))), (21, .val (.p (.s (.bool false))))] [1, 2, 5, 6, 7, 8, 9, 58] [2, 15] ⟨[(1, .p (.s (.int .i64 a1))), (2, .ptr 2 0), (5, .own 15), (6, .p (.s (.int .i64 t6_2.1))), (7, .p (.s (.bool t6_2.2))), (8, .p (.s (.int .i64 t7_2.1))), (9, .p (.s (.bool t7_2.2))), (58, .p (.s (.bool false)))], [(2, .box 27 [.p (.s (.int .i64 a0.N)), .p (slV (eI .u64) a0.Words)]), (15, rowV 3 (eI .i64) t5_2)], ⟨[], false⟩, []⟩ (And.intro (Bl b9_5) (And.intro (Bl b9_7) (And.intro (IxO 15 1 h9_1) (And.intro (LdO0 Tryd.prog (eI .i64) 3 h9_1) (And.intro (Bl b9_18) (And.intro (Bl b9_21) (trivial))))))) (by kernel_rfl) (hk false (Option.some.inj g9))
        · rcases if_or g9 with ⟨b9_21, g9⟩ | ⟨b9_21, g9⟩
          · exact WC.reg (n := 89) (by assumption) [(5, .val (.p (.s (.bool false)))), (7, .val (.p (.s (.bool false)))), (21, .val (.p (.s (.bool true))))] [1, 2, 5, 6, 7, 8, 9, 58] [2, 15] ⟨[(1, .p (.s (.int .i64 a1))), (2, .ptr 2 0), (5, .own 15), (6, .p (.s (.int .i64 t6_2.1))), (7, .p (.s (.bool t6_2.2))), (8, .p (.s (.int .i64 t7_2.1))), (9, .p (.s (.bool t7_2.2))), (58, .p (.s (.bool ((t8_2.1 != 0)))))], [(2, .box 27 [.p (.s (.int .i64 a0.N)), .p (slV (eI .u64) a0.Words)]), (15, rowV 3 (eI .i64) t5_2)], ⟨[], false⟩, []⟩ (And.intro (Bl b9_5) (And.intro (Bl b9_7) (And.intro (Bl b9_21) (trivial)))) (by kernel_rfl) (hk ((t8_2.1 != 0)) (Option.some.inj g9))
          · exact WC.reg (n := 89) (by assumption) [(5, .val (.p (.s (.bool false)))), (7, .val (.p (.s (.bool false)))), (21, .val (.p (.s (.bool false))))] [1, 2, 5, 6, 7, 8, 9, 58] [2, 15] ⟨[(1, .p (.s (.int .i64 a1))), (2, .ptr 2 0), (5, .own 15), (6, .p (.s (.int .i64 t6_2.1))), (7, .p (.s (.bool t6_2.2))), (8, .p (.s (.int .i64 t7_2.1))), (9, .p (.s (.bool t7_2.2))), (58, .p (.s (.bool false)))], [(2, .box 27 [.p (.s (.int .i64 a0.N)), .p (slV (eI .u64) a0.Words)]), (15, rowV 3 (eI .i64) t5_2)], ⟨[], false⟩, []⟩ (And.intro (Bl b9_5) (And.intro (Bl b9_7) (And.intro (Bl b9_21) (trivial)))) (by kernel_rfl) (hk false (Option.some.inj g9))
    rcases if_or h with ⟨c10, h⟩ | ⟨c10, h⟩
    · refine WC.condT c10 (by kernel_rfl) ?_
      refine WX.seq ?_
      refine WC.reg (n := 89) (by assumption) [] [4] [] ⟨[(4, .p (.s (.bool false)))], [], ⟨[], false⟩, []⟩ trivial (by kernel_rfl) ?_
      refine WX.ret ?_
      exact WC.outP (by rw [← Option.some.inj h]; kernel_rfl)
    · refine WC.condF c10 (by kernel_rfl) ?_
      refine WX.skip ?_
      refine WX.seq ?_
      obtain ⟨t12_2, h12_1, h⟩ := bind_some h
      obtain ⟨t12_4, h12_3, h⟩ := bind_some h
      obtain ⟨t12_6, h12_5, h⟩ := bind_some h
      obtain ⟨m12_1, g12, h⟩ := bind_some h
      refine WC.via (α := Bool) (fun v12 => ⟨[(4, .p (.s (.bool v12)))], [], ⟨[], false⟩, []⟩) m12_1 (fun hk => ?_) ?_
      · rcases if_or g12 with ⟨b12_7, g12⟩ | ⟨b12_7, g12⟩
        · obtain ⟨t12_8, h12_7, g12⟩ := bind_some g12
          obtain ⟨t12_10, h12_9, g12⟩ := bind_some g12
          rcases if_or g12 with ⟨b12_13, g12⟩ | ⟨b12_13, g12⟩
          · obtain ⟨t12_12, h12_11, g12⟩ := bind_some g12
            rcases if_or g12 with ⟨b12_20, g12⟩ | ⟨b12_20, g12⟩
            · rcases if_or g12 with ⟨b12_25, g12⟩ | ⟨b12_25, g12⟩
              · exact WC.drw (n := 89) (by assumption) [] [] [(2, .resP (.agg [.s (.int .i64 t12_2.N), slV (eI .u64) t12_2.Words])), (5, .resP (.agg [.s (.int .i64 t12_4.N), slV (eI .u64) t12_4.Words])), (6, .resP (.s (.bool t12_6))), (7, .val (.p (.s (.bool true)))), (9, .resP (slV (eI .i64) t12_8)), (11, .res (.s (.bool t12_10))), (13, .val (.p (.s (.bool true)))), (15, .resP (.s (.int .i64 t12_12))), (20, .val (.p (.s (.bool true)))), (25, .val (.p (.s (.bool true))))] [4] [] ⟨[(4, .p (.s (.bool ((t6_2.2 == t7_2.2)))))], [], ⟨[], false⟩, []⟩ (And.intro ((bits_Shift_okP h12_1)) (And.intro ((riddleref01_Shift_okP h12_3)) (And.intro ((riddleref01_Exact_ok h12_5)) (And.intro (Bl b12_7) (And.intro ((riddlelaw01_all_okP h12_7)) (And.intro (And.intro (slices_Equal_int_int_ok h12_9) (rfl : (.s (.bool t12_10) : PV).flat = true)) (And.intro (Bl b12_13) (And.intro ((bits_Count_ok h12_11)) (And.intro (Bl b12_20) (And.intro (Bl b12_25) (trivial))))))))))) (by kernel_rfl) (by kernel_rfl) (by kernel_rfl) (by kernel_rfl) (hk ((t6_2.2 == t7_2.2)) (Option.some.inj g12))
              · exact WC.drw (n := 89) (by assumption) [] [] [(2, .resP (.agg [.s (.int .i64 t12_2.N), slV (eI .u64) t12_2.Words])), (5, .resP (.agg [.s (.int .i64 t12_4.N), slV (eI .u64) t12_4.Words])), (6, .resP (.s (.bool t12_6))), (7, .val (.p (.s (.bool true)))), (9, .resP (slV (eI .i64) t12_8)), (11, .res (.s (.bool t12_10))), (13, .val (.p (.s (.bool true)))), (15, .resP (.s (.int .i64 t12_12))), (20, .val (.p (.s (.bool true)))), (25, .val (.p (.s (.bool false))))] [4] [] ⟨[(4, .p (.s (.bool false)))], [], ⟨[], false⟩, []⟩ (And.intro ((bits_Shift_okP h12_1)) (And.intro ((riddleref01_Shift_okP h12_3)) (And.intro ((riddleref01_Exact_ok h12_5)) (And.intro (Bl b12_7) (And.intro ((riddlelaw01_all_okP h12_7)) (And.intro (And.intro (slices_Equal_int_int_ok h12_9) (rfl : (.s (.bool t12_10) : PV).flat = true)) (And.intro (Bl b12_13) (And.intro ((bits_Count_ok h12_11)) (And.intro (Bl b12_20) (And.intro (Bl b12_25) (trivial))))))))))) (by kernel_rfl) (by kernel_rfl) (by kernel_rfl) (by kernel_rfl) (hk false (Option.some.inj g12))
            · exact WC.drw (n := 89) (by assumption) [] [] [(2, .resP (.agg [.s (.int .i64 t12_2.N), slV (eI .u64) t12_2.Words])), (5, .resP (.agg [.s (.int .i64 t12_4.N), slV (eI .u64) t12_4.Words])), (6, .resP (.s (.bool t12_6))), (7, .val (.p (.s (.bool true)))), (9, .resP (slV (eI .i64) t12_8)), (11, .res (.s (.bool t12_10))), (13, .val (.p (.s (.bool true)))), (15, .resP (.s (.int .i64 t12_12))), (20, .val (.p (.s (.bool false))))] [4] [] ⟨[(4, .p (.s (.bool false)))], [], ⟨[], false⟩, []⟩ (And.intro ((bits_Shift_okP h12_1)) (And.intro ((riddleref01_Shift_okP h12_3)) (And.intro ((riddleref01_Exact_ok h12_5)) (And.intro (Bl b12_7) (And.intro ((riddlelaw01_all_okP h12_7)) (And.intro (And.intro (slices_Equal_int_int_ok h12_9) (rfl : (.s (.bool t12_10) : PV).flat = true)) (And.intro (Bl b12_13) (And.intro ((bits_Count_ok h12_11)) (And.intro (Bl b12_20) (trivial)))))))))) (by kernel_rfl) (by kernel_rfl) (by kernel_rfl) (by kernel_rfl) (hk false (Option.some.inj g12))
          · exact WC.drw (n := 89) (by assumption) [] [] [(2, .resP (.agg [.s (.int .i64 t12_2.N), slV (eI .u64) t12_2.Words])), (5, .resP (.agg [.s (.int .i64 t12_4.N), slV (eI .u64) t12_4.Words])), (6, .resP (.s (.bool t12_6))), (7, .val (.p (.s (.bool true)))), (9, .resP (slV (eI .i64) t12_8)), (11, .res (.s (.bool t12_10))), (13, .val (.p (.s (.bool false))))] [4] [] ⟨[(4, .p (.s (.bool false)))], [], ⟨[], false⟩, []⟩ (And.intro ((bits_Shift_okP h12_1)) (And.intro ((riddleref01_Shift_okP h12_3)) (And.intro ((riddleref01_Exact_ok h12_5)) (And.intro (Bl b12_7) (And.intro ((riddlelaw01_all_okP h12_7)) (And.intro (And.intro (slices_Equal_int_int_ok h12_9) (rfl : (.s (.bool t12_10) : PV).flat = true)) (And.intro (Bl b12_13) (trivial)))))))) (by kernel_rfl) (by kernel_rfl) (by kernel_rfl) (by kernel_rfl) (hk false (Option.some.inj g12))
        · exact WC.drw (n := 89) (by assumption) [] [] [(2, .resP (.agg [.s (.int .i64 t12_2.N), slV (eI .u64) t12_2.Words])), (5, .resP (.agg [.s (.int .i64 t12_4.N), slV (eI .u64) t12_4.Words])), (6, .resP (.s (.bool t12_6))), (7, .val (.p (.s (.bool false))))] [4] [] ⟨[(4, .p (.s (.bool false)))], [], ⟨[], false⟩, []⟩ (And.intro ((bits_Shift_okP h12_1)) (And.intro ((riddleref01_Shift_okP h12_3)) (And.intro ((riddleref01_Exact_ok h12_5)) (And.intro (Bl b12_7) (trivial))))) (by kernel_rfl) (by kernel_rfl) (by kernel_rfl) (by kernel_rfl) (hk false (Option.some.inj g12))
      refine WX.ret ?_
      exact WC.outP (by rw [← Option.some.inj h]; kernel_rfl)
end Go.Proofs.YthjncgigdkdepaaDoor
