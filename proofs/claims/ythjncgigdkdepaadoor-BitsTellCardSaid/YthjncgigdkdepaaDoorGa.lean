/- YthjncgigdkdepaaDoorGa: a part of the proof; see the last text for what is proved. -/
import Derived.Test.YthjncgigdkdepaaDoorAaIter
import Derived.Test.YthjncgigdkdepaaDoorProg
import Derived.KernelRfl
set_option maxRecDepth 100000
set_option linter.unusedVariables false
set_option linter.unusedSimpArgs false
namespace Go.Proofs.YthjncgigdkdepaaDoor
open Go.AE
def tab0 : List Int := [0, 1, 56, 2, 57, 49, 28, 3, 61, 58, 42, 50, 38, 29, 17, 4, 62, 47, 59, 36, 45, 43, 51, 22, 53, 39, 33, 30, 24, 18, 12, 5, 63, 55, 48, 27, 60, 41, 37, 16, 46, 35, 44, 21, 52, 32, 23, 11, 54, 26, 40, 15, 34, 20, 31, 10, 25, 14, 19, 9, 13, 8, 7, 6]
structure S7 where
  x : Int
  y : Int
  signed : Bool
  code : Int
def e_S7 : Enc S7 := ⟨fun x => [.s (.int .i64 x.x), .s (.int .i64 x.y), .s (.bool x.signed), .s (.int .u8 x.code)], 4, fun _ => rfl, by decide⟩
structure runtime_boundsError where
  x : Int
  y : Int
  signed : Bool
  code : Int
def e_runtime_boundsError : Enc runtime_boundsError := ⟨fun x => [.s (.int .i64 x.x), .s (.int .i64 x.y), .s (.bool x.signed), .s (.int .u8 x.code)], 4, fun _ => rfl, by decide⟩
structure S13 where
  msg : ByteArray
  addr : Int
def e_S13 : Enc S13 := ⟨fun x => [.s (.string x.msg), .s (.int .u64 x.addr)], 2, fun _ => rfl, by decide⟩
structure runtime_errorAddressString where
  msg : ByteArray
  addr : Int
def e_runtime_errorAddressString : Enc runtime_errorAddressString := ⟨fun x => [.s (.string x.msg), .s (.int .u64 x.addr)], 2, fun _ => rfl, by decide⟩
structure S26 where
  N : Int
  Words : (List Int)
def e_S26 : Enc S26 := ⟨fun x => [.s (.int .i64 x.N), slV (eI .u64) x.Words], 2, fun _ => rfl, by decide⟩
structure api_Bits where
  N : Int
  Words : (List Int)
def e_api_Bits : Enc api_Bits := ⟨fun x => [.s (.int .i64 x.N), slV (eI .u64) x.Words], 2, fun _ => rfl, by decide⟩
structure S37 where
  N : Int
  L : (List Int)
  B : api_Bits
  X : Int
def e_S37 : Enc S37 := ⟨fun x => [.s (.int .i64 x.N), slV (eI .i64) x.L, .s (.int .i64 x.B.N), slV (eI .u64) x.B.Words, .s (.int .i64 x.X)], 5, fun _ => rfl, by decide⟩
structure riddlelaw01_Some where
  N : Int
  L : (List Int)
  B : api_Bits
  X : Int
def e_riddlelaw01_Some : Enc riddlelaw01_Some := ⟨fun x => [.s (.int .i64 x.N), slV (eI .i64) x.L, .s (.int .i64 x.B.N), slV (eI .u64) x.B.Words, .s (.int .i64 x.X)], 5, fun _ => rfl, by decide⟩
structure S45 where
  N : Int
  A : (List Int)
  B : (List Int)
  C : (List Int)
def e_S45 : Enc S45 := ⟨fun x => [.s (.int .u8 x.N), slV (eI .i64) x.A, slV (eI .i64) x.B, slV (eI .i64) x.C], 4, fun _ => rfl, by decide⟩
structure riddlelaw01_Three where
  N : Int
  A : (List Int)
  B : (List Int)
  C : (List Int)
def e_riddlelaw01_Three : Enc riddlelaw01_Three := ⟨fun x => [.s (.int .u8 x.N), slV (eI .i64) x.A, slV (eI .i64) x.B, slV (eI .i64) x.C], 4, fun _ => rfl, by decide⟩
def bits_words (a0 : Int) : Option (Int) :=
  some ((IntKind.i64.wrap (((IntKind.i64.wrap (a0 + 63))).tdiv 64)))
theorem bits_words_ok {a0 : Int} {r : Int} (h : bits_words a0 = some r) : Ans Tryd.prog 48 [.s (.int .i64 a0)] (.s (.int .i64 r)) := by
  refine W_fn Tryd.func48 rfl (by kernel_rfl) (by kernel_rfl) ?_
  intro X hro hn
  unfold bits_words at h
  refine WX.seq ?_
  refine WC.reg (n := 6) (by assumption) [] [0] [] ⟨[(0, .p (.s (.int .i64 a0)))], [], ⟨[], false⟩, []⟩ trivial (by kernel_rfl) ?_
  refine WX.seq ?_
  refine WC.reg (n := 6) (by assumption) [] [2] [] ⟨[(2, .p (.s (.int .i64 ((IntKind.i64.wrap (((IntKind.i64.wrap (a0 + 63))).tdiv 64))))))], [], ⟨[], false⟩, []⟩ trivial (by kernel_rfl) ?_
  refine WX.ret ?_
  exact WC.outP (by rw [← Option.some.inj h]; kernel_rfl)
def bits_empty (a0 : Int) : Option (api_Bits) :=
  (bits_words a0).bind fun t2_2 => (if okMake 8 t2_2 then some ((api_Bits.mk a0 (List.replicate t2_2.toNat 0))) else none)
theorem bits_empty_ok {a0 : Int} {r : api_Bits} (h : bits_empty a0 = some r) : AnsO Tryd.prog 42 [] [.p (.s (.int .i64 a0))] [(6, rowV 51 (eI .u64) r.Words)] (.agg [.p (.s (.int .i64 r.N)), .own 6]) := by
  refine W_fnO [6] Tryd.func42 rfl (by kernel_rfl) (by kernel_rfl) (by kernel_rfl) (by kernel_rfl) ?_
  intro X hro hn
  unfold bits_empty at h
  refine WX.seq ?_
  refine WC.reg (n := 8) (by assumption) [] [0, 2] [2] ⟨[(0, .p (.s (.int .i64 a0))), (2, .ptr 2 0)], [(2, .box 27 [.p (.s (.int .i64 0)), .p (.sl .nil 0 [])])], ⟨[], false⟩, []⟩ trivial (by kernel_rfl) ?_
  refine WX.seq ?_
  obtain ⟨t2_2, h2_1, h⟩ := bind_some h
  obtain ⟨c2_3, h⟩ := if_some h
  refine WC.reg (n := 8) (by assumption) [(2, .resP (.s (.int .i64 t2_2))), (3, .ob (rowV 51 (eI .u64) (List.replicate t2_2.toNat 0)))] [2] [2, 6] ⟨[(2, .ptr 2 0)], [(2, .box 27 [.p (.s (.int .i64 a0)), .own 6]), (6, rowV 51 (eI .u64) (List.replicate t2_2.toNat 0))], ⟨[], false⟩, []⟩ (And.intro ((bits_words_ok h2_1)) (And.intro (Mk (eI .u64) [.int .u64 0] 0 51 8 t2_2 rfl rfl c2_3) (trivial))) (by kernel_rfl) ?_
  refine WX.ret ?_
  exact WC.outO (by rw [← Option.some.inj h]; kernel_rfl)
theorem bits_empty_okP {a0 : Int} {r : api_Bits} (h : bits_empty a0 = some r) : Ans Tryd.prog 42 [.s (.int .i64 a0)] (.agg [.s (.int .i64 r.N), slV (eI .u64) r.Words]) := AnsO.ans (args := [.s (.int .i64 a0)]) (bits_empty_ok h) (by kernel_rfl)
def bits_New_l0 (a0 : Int) (a1 : (List Int)) (J7 : List Int → Option (api_Bits × Int)) : Nat → (Int × List Int) → Option (api_Bits × Int)
  | 0, _ => none
  | k + 1, (x26_1_1, x26_1_2) => (if (decide (x26_1_1 < (a1.length : Int))) = true then (at_ a1 x26_1_1).bind fun t45_2 => (if (((decide (t45_2 ≥ 0))) && ((decide (t45_2 < a0)))) = true then (at_ x26_1_2 ((IntKind.i64.wrap (t45_2.tdiv 64)))).bind fun t48_2 => (if ¬ (t45_2.tmod 64) < 0 then bits_New_l0 a0 a1 J7 k ((IntKind.i64.wrap (x26_1_1 + 1)), x26_1_2.set ((IntKind.i64.wrap (t45_2.tdiv 64))).toNat ((bits .or .u64 t48_2 ((IntKind.u64.wrap (1 * 2 ^ (min ((t45_2.tmod 64)).toNat IntKind.u64.bits))))))) else none) else bits_New_l0 a0 a1 J7 k ((IntKind.i64.wrap (x26_1_1 + 1)), x26_1_2)) else J7 x26_1_2)
def bits_New (k : Nat) (a0 : Int) (a1 : (List Int)) : Option (api_Bits × Int) :=
  (if (((decide (a0 < 0))) || ((decide (a0 > 8192)))) = true then some ((api_Bits.mk 0 (([] : List Int))), 1) else (bits_empty a0).bind fun t5_2 => jn (fun (v7 : List Int) => some ((api_Bits.mk t5_2.N v7), 0)) fun J7 => bits_New_l0 a0 a1 J7 k (0, t5_2.Words))
theorem bits_New_ok {k : Nat} {a0 : Int} {a1 : (List Int)} {r : api_Bits × Int} (h : bits_New k a0 a1 = some r) : AnsO Tryd.prog 10 [] [.p (.s (.int .i64 a0)), .p (slV (eI .i64) a1)] [(17, rowV 51 (eI .u64) r.1.Words)] (.tup [.agg [.p (.s (.int .i64 r.1.N)), .own 17], .p (.s (.int .i64 r.2))]) := by
  refine W_fnO [17] Tryd.func10 rfl (by kernel_rfl) (by kernel_rfl) (by kernel_rfl) (by kernel_rfl) ?_
  intro X hro hn
  unfold bits_New at h
  refine WX.seq ?_
  refine WC.reg (n := 44) (by assumption) [] [0, 1, 4] [4] ⟨[(0, .p (.s (.int .i64 a0))), (1, .p (slV (eI .i64) a1)), (4, .ptr 4 0)], [(4, .box 27 [.p (.s (.int .i64 0)), .p (.sl .nil 0 [])])], ⟨[], false⟩, []⟩ trivial (by kernel_rfl) ?_
  refine WX.seq ?_
  refine WX.seq ?_
  refine WC.via (α := Bool) (fun v2 => ⟨[(0, .p (.s (.int .i64 a0))), (1, .p (slV (eI .i64) a1)), (4, .ptr 4 0), (14, .p (.s (.bool v2)))], [(4, .box 27 [.p (.s (.int .i64 0)), .p (.sl .nil 0 [])])], ⟨[], false⟩, []⟩) ((((decide (a0 < 0))) || ((decide (a0 > 8192))))) (fun hk => ?_) ?_
  · rcases Bool.eq_false_or_eq_true ((decide (a0 < 0))) with b2_2 | b2_2
    · exact WC.reg (n := 44) (by assumption) [(2, .val (.p (.s (.bool true))))] [0, 1, 4, 14] [4] ⟨[(0, .p (.s (.int .i64 a0))), (1, .p (slV (eI .i64) a1)), (4, .ptr 4 0), (14, .p (.s (.bool true)))], [(4, .box 27 [.p (.s (.int .i64 0)), .p (.sl .nil 0 [])])], ⟨[], false⟩, []⟩ (And.intro (Bl b2_2) (trivial)) (by kernel_rfl) (hk true (by first | (rw [b2_2]; rfl) | simp [b2_2]))
    · exact WC.reg (n := 44) (by assumption) [(2, .val (.p (.s (.bool false))))] [0, 1, 4, 14] [4] ⟨[(0, .p (.s (.int .i64 a0))), (1, .p (slV (eI .i64) a1)), (4, .ptr 4 0), (14, .p (.s (.bool ((decide (a0 > 8192))))))], [(4, .box 27 [.p (.s (.int .i64 0)), .p (.sl .nil 0 [])])], ⟨[], false⟩, []⟩ (And.intro (Bl b2_2) (trivial)) (by kernel_rfl) (hk ((decide (a0 > 8192))) (by first | (rw [b2_2]; rfl) | simp [b2_2]))
  rcases if_or h with ⟨c3, h⟩ | ⟨c3, h⟩
  · refine WC.condT c3 (by kernel_rfl) ?_
    refine WX.seq ?_
    refine WC.reg (n := 44) (by assumption) [] [4, 5] [4] ⟨[(4, .ptr 4 0), (5, .p (.s (.int .i64 1)))], [(4, .box 27 [.p (.s (.int .i64 0)), .p (.sl .nil 0 [])])], ⟨[], false⟩, []⟩ trivial (by kernel_rfl) ?_
    refine WX.ret ?_
    refine WC.nil (n := 44) (by assumption) [] (some (4, 1)) 17 51 1 (by kernel_rfl) [4, 5] [4, 17] (st' := ⟨[(4, .ptr 4 0), (5, .p (.s (.int .i64 1)))], [(4, .box 27 [.p (.s (.int .i64 0)), .own 17]), (17, rowV 51 (eI .u64) (([] : List Int)))], ⟨[], false⟩, []⟩) (by kernel_rfl) ?_
    exact WC.outO (by rw [← Option.some.inj h]; kernel_rfl)
  · refine WC.condF c3 (by kernel_rfl) ?_
    refine WX.skip ?_
    refine WX.seq ?_
    obtain ⟨t5_2, h5_1, h⟩ := bind_some h
    refine WC.reg (n := 44) (by assumption) [(1, .co [] [] [] [(17, rowV 51 (eI .u64) t5_2.Words)] (.agg [.p (.s (.int .i64 t5_2.N)), .own 17]))] [0, 1, 4, 6] [4, 6, 17] ⟨[(0, .p (.s (.int .i64 a0))), (1, .p (slV (eI .i64) a1)), (4, .ptr 4 0), (6, .ptr 6 0)], [(4, .box 27 [.p (.s (.int .i64 0)), .p (.sl .nil 0 [])]), (6, .box 27 [.p (.s (.int .i64 t5_2.N)), .own 17]), (17, rowV 51 (eI .u64) t5_2.Words)], ⟨[], false⟩, []⟩ (And.intro (And.intro ((bits_empty_ok h5_1).ren 6 17 (by kernel_rfl)) (trivial)) (trivial)) (by kernel_rfl) ?_
    refine WX.seq ?_
    refine WX.seq ?_
    refine WC.reg (n := 44) (by assumption) [] [0, 4, 6, 18, 19, 20] [4, 6, 17] ⟨[(0, .p (.s (.int .i64 a0))), (4, .ptr 4 0), (6, .ptr 6 0), (18, .p (slV (eI .i64) a1)), (19, .p (.s (.int .i64 ((a1.length : Int))))), (20, .p (.s (.int .i64 0)))], [(4, .box 27 [.p (.s (.int .i64 0)), .p (.sl .nil 0 [])]), (6, .box 27 [.p (.s (.int .i64 t5_2.N)), .own 17]), (17, rowV 51 (eI .u64) t5_2.Words)], ⟨[], false⟩, []⟩ trivial (by kernel_rfl) ?_
    obtain ⟨J7, eJ7, h⟩ := jn_some h
    try dsimp only at h
    refine WC.join (α := List Int) (fun v7 => ⟨[(4, .ptr 4 0), (6, .ptr 6 0)], [(4, .box 27 [.p (.s (.int .i64 0)), .p (.sl .nil 0 [])]), (6, .box 27 [.p (.s (.int .i64 t5_2.N)), .own 17]), (17, rowV 51 (eI .u64) v7)], ⟨[], false⟩, []⟩) (fun v7 => J7 v7 = some r) ?_ (fun hJ7 => ?_)
    · rintro y7_1 h
      rw [eJ7] at h
      try dsimp only at h
      refine WX.seq ?_
      refine WC.reg (n := 44) (by assumption) [] [4, 5] [4, 17] ⟨[(4, .ptr 4 0), (5, .p (.s (.int .i64 0)))], [(4, .box 27 [.p (.s (.int .i64 t5_2.N)), .own 17]), (17, rowV 51 (eI .u64) y7_1)], ⟨[], false⟩, []⟩ trivial (by kernel_rfl) ?_
      refine WX.ret ?_
      exact WC.outO (by rw [← Option.some.inj h]; kernel_rfl)
    · replace hJ7 := fun y7_1 => hJ7 y7_1
      refine WX.block ?_
      refine WC.loop (V := Int × List Int) (bits_New_l0 a0 a1 J7) r (fun v26 => ⟨[(0, .p (.s (.int .i64 a0))), (4, .ptr 4 0), (6, .ptr 6 0), (18, .p (slV (eI .i64) a1)), (19, .p (.s (.int .i64 ((a1.length : Int))))), (20, .p (.s (.int .i64 v26.1)))], [(4, .box 27 [.p (.s (.int .i64 0)), .p (.sl .nil 0 [])]), (6, .box 27 [.p (.s (.int .i64 t5_2.N)), .own 17]), (17, rowV 51 (eI .u64) v26.2)], ⟨[], false⟩, []⟩) _ (0, t5_2.Words) h (fun _ => rfl) [0, 4, 6, 18, 19, 20] [4, 6, 17] (by kernel_rfl) ?_
      clear h; rintro k ⟨x26_1_1, x26_1_2⟩ h K26 hnext26 hexit26
      rw [bits_New_l0] at h
      refine WX.seq ?_
      refine WC.reg (n := 44) (by assumption) [] [0, 4, 6, 18, 19, 20, 21] [4, 6, 17] ⟨[(0, .p (.s (.int .i64 a0))), (4, .ptr 4 0), (6, .ptr 6 0), (18, .p (slV (eI .i64) a1)), (19, .p (.s (.int .i64 ((a1.length : Int))))), (20, .p (.s (.int .i64 x26_1_1))), (21, .p (.s (.bool ((decide (x26_1_1 < (a1.length : Int)))))))], [(4, .box 27 [.p (.s (.int .i64 0)), .p (.sl .nil 0 [])]), (6, .box 27 [.p (.s (.int .i64 t5_2.N)), .own 17]), (17, rowV 51 (eI .u64) x26_1_2)], ⟨[], false⟩, []⟩ trivial (by kernel_rfl) ?_
      refine WX.seq ?_
      rcases if_or h with ⟨c44, h⟩ | ⟨c44, h⟩
      · refine WC.condT c44 (by kernel_rfl) ?_
        refine WX.skip ?_
        refine WX.seq ?_
        refine WX.block ?_
        refine WX.seq ?_
        obtain ⟨t45_2, h45_1, h⟩ := bind_some h
        refine WC.reg (n := 44) (by assumption) [(0, .val (.p (.rop ((eI .i64).cells t45_2 ++ encL (eI .i64) (a1.drop (x26_1_1.toNat + 1))))))] [0, 4, 6, 8, 18, 19, 20] [4, 6, 17] ⟨[(0, .p (.s (.int .i64 a0))), (4, .ptr 4 0), (6, .ptr 6 0), (8, .p (.s (.int .i64 t45_2))), (18, .p (slV (eI .i64) a1)), (19, .p (.s (.int .i64 ((a1.length : Int))))), (20, .p (.s (.int .i64 x26_1_1)))], [(4, .box 27 [.p (.s (.int .i64 0)), .p (.sl .nil 0 [])]), (6, .box 27 [.p (.s (.int .i64 t5_2.N)), .own 17]), (17, rowV 51 (eI .u64) x26_1_2)], ⟨[], false⟩, []⟩ (And.intro (Ix (eI .i64) h45_1) (trivial)) (by kernel_rfl) ?_
        refine WX.seq ?_
        refine WC.via (α := Bool) (fun v46 => ⟨[(0, .p (.s (.int .i64 a0))), (4, .ptr 4 0), (6, .ptr 6 0), (8, .p (.s (.int .i64 t45_2))), (18, .p (slV (eI .i64) a1)), (19, .p (.s (.int .i64 ((a1.length : Int))))), (20, .p (.s (.int .i64 x26_1_1))), (30, .p (.s (.bool v46)))], [(4, .box 27 [.p (.s (.int .i64 0)), .p (.sl .nil 0 [])]), (6, .box 27 [.p (.s (.int .i64 t5_2.N)), .own 17]), (17, rowV 51 (eI .u64) x26_1_2)], ⟨[], false⟩, []⟩) ((((decide (t45_2 ≥ 0))) && ((decide (t45_2 < a0))))) (fun hk => ?_) ?_
        · rcases Bool.eq_false_or_eq_true ((decide (t45_2 ≥ 0))) with b46_2 | b46_2
          · exact WC.reg (n := 44) (by assumption) [(2, .val (.p (.s (.bool true))))] [0, 4, 6, 8, 18, 19, 20, 30] [4, 6, 17] ⟨[(0, .p (.s (.int .i64 a0))), (4, .ptr 4 0), (6, .ptr 6 0), (8, .p (.s (.int .i64 t45_2))), (18, .p (slV (eI .i64) a1)), (19, .p (.s (.int .i64 ((a1.length : Int))))), (20, .p (.s (.int .i64 x26_1_1))), (30, .p (.s (.bool ((decide (t45_2 < a0))))))], [(4, .box 27 [.p (.s (.int .i64 0)), .p (.sl .nil 0 [])]), (6, .box 27 [.p (.s (.int .i64 t5_2.N)), .own 17]), (17, rowV 51 (eI .u64) x26_1_2)], ⟨[], false⟩, []⟩ (And.intro (Bl b46_2) (trivial)) (by kernel_rfl) (hk ((decide (t45_2 < a0))) (by first | (rw [b46_2]; rfl) | simp [b46_2]))
          · exact WC.reg (n := 44) (by assumption) [(2, .val (.p (.s (.bool false))))] [0, 4, 6, 8, 18, 19, 20, 30] [4, 6, 17] ⟨[(0, .p (.s (.int .i64 a0))), (4, .ptr 4 0), (6, .ptr 6 0), (8, .p (.s (.int .i64 t45_2))), (18, .p (slV (eI .i64) a1)), (19, .p (.s (.int .i64 ((a1.length : Int))))), (20, .p (.s (.int .i64 x26_1_1))), (30, .p (.s (.bool false)))], [(4, .box 27 [.p (.s (.int .i64 0)), .p (.sl .nil 0 [])]), (6, .box 27 [.p (.s (.int .i64 t5_2.N)), .own 17]), (17, rowV 51 (eI .u64) x26_1_2)], ⟨[], false⟩, []⟩ (And.intro (Bl b46_2) (trivial)) (by kernel_rfl) (hk false (by first | (rw [b46_2]; rfl) | simp [b46_2]))
        rcases if_or h with ⟨c47, h⟩ | ⟨c47, h⟩
        · refine WC.condT c47 (by kernel_rfl) ?_
          obtain ⟨t48_2, h48_1, h⟩ := bind_some h
          obtain ⟨c48_3, h⟩ := if_some h
          refine WC.drw (n := 44) (by assumption) [(11, [])] [] [(4, .val (.ptr 17 (((IntKind.i64.wrap (t45_2.tdiv 64))).toNat * 1))), (5, .val (.p (.s (.int .u64 t48_2)))), (8, .val (.p (.s (.int .u64 (IntKind.u64.wrap (1 * 2 ^ (min ((t45_2.tmod 64)).toNat IntKind.u64.bits))))))), (10, .val (.ptr 17 (((IntKind.i64.wrap (t45_2.tdiv 64))).toNat * 1))), (11, .sto 17 (rowV 51 (eI .u64) (x26_1_2.set ((IntKind.i64.wrap (t45_2.tdiv 64))).toNat ((bits .or .u64 t48_2 ((IntKind.u64.wrap (1 * 2 ^ (min ((t45_2.tmod 64)).toNat IntKind.u64.bits)))))))))] [0, 4, 6, 18, 19, 20] [4, 6, 17] ⟨[(0, .p (.s (.int .i64 a0))), (4, .ptr 4 0), (6, .ptr 6 0), (18, .p (slV (eI .i64) a1)), (19, .p (.s (.int .i64 ((a1.length : Int))))), (20, .p (.s (.int .i64 x26_1_1)))], [(4, .box 27 [.p (.s (.int .i64 0)), .p (.sl .nil 0 [])]), (6, .box 27 [.p (.s (.int .i64 t5_2.N)), .own 17]), (17, rowV 51 (eI .u64) (x26_1_2.set ((IntKind.i64.wrap (t45_2.tdiv 64))).toNat ((bits .or .u64 t48_2 ((IntKind.u64.wrap (1 * 2 ^ (min ((t45_2.tmod 64)).toNat IntKind.u64.bits))))))))], ⟨[], false⟩, []⟩ (And.intro (IxO 17 1 h48_1) (And.intro (LdO0 Tryd.prog (eI .u64) 51 h48_1) (And.intro (Shl .u64 1 ((t45_2.tmod 64)) c48_3) (And.intro (IxO 17 1 h48_1) (And.intro (StO0 (eI .u64) 17 51 1 1 [.s (.int .u64 ((bits .or .u64 t48_2 ((IntKind.u64.wrap (1 * 2 ^ (min ((t45_2.tmod 64)).toNat IntKind.u64.bits)))))))] ((bits .or .u64 t48_2 ((IntKind.u64.wrap (1 * 2 ^ (min ((t45_2.tmod 64)).toNat IntKind.u64.bits)))))) h48_1 rfl rfl (by decide)) (trivial)))))) (by kernel_rfl) (by kernel_rfl) (by kernel_rfl) (by kernel_rfl) ?_
          refine WX.popBlk ?_
          refine WC.reg (n := 44) (by assumption) [] [0, 4, 6, 18, 19, 20] [4, 6, 17] ⟨[(0, .p (.s (.int .i64 a0))), (4, .ptr 4 0), (6, .ptr 6 0), (18, .p (slV (eI .i64) a1)), (19, .p (.s (.int .i64 ((a1.length : Int))))), (20, .p (.s (.int .i64 ((IntKind.i64.wrap (x26_1_1 + 1))))))], [(4, .box 27 [.p (.s (.int .i64 0)), .p (.sl .nil 0 [])]), (6, .box 27 [.p (.s (.int .i64 t5_2.N)), .own 17]), (17, rowV 51 (eI .u64) (x26_1_2.set ((IntKind.i64.wrap (t45_2.tdiv 64))).toNat ((bits .or .u64 t48_2 ((IntKind.u64.wrap (1 * 2 ^ (min ((t45_2.tmod 64)).toNat IntKind.u64.bits))))))))], ⟨[], false⟩, []⟩ trivial (by kernel_rfl) ?_
          exact WC.next [0, 4, 6, 18, 19, 20] [4, 6, 17] (by kernel_rfl) (hnext26 ((IntKind.i64.wrap (x26_1_1 + 1)), x26_1_2.set ((IntKind.i64.wrap (t45_2.tdiv 64))).toNat ((bits .or .u64 t48_2 ((IntKind.u64.wrap (1 * 2 ^ (min ((t45_2.tmod 64)).toNat IntKind.u64.bits))))))) h)
        · refine WC.condF c47 (by kernel_rfl) ?_
          refine WX.skip ?_
          refine WX.popBlk ?_
          refine WC.reg (n := 44) (by assumption) [] [0, 4, 6, 18, 19, 20] [4, 6, 17] ⟨[(0, .p (.s (.int .i64 a0))), (4, .ptr 4 0), (6, .ptr 6 0), (18, .p (slV (eI .i64) a1)), (19, .p (.s (.int .i64 ((a1.length : Int))))), (20, .p (.s (.int .i64 ((IntKind.i64.wrap (x26_1_1 + 1))))))], [(4, .box 27 [.p (.s (.int .i64 0)), .p (.sl .nil 0 [])]), (6, .box 27 [.p (.s (.int .i64 t5_2.N)), .own 17]), (17, rowV 51 (eI .u64) x26_1_2)], ⟨[], false⟩, []⟩ trivial (by kernel_rfl) ?_
          exact WC.next [0, 4, 6, 18, 19, 20] [4, 6, 17] (by kernel_rfl) (hnext26 ((IntKind.i64.wrap (x26_1_1 + 1)), x26_1_2) h)
      · refine WC.condF c44 (by kernel_rfl) ?_
        refine WX.exit ?_
        refine WX.popCodeExit ?_
        refine WC.exit_nil (hexit26 _ _ (by simp) ?_)
        refine WX.popBlkHit ?_
        exact WC.keep [4, 6] [4, 6, 17] (by kernel_rfl) (hJ7 x26_1_2 h)
theorem bits_New_okP {k : Nat} {a0 : Int} {a1 : (List Int)} {r : api_Bits × Int} (h : bits_New k a0 a1 = some r) : Ans Tryd.prog 10 [.s (.int .i64 a0), slV (eI .i64) a1] (.tup [.agg [.s (.int .i64 r.1.N), slV (eI .u64) r.1.Words], .s (.int .i64 r.2)]) := AnsO.ans (args := [.s (.int .i64 a0), slV (eI .i64) a1]) (bits_New_ok h) (by kernel_rfl)
def bits_Check (a0 : api_Bits) : Option (Int) :=
  ((if (decide (a0.N < 0)) = true then some true else (if (decide (a0.N > 8192)) = true then some true else (bits_words a0.N).bind fun t2_2 => some (((a0.Words.length : Int) != t2_2)))) : Option (Bool)).bind fun v2 => (if v2 = true then some 10 else ((if (decide ((a0.N.tmod 64) > 0)) = true then (at_ a0.Words ((IntKind.i64.wrap ((a0.Words.length : Int) - 1)))).bind fun t6_2 => (if ¬ (a0.N.tmod 64) < 0 then some (((t6_2.fdiv (2 ^ (min ((a0.N.tmod 64)).toNat IntKind.u64.bits))) != 0)) else none) else some false) : Option (Bool)).bind fun v6 => (if v6 = true then some 10 else some 0))
theorem bits_Check_ok {a0 : api_Bits} {r : Int} (h : bits_Check a0 = some r) : Ans Tryd.prog 17 [.agg [.s (.int .i64 a0.N), slV (eI .u64) a0.Words]] (.s (.int .i64 r)) := by
  refine W_fn Tryd.func17 rfl (by kernel_rfl) (by kernel_rfl) ?_
  intro X hro hn
  unfold bits_Check at h
  refine WX.seq ?_
  refine WC.reg (n := 39) (by assumption) [] [1] [1] ⟨[(1, .ptr 1 0)], [(1, .box 27 [.p (.s (.int .i64 a0.N)), .p (slV (eI .u64) a0.Words)])], ⟨[], false⟩, []⟩ trivial (by kernel_rfl) ?_
  refine WX.seq ?_
  refine WX.seq ?_
  obtain ⟨m2_1, g2, h⟩ := bind_some h
  refine WC.via (α := Bool) (fun v2 => ⟨[(1, .ptr 1 0), (20, .p (.s (.bool v2)))], [(1, .box 27 [.p (.s (.int .i64 a0.N)), .p (slV (eI .u64) a0.Words)])], ⟨[], false⟩, []⟩) m2_1 (fun hk => ?_) ?_
  · rcases if_or g2 with ⟨b2_3, g2⟩ | ⟨b2_3, g2⟩
    · exact WC.drw (n := 39) (by assumption) [] [] [(3, .val (.p (.s (.bool true))))] [1, 20] [1] ⟨[(1, .ptr 1 0), (20, .p (.s (.bool true)))], [(1, .box 27 [.p (.s (.int .i64 a0.N)), .p (slV (eI .u64) a0.Words)])], ⟨[], false⟩, []⟩ (And.intro (Bl b2_3) (trivial)) (by kernel_rfl) (by kernel_rfl) (by kernel_rfl) (by kernel_rfl) (hk true (Option.some.inj g2))
    · rcases if_or g2 with ⟨b2_8, g2⟩ | ⟨b2_8, g2⟩
      · exact WC.drw (n := 39) (by assumption) [] [] [(3, .val (.p (.s (.bool false)))), (8, .val (.p (.s (.bool true))))] [1, 20] [1] ⟨[(1, .ptr 1 0), (20, .p (.s (.bool true)))], [(1, .box 27 [.p (.s (.int .i64 a0.N)), .p (slV (eI .u64) a0.Words)])], ⟨[], false⟩, []⟩ (And.intro (Bl b2_3) (And.intro (Bl b2_8) (trivial))) (by kernel_rfl) (by kernel_rfl) (by kernel_rfl) (by kernel_rfl) (hk true (Option.some.inj g2))
      · obtain ⟨t2_2, h2_1, g2⟩ := bind_some g2
        exact WC.drw (n := 39) (by assumption) [] [] [(3, .val (.p (.s (.bool false)))), (8, .val (.p (.s (.bool false)))), (14, .resP (.s (.int .i64 t2_2)))] [1, 20] [1] ⟨[(1, .ptr 1 0), (20, .p (.s (.bool (((a0.Words.length : Int) != t2_2)))))], [(1, .box 27 [.p (.s (.int .i64 a0.N)), .p (slV (eI .u64) a0.Words)])], ⟨[], false⟩, []⟩ (And.intro (Bl b2_3) (And.intro (Bl b2_8) (And.intro ((bits_words_ok h2_1)) (trivial)))) (by kernel_rfl) (by kernel_rfl) (by kernel_rfl) (by kernel_rfl) (hk (((a0.Words.length : Int) != t2_2)) (Option.some.inj g2))
  rcases if_or h with ⟨c3, h⟩ | ⟨c3, h⟩
  · refine WC.condT c3 (by kernel_rfl) ?_
    refine WX.seq ?_
    refine WC.reg (n := 39) (by assumption) [] [2] [] ⟨[(2, .p (.s (.int .i64 10)))], [], ⟨[], false⟩, []⟩ trivial (by kernel_rfl) ?_
    refine WX.ret ?_
    exact WC.outP (by rw [← Option.some.inj h]; kernel_rfl)
  · refine WC.condF c3 (by kernel_rfl) ?_
    refine WX.skip ?_
    refine WX.seq ?_
    refine WX.seq ?_
    refine WC.reg (n := 39) (by assumption) [] [1, 3] [1] ⟨[(1, .ptr 1 0), (3, .p (.s (.int .i64 ((a0.N.tmod 64)))))], [(1, .box 27 [.p (.s (.int .i64 a0.N)), .p (slV (eI .u64) a0.Words)])], ⟨[], false⟩, []⟩ trivial (by kernel_rfl) ?_
    refine WX.seq ?_
    obtain ⟨m6_1, g6, h⟩ := bind_some h
    refine WC.via (α := Bool) (fun v6 => ⟨[(38, .p (.s (.bool v6)))], [], ⟨[], false⟩, []⟩) m6_1 (fun hk => ?_) ?_
    · rcases if_or g6 with ⟨b6_2, g6⟩ | ⟨b6_2, g6⟩
      · obtain ⟨t6_2, h6_1, g6⟩ := bind_some g6
        obtain ⟨c6_3, g6⟩ := if_some g6
        exact WC.reg (n := 39) (by assumption) [(2, .val (.p (.s (.bool true)))), (9, .val (.p (.rop ((eI .u64).cells t6_2 ++ encL (eI .u64) (a0.Words.drop (((IntKind.i64.wrap ((a0.Words.length : Int) - 1))).toNat + 1)))))), (12, .val (.p (.s (.int .u64 (t6_2.fdiv (2 ^ (min ((a0.N.tmod 64)).toNat IntKind.u64.bits)))))))] [38] [] ⟨[(38, .p (.s (.bool (((t6_2.fdiv (2 ^ (min ((a0.N.tmod 64)).toNat IntKind.u64.bits))) != 0)))))], [], ⟨[], false⟩, []⟩ (And.intro (Bl b6_2) (And.intro (Ix (eI .u64) h6_1) (And.intro (Shr .u64 t6_2 ((a0.N.tmod 64)) c6_3) (trivial)))) (by kernel_rfl) (hk (((t6_2.fdiv (2 ^ (min ((a0.N.tmod 64)).toNat IntKind.u64.bits))) != 0)) (Option.some.inj g6))
      · exact WC.reg (n := 39) (by assumption) [(2, .val (.p (.s (.bool false))))] [38] [] ⟨[(38, .p (.s (.bool false)))], [], ⟨[], false⟩, []⟩ (And.intro (Bl b6_2) (trivial)) (by kernel_rfl) (hk false (Option.some.inj g6))
    rcases if_or h with ⟨c7, h⟩ | ⟨c7, h⟩
    · refine WC.condT c7 (by kernel_rfl) ?_
      refine WX.seq ?_
      refine WC.reg (n := 39) (by assumption) [] [2] [] ⟨[(2, .p (.s (.int .i64 10)))], [], ⟨[], false⟩, []⟩ trivial (by kernel_rfl) ?_
      refine WX.ret ?_
      exact WC.outP (by rw [← Option.some.inj h]; kernel_rfl)
    · refine WC.condF c7 (by kernel_rfl) ?_
      refine WX.skip ?_
      refine WX.seq ?_
      refine WC.reg (n := 39) (by assumption) [] [2] [] ⟨[(2, .p (.s (.int .i64 0)))], [], ⟨[], false⟩, []⟩ trivial (by kernel_rfl) ?_
      refine WX.ret ?_
      exact WC.outP (by rw [← Option.some.inj h]; kernel_rfl)
def slices_Clone_uint64_uint64 (a0 : (List Int)) : Option ((List Int)) :=
  (if okApp 8 (([] : List Int).length + a0.length) then some (([] : List Int) ++ a0) else none)
theorem slices_Clone_uint64_uint64_ok {a0 : (List Int)} {r : (List Int)} (h : slices_Clone_uint64_uint64 a0 = some r) : AnsO Tryd.prog 36 [] [.p (slV (eI .u64) a0)] [(7, rowV 51 (eI .u64) r)] (.own 7) := by
  refine W_fnO [7] Tryd.func36 rfl (by kernel_rfl) (by kernel_rfl) (by kernel_rfl) (by kernel_rfl) ?_
  intro X hro hn
  unfold slices_Clone_uint64_uint64 at h
  refine WX.seq ?_
  refine WC.reg (n := 8) (by assumption) [] [0] [] ⟨[(0, .p (slV (eI .u64) a0))], [], ⟨[], false⟩, []⟩ trivial (by kernel_rfl) ?_
  refine WX.seq ?_
  refine WX.seq ?_
  refine WC.nilCase (E := (eI .u64)) (l := a0) 0 (by kernel_rfl) (fun hnil => ?_) ?_
  · have h1 : (some (([] : List Int))) = some r := by rw [hnil] at h; clear hnil; simp at h ⊢; first | exact h.2 | exact h | simp_all
    replace h := h1
    refine WC.keep [0] [] (st' := ⟨[(0, .p (.sl .isnil a0.length (encL (eI .u64) a0)))], [], ⟨[], false⟩, []⟩) (by kernel_rfl) ?_
    refine WC.reg (n := 8) (by assumption) [] [0, 4] [] ⟨[(0, .p (.sl .isnil a0.length (encL (eI .u64) a0))), (4, .p (.s (.bool true)))], [], ⟨[], false⟩, []⟩ trivial (by kernel_rfl) ?_
    refine WC.tag [0] [] [0, 4] [] (st' := ⟨[(0, .p (slV (eI .u64) a0)), (4, .p (.s (.bool true)))], [], ⟨[], false⟩, []⟩) (by kernel_rfl) ?_
    refine WC.condT rfl (by kernel_rfl) ?_
    refine WX.seq ?_
    refine WC.reg (n := 8) (by assumption) [] [2] [] ⟨[(2, .p (.sl .nil 0 []))], [], ⟨[], false⟩, []⟩ trivial (by kernel_rfl) ?_
    refine WX.ret ?_
    refine WC.nil (n := 8) (by assumption) [2] none 7 51 1 (by kernel_rfl) [2] [7] (st' := ⟨[(2, .own 7)], [(7, rowV 51 (eI .u64) (([] : List Int)))], ⟨[], false⟩, []⟩) (by kernel_rfl) ?_
    exact WC.outO (by rw [← Option.some.inj h]; kernel_rfl)
  · refine WC.keep [0] [] (st' := ⟨[(0, .p (.sl .nn a0.length (encL (eI .u64) a0)))], [], ⟨[], false⟩, []⟩) (by kernel_rfl) ?_
    refine WC.reg (n := 8) (by assumption) [] [0, 4] [] ⟨[(0, .p (.sl .nn a0.length (encL (eI .u64) a0))), (4, .p (.s (.bool false)))], [], ⟨[], false⟩, []⟩ trivial (by kernel_rfl) ?_
    refine WC.tag [0] [] [0, 4] [] (st' := ⟨[(0, .p (slV (eI .u64) a0)), (4, .p (.s (.bool false)))], [], ⟨[], false⟩, []⟩) (by kernel_rfl) ?_
    refine WC.condF rfl (by kernel_rfl) ?_
    refine WX.skip ?_
    refine WX.seq ?_
    obtain ⟨c6_1, h⟩ := if_some h
    refine WC.reg (n := 8) (by assumption) [(2, .app (some 5) (rowV 51 (eI .u64) (([] : List Int) ++ a0)))] [2] [7] ⟨[(2, .own 7)], [(7, rowV 51 (eI .u64) (([] : List Int) ++ a0))], ⟨[], false⟩, []⟩ (And.intro (ApS (eI .u64) (some 5) 51 8 ([] : List Int) a0 c6_1) (trivial)) (by kernel_rfl) ?_
    refine WX.ret ?_
    exact WC.outO (by rw [← Option.some.inj h]; kernel_rfl)
theorem slices_Clone_uint64_uint64_okP {a0 : (List Int)} {r : (List Int)} (h : slices_Clone_uint64_uint64 a0 = some r) : Ans Tryd.prog 36 [slV (eI .u64) a0] (slV (eI .u64) r) := AnsO.ans (args := [slV (eI .u64) a0]) (slices_Clone_uint64_uint64_ok h) (by kernel_rfl)
def bits_own (a0 : api_Bits) : Option (api_Bits) :=
  (bits_Check a0).bind fun t2_2 => (if (t2_2 != 0) = true then some ((api_Bits.mk 0 (([] : List Int)))) else (slices_Clone_uint64_uint64 a0.Words).bind fun t5_2 => some ((api_Bits.mk a0.N t5_2)))
theorem bits_own_ok {a0 : api_Bits} {r : api_Bits} (h : bits_own a0 = some r) : AnsO Tryd.prog 43 [] [.p (.agg [.s (.int .i64 a0.N), slV (eI .u64) a0.Words])] [(9, rowV 51 (eI .u64) r.Words)] (.agg [.p (.s (.int .i64 r.N)), .own 9]) := by
  refine W_fnO [9] Tryd.func43 rfl (by kernel_rfl) (by kernel_rfl) (by kernel_rfl) (by kernel_rfl) ?_
  intro X hro hn
  unfold bits_own at h
  refine WX.seq ?_
  refine WC.reg (n := 12) (by assumption) [] [1, 2] [1, 2] ⟨[(1, .ptr 1 0), (2, .ptr 2 0)], [(1, .box 27 [.p (.s (.int .i64 a0.N)), .p (slV (eI .u64) a0.Words)]), (2, .box 27 [.p (.s (.int .i64 0)), .p (.sl .nil 0 [])])], ⟨[], false⟩, []⟩ trivial (by kernel_rfl) ?_
  refine WX.seq ?_
  refine WX.seq ?_
  obtain ⟨t2_2, h2_1, h⟩ := bind_some h
  refine WC.reg (n := 12) (by assumption) [(1, .resP (.s (.int .i64 t2_2)))] [1, 2, 5] [1, 2] ⟨[(1, .ptr 1 0), (2, .ptr 2 0), (5, .p (.s (.bool ((t2_2 != 0)))))], [(1, .box 27 [.p (.s (.int .i64 a0.N)), .p (slV (eI .u64) a0.Words)]), (2, .box 27 [.p (.s (.int .i64 0)), .p (.sl .nil 0 [])])], ⟨[], false⟩, []⟩ (And.intro ((bits_Check_ok h2_1)) (trivial)) (by kernel_rfl) ?_
  rcases if_or h with ⟨c3, h⟩ | ⟨c3, h⟩
  · refine WC.condT c3 (by kernel_rfl) ?_
    refine WX.seq ?_
    refine WC.reg (n := 12) (by assumption) [] [2] [2] ⟨[(2, .ptr 2 0)], [(2, .box 27 [.p (.s (.int .i64 0)), .p (.sl .nil 0 [])])], ⟨[], false⟩, []⟩ trivial (by kernel_rfl) ?_
    refine WX.ret ?_
    refine WC.nil (n := 12) (by assumption) [] (some (2, 1)) 9 51 1 (by kernel_rfl) [2] [2, 9] (st' := ⟨[(2, .ptr 2 0)], [(2, .box 27 [.p (.s (.int .i64 0)), .own 9]), (9, rowV 51 (eI .u64) (([] : List Int)))], ⟨[], false⟩, []⟩) (by kernel_rfl) ?_
    exact WC.outO (by rw [← Option.some.inj h]; kernel_rfl)
  · refine WC.condF c3 (by kernel_rfl) ?_
    refine WX.skip ?_
    refine WX.seq ?_
    obtain ⟨t5_2, h5_1, h⟩ := bind_some h
    refine WC.reg (n := 12) (by assumption) [(2, .co [] [] [] [(9, rowV 51 (eI .u64) t5_2)] (.own 9))] [1, 2] [1, 2, 9] ⟨[(1, .ptr 1 0), (2, .ptr 2 0)], [(1, .box 27 [.p (.s (.int .i64 a0.N)), .own 9]), (2, .box 27 [.p (.s (.int .i64 0)), .p (.sl .nil 0 [])]), (9, rowV 51 (eI .u64) t5_2)], ⟨[], false⟩, []⟩ (And.intro (And.intro ((slices_Clone_uint64_uint64_ok h5_1).ren 7 9 (by kernel_rfl)) (trivial)) (trivial)) (by kernel_rfl) ?_
    refine WX.seq ?_
    refine WC.reg (n := 12) (by assumption) [] [2] [2, 9] ⟨[(2, .ptr 2 0)], [(2, .box 27 [.p (.s (.int .i64 a0.N)), .own 9]), (9, rowV 51 (eI .u64) t5_2)], ⟨[], false⟩, []⟩ trivial (by kernel_rfl) ?_
    refine WX.ret ?_
    exact WC.outO (by rw [← Option.some.inj h]; kernel_rfl)
theorem bits_own_okP {a0 : api_Bits} {r : api_Bits} (h : bits_own a0 = some r) : Ans Tryd.prog 43 [.agg [.s (.int .i64 a0.N), slV (eI .u64) a0.Words]] (.agg [.s (.int .i64 r.N), slV (eI .u64) r.Words]) := AnsO.ans (args := [.agg [.s (.int .i64 a0.N), slV (eI .u64) a0.Words]]) (bits_own_ok h) (by kernel_rfl)
def bits_TrailingZeros64 (a0 : Int) : Option (Int) :=
  (if (a0 == 0) = true then some 64 else (at_ tab0 ((((IntKind.u64.wrap ((bits .and .u64 a0 ((IntKind.u64.wrap (0 - a0)))) * 285870213051353865))).fdiv (2 ^ 58)))).bind fun t5_2 => some ((IntKind.i64.wrap t5_2)))
theorem bits_TrailingZeros64_ok {a0 : Int} {r : Int} (h : bits_TrailingZeros64 a0 = some r) : Ans Tryd.prog 45 [.s (.int .u64 a0)] (.s (.int .i64 r)) := by
  refine W_fn Tryd.func45 rfl (by kernel_rfl) (by kernel_rfl) ?_
  intro X hro hn
  unfold bits_TrailingZeros64 at h
  refine WX.seq ?_
  refine WC.reg (n := 14) (by assumption) [] [0] [] ⟨[(0, .p (.s (.int .u64 a0)))], [], ⟨[], false⟩, []⟩ trivial (by kernel_rfl) ?_
  refine WX.seq ?_
  refine WX.seq ?_
  refine WC.reg (n := 14) (by assumption) [] [0, 4] [] ⟨[(0, .p (.s (.int .u64 a0))), (4, .p (.s (.bool ((a0 == 0)))))], [], ⟨[], false⟩, []⟩ trivial (by kernel_rfl) ?_
  rcases if_or h with ⟨c3, h⟩ | ⟨c3, h⟩
  · refine WC.condT c3 (by kernel_rfl) ?_
    refine WX.seq ?_
    refine WC.reg (n := 14) (by assumption) [] [2] [] ⟨[(2, .p (.s (.int .i64 64)))], [], ⟨[], false⟩, []⟩ trivial (by kernel_rfl) ?_
    refine WX.ret ?_
    exact WC.outP (by rw [← Option.some.inj h]; kernel_rfl)
  · refine WC.condF c3 (by kernel_rfl) ?_
    refine WX.skip ?_
    refine WX.seq ?_
    obtain ⟨t5_2, h5_1, h⟩ := bind_some h
    refine WC.reg (n := 14) (by assumption) [(6, .val (.p (.rop ((eI .u8).cells t5_2 ++ encL (eI .u8) (tab0.drop (((((IntKind.u64.wrap ((bits .and .u64 a0 ((IntKind.u64.wrap (0 - a0)))) * 285870213051353865))).fdiv (2 ^ 58))).toNat + 1))))))] [2] [] ⟨[(2, .p (.s (.int .i64 ((IntKind.i64.wrap t5_2)))))], [], ⟨[], false⟩, []⟩ (And.intro (IxG (eI .u8) 64 rfl h5_1) (trivial)) (by kernel_rfl) ?_
    refine WX.ret ?_
    exact WC.outP (by rw [← Option.some.inj h]; kernel_rfl)
def bits_First_l0 (a0 : api_Bits) (a1 : Int) (J7 : Unit → Option (Int × Bool)) : Nat → Int → Option (Int × Bool)
  | 0, _ => none
  | k + 1, x32_1_1 => (if (decide (x32_1_1 < (a0.Words.length : Int))) = true then (at_ a0.Words x32_1_1).bind fun t57_2 => jn (fun (v59 : Int) => (if (v59 != 0) = true then (bits_TrailingZeros64 v59).bind fun t64_2 => some ((IntKind.i64.wrap ((IntKind.i64.wrap (64 * x32_1_1)) + t64_2)), true) else bits_First_l0 a0 a1 J7 k ((IntKind.i64.wrap (x32_1_1 + 1))))) fun J59 => (if (x32_1_1 == (IntKind.i64.wrap (((maxI a1 0)).tdiv 64))) = true then (if ¬ (((maxI a1 0)).tmod 64) < 0 then J59 ((IntKind.u64.wrap ((t57_2.fdiv (2 ^ (min ((((maxI a1 0)).tmod 64)).toNat IntKind.u64.bits))) * 2 ^ (min ((((maxI a1 0)).tmod 64)).toNat IntKind.u64.bits)))) else none) else J59 t57_2) else J7 ())
def bits_First (k : Nat) (a0 : api_Bits) (a1 : Int) : Option (Int × Bool) :=
  (bits_Check a0).bind fun t2_2 => (if (t2_2 != 0) = true then some (0, false) else jn (fun (v7 : Unit) => some (0, false)) fun J7 => bits_First_l0 a0 a1 J7 k ((IntKind.i64.wrap (((maxI a1 0)).tdiv 64))))
theorem bits_First_ok {k : Nat} {a0 : api_Bits} {a1 : Int} {r : Int × Bool} (h : bits_First k a0 a1 = some r) : Ans Tryd.prog 13 [.agg [.s (.int .i64 a0.N), slV (eI .u64) a0.Words], .s (.int .i64 a1)] (.tup [.s (.int .i64 r.1), .s (.bool r.2)]) := by
  refine W_fn Tryd.func13 rfl (by kernel_rfl) (by kernel_rfl) ?_
  intro X hro hn
  unfold bits_First at h
  refine WX.seq ?_
  refine WC.reg (n := 45) (by assumption) [] [1, 2] [2] ⟨[(1, .p (.s (.int .i64 a1))), (2, .ptr 2 0)], [(2, .box 27 [.p (.s (.int .i64 a0.N)), .p (slV (eI .u64) a0.Words)])], ⟨[], false⟩, []⟩ trivial (by kernel_rfl) ?_
  refine WX.seq ?_
  refine WX.seq ?_
  obtain ⟨t2_2, h2_1, h⟩ := bind_some h
  refine WC.reg (n := 45) (by assumption) [(1, .resP (.s (.int .i64 t2_2)))] [1, 2, 10] [2] ⟨[(1, .p (.s (.int .i64 a1))), (2, .ptr 2 0), (10, .p (.s (.bool ((t2_2 != 0)))))], [(2, .box 27 [.p (.s (.int .i64 a0.N)), .p (slV (eI .u64) a0.Words)])], ⟨[], false⟩, []⟩ (And.intro ((bits_Check_ok h2_1)) (trivial)) (by kernel_rfl) ?_
  rcases if_or h with ⟨c3, h⟩ | ⟨c3, h⟩
  · refine WC.condT c3 (by kernel_rfl) ?_
    refine WX.seq ?_
    refine WC.reg (n := 45) (by assumption) [] [4, 5] [] ⟨[(4, .p (.s (.int .i64 0))), (5, .p (.s (.bool false)))], [], ⟨[], false⟩, []⟩ trivial (by kernel_rfl) ?_
    refine WX.ret ?_
    exact WC.outP (by rw [← Option.some.inj h]; kernel_rfl)
  · refine WC.condF c3 (by kernel_rfl) ?_
    refine WX.skip ?_
    refine WX.seq ?_
    refine WC.reg (n := 45) (by assumption) [] [1, 2] [2] ⟨[(1, .p (.s (.int .i64 ((maxI a1 0))))), (2, .ptr 2 0)], [(2, .box 27 [.p (.s (.int .i64 a0.N)), .p (slV (eI .u64) a0.Words)])], ⟨[], false⟩, []⟩ trivial (by kernel_rfl) ?_
    refine WX.seq ?_
    refine WX.seq ?_
    refine WC.reg (n := 45) (by assumption) [] [1, 2, 6] [2] ⟨[(1, .p (.s (.int .i64 ((maxI a1 0))))), (2, .ptr 2 0), (6, .p (.s (.int .i64 ((IntKind.i64.wrap (((maxI a1 0)).tdiv 64))))))], [(2, .box 27 [.p (.s (.int .i64 a0.N)), .p (slV (eI .u64) a0.Words)])], ⟨[], false⟩, []⟩ trivial (by kernel_rfl) ?_
    obtain ⟨J7, eJ7, h⟩ := jn_some h
    try dsimp only at h
    refine WC.join (α := Unit) (fun v7 => ⟨[], [], ⟨[], false⟩, []⟩) (fun v7 => J7 v7 = some r) ?_ (fun hJ7 => ?_)
    · rintro _ h
      rw [eJ7] at h
      try dsimp only at h
      refine WX.seq ?_
      refine WC.reg (n := 45) (by assumption) [] [4, 5] [] ⟨[(4, .p (.s (.int .i64 0))), (5, .p (.s (.bool false)))], [], ⟨[], false⟩, []⟩ trivial (by kernel_rfl) ?_
      refine WX.ret ?_
      exact WC.outP (by rw [← Option.some.inj h]; kernel_rfl)
    · skip
      refine WX.block ?_
      refine WC.loop (V := Int) (bits_First_l0 a0 a1 J7) r (fun v32 => ⟨[(1, .p (.s (.int .i64 ((maxI a1 0))))), (2, .ptr 2 0), (6, .p (.s (.int .i64 v32)))], [(2, .box 27 [.p (.s (.int .i64 a0.N)), .p (slV (eI .u64) a0.Words)])], ⟨[], false⟩, []⟩) _ ((IntKind.i64.wrap (((maxI a1 0)).tdiv 64))) h (fun _ => rfl) [1, 2, 6] [2] (by kernel_rfl) ?_
      clear h; rintro k x32_1_1 h K32 hnext32 hexit32
      rw [bits_First_l0] at h
      refine WX.seq ?_
      refine WX.seq ?_
      refine WC.reg (n := 45) (by assumption) [] [1, 2, 6, 19] [2] ⟨[(1, .p (.s (.int .i64 ((maxI a1 0))))), (2, .ptr 2 0), (6, .p (.s (.int .i64 x32_1_1))), (19, .p (.s (.bool ((decide (x32_1_1 < (a0.Words.length : Int)))))))], [(2, .box 27 [.p (.s (.int .i64 a0.N)), .p (slV (eI .u64) a0.Words)])], ⟨[], false⟩, []⟩ trivial (by kernel_rfl) ?_
      rcases if_or h with ⟨c56, h⟩ | ⟨c56, h⟩
      · refine WC.condT c56 (by kernel_rfl) ?_
        refine WX.skip ?_
        refine WX.seq ?_
        refine WX.block ?_
        refine WX.seq ?_
        obtain ⟨t57_2, h57_1, h⟩ := bind_some h
        refine WC.reg (n := 45) (by assumption) [(3, .val (.p (.rop ((eI .u64).cells t57_2 ++ encL (eI .u64) (a0.Words.drop (x32_1_1.toNat + 1))))))] [1, 2, 6, 7] [2] ⟨[(1, .p (.s (.int .i64 ((maxI a1 0))))), (2, .ptr 2 0), (6, .p (.s (.int .i64 x32_1_1))), (7, .p (.s (.int .u64 t57_2)))], [(2, .box 27 [.p (.s (.int .i64 a0.N)), .p (slV (eI .u64) a0.Words)])], ⟨[], false⟩, []⟩ (And.intro (Ix (eI .u64) h57_1) (trivial)) (by kernel_rfl) ?_
        refine WX.seq ?_
        refine WX.seq ?_
        refine WC.reg (n := 45) (by assumption) [] [1, 2, 6, 7, 30] [2] ⟨[(1, .p (.s (.int .i64 ((maxI a1 0))))), (2, .ptr 2 0), (6, .p (.s (.int .i64 x32_1_1))), (7, .p (.s (.int .u64 t57_2))), (30, .p (.s (.bool ((x32_1_1 == (IntKind.i64.wrap (((maxI a1 0)).tdiv 64)))))))], [(2, .box 27 [.p (.s (.int .i64 a0.N)), .p (slV (eI .u64) a0.Words)])], ⟨[], false⟩, []⟩ trivial (by kernel_rfl) ?_
        obtain ⟨J59, eJ59, h⟩ := jn_some h
        try dsimp only at h
        refine WC.join (α := Int) (fun v59 => ⟨[(1, .p (.s (.int .i64 ((maxI a1 0))))), (2, .ptr 2 0), (6, .p (.s (.int .i64 x32_1_1))), (7, .p (.s (.int .u64 v59)))], [(2, .box 27 [.p (.s (.int .i64 a0.N)), .p (slV (eI .u64) a0.Words)])], ⟨[], false⟩, []⟩) (fun v59 => J59 v59 = some r) ?_ (fun hJ59 => ?_)
        · rintro y59_1 h
          rw [eJ59] at h
          try dsimp only at h
          refine WX.seq ?_
          refine WC.reg (n := 45) (by assumption) [] [1, 2, 6, 7, 39] [2] ⟨[(1, .p (.s (.int .i64 ((maxI a1 0))))), (2, .ptr 2 0), (6, .p (.s (.int .i64 x32_1_1))), (7, .p (.s (.int .u64 y59_1))), (39, .p (.s (.bool ((y59_1 != 0)))))], [(2, .box 27 [.p (.s (.int .i64 a0.N)), .p (slV (eI .u64) a0.Words)])], ⟨[], false⟩, []⟩ trivial (by kernel_rfl) ?_
          rcases if_or h with ⟨c63, h⟩ | ⟨c63, h⟩
          · refine WC.condT c63 (by kernel_rfl) ?_
            refine WX.seq ?_
            obtain ⟨t64_2, h64_1, h⟩ := bind_some h
            refine WC.reg (n := 45) (by assumption) [(3, .resP (.s (.int .i64 t64_2)))] [4, 5] [] ⟨[(4, .p (.s (.int .i64 ((IntKind.i64.wrap ((IntKind.i64.wrap (64 * x32_1_1)) + t64_2)))))), (5, .p (.s (.bool true)))], [], ⟨[], false⟩, []⟩ (And.intro ((bits_TrailingZeros64_ok h64_1)) (trivial)) (by kernel_rfl) ?_
            refine WX.ret ?_
            refine WC.ret_all (hexit32 _ _ (by simp) ?_)
            exact WC.outP (by rw [← Option.some.inj h]; kernel_rfl)
          · refine WC.condF c63 (by kernel_rfl) ?_
            refine WX.skip ?_
            refine WX.popBlk ?_
            refine WC.reg (n := 45) (by assumption) [] [1, 2, 6] [2] ⟨[(1, .p (.s (.int .i64 ((maxI a1 0))))), (2, .ptr 2 0), (6, .p (.s (.int .i64 ((IntKind.i64.wrap (x32_1_1 + 1))))))], [(2, .box 27 [.p (.s (.int .i64 a0.N)), .p (slV (eI .u64) a0.Words)])], ⟨[], false⟩, []⟩ trivial (by kernel_rfl) ?_
            exact WC.next [1, 2, 6] [2] (by kernel_rfl) (hnext32 ((IntKind.i64.wrap (x32_1_1 + 1))) h)
        · replace hJ59 := fun y59_1 => hJ59 y59_1
          rcases if_or h with ⟨c66, h⟩ | ⟨c66, h⟩
          · refine WC.condT c66 (by kernel_rfl) ?_
            obtain ⟨c67_1, h⟩ := if_some h
            refine WC.reg (n := 45) (by assumption) [(3, .val (.p (.s (.int .u64 (t57_2.fdiv (2 ^ (min ((((maxI a1 0)).tmod 64)).toNat IntKind.u64.bits))))))), (6, .val (.p (.s (.int .u64 (IntKind.u64.wrap ((t57_2.fdiv (2 ^ (min ((((maxI a1 0)).tmod 64)).toNat IntKind.u64.bits))) * 2 ^ (min ((((maxI a1 0)).tmod 64)).toNat IntKind.u64.bits)))))))] [1, 2, 6, 7] [2] ⟨[(1, .p (.s (.int .i64 ((maxI a1 0))))), (2, .ptr 2 0), (6, .p (.s (.int .i64 x32_1_1))), (7, .p (.s (.int .u64 ((IntKind.u64.wrap ((t57_2.fdiv (2 ^ (min ((((maxI a1 0)).tmod 64)).toNat IntKind.u64.bits))) * 2 ^ (min ((((maxI a1 0)).tmod 64)).toNat IntKind.u64.bits)))))))], [(2, .box 27 [.p (.s (.int .i64 a0.N)), .p (slV (eI .u64) a0.Words)])], ⟨[], false⟩, []⟩ (And.intro (Shr .u64 t57_2 ((((maxI a1 0)).tmod 64)) c67_1) (And.intro (Shl .u64 ((t57_2.fdiv (2 ^ (min ((((maxI a1 0)).tmod 64)).toNat IntKind.u64.bits)))) ((((maxI a1 0)).tmod 64)) c67_1) (trivial))) (by kernel_rfl) ?_
            exact WC.keep [1, 2, 6, 7] [2] (by kernel_rfl) (hJ59 ((IntKind.u64.wrap ((t57_2.fdiv (2 ^ (min ((((maxI a1 0)).tmod 64)).toNat IntKind.u64.bits))) * 2 ^ (min ((((maxI a1 0)).tmod 64)).toNat IntKind.u64.bits)))) h)
          · refine WC.condF c66 (by kernel_rfl) ?_
            refine WX.skip ?_
            exact WC.keep [1, 2, 6, 7] [2] (by kernel_rfl) (hJ59 t57_2 h)
      · refine WC.condF c56 (by kernel_rfl) ?_
        refine WX.exit ?_
        refine WX.popCodeExit ?_
        refine WC.exit_nil (hexit32 _ _ (by simp) ?_)
        refine WX.popBlkHit ?_
        exact WC.keep [] [] (by kernel_rfl) (hJ7 () h)
def bits_All (a0 : api_Bits) : Option ((api_Bits)) :=
  (bits_own a0).bind fun t2_2 => some t2_2
theorem bits_All_ok {a0 : api_Bits} {r : (api_Bits)} (h : bits_All a0 = some r) : Ans Tryd.prog 44 [.agg [.s (.int .i64 a0.N), slV (eI .u64) a0.Words]] (.fn 60 [.rop ([.s (.int .i64 r.N), slV (eI .u64) r.Words])]) := by
  refine W_fn Tryd.func44 rfl (by kernel_rfl) (by kernel_rfl) ?_
  intro X hro hn
  unfold bits_All at h
  refine WX.seq ?_
  refine WC.reg (n := 6) (by assumption) [] [1] [1] ⟨[(1, .ptr 1 0)], [(1, .box 27 [.p (.s (.int .i64 a0.N)), .p (slV (eI .u64) a0.Words)])], ⟨[], false⟩, []⟩ trivial (by kernel_rfl) ?_
  refine WX.seq ?_
  obtain ⟨t2_2, h2_1, h⟩ := bind_some h
  refine WC.reg (n := 6) (by assumption) [(1, .co [] [] [] [(4, rowV 51 (eI .u64) t2_2.Words)] (.agg [.p (.s (.int .i64 t2_2.N)), .own 4]))] [1] [1, 4] ⟨[(1, .ptr 1 0)], [(1, .box 27 [.p (.s (.int .i64 t2_2.N)), .own 4]), (4, rowV 51 (eI .u64) t2_2.Words)], ⟨[], false⟩, []⟩ (And.intro (And.intro ((bits_own_ok h2_1).ren 9 4 (by kernel_rfl)) (trivial)) (trivial)) (by kernel_rfl) ?_
  refine WX.seq ?_
  refine WC.reg (n := 6) (by assumption) [] [2] [1, 4] ⟨[(2, .fn 60 [.ptr 1 0])], [(1, .box 27 [.p (.s (.int .i64 t2_2.N)), .own 4]), (4, rowV 51 (eI .u64) t2_2.Words)], ⟨[], false⟩, []⟩ trivial (by kernel_rfl) ?_
  refine WX.ret ?_
  exact WC.outP (by rw [← Option.some.inj h]; kernel_rfl)
def bits_All_1_v1_l0 (a1 : api_Bits) : Nat → (Int × Bool) → Option (List Int)
  | 0, _ => none
  | k + 1, (x2_1_1, x2_1_2) => (if x2_1_2 = true then ((bits_First k a1 ((IntKind.i64.wrap (x2_1_1 + 1)))).bind fun t14_2 => bits_All_1_v1_l0 a1 k (t14_2.1, t14_2.2)).map (x2_1_1 :: ·) else some [])
def bits_All_1_v1 (k : Nat) (a1 : api_Bits) : Option (List Int) :=
  (bits_First k a1 0).bind fun t1_2 => bits_All_1_v1_l0 a1 k (t1_2.1, t1_2.2)
theorem bits_All_1_v1_it {k : Nat} {a1 : api_Bits} {r : List Int} (h : bits_All_1_v1 k a1 = some r) : Iter Tryd.prog 60 [.rop ([.s (.int .i64 a1.N), slV (eI .u64) a1.Words])] (r.map (fun x : Int => ([.int .i64 x] : List Value))) := by
  refine W_it Tryd.func60 rfl (by kernel_rfl) (Nat.le_of_ble_eq_true (by kernel_rfl)) ?_
  intro X hro hn hY
  obtain ⟨L, hLe⟩ : ∃ L, L = r.map (fun x : Int => ([.int .i64 x] : List Value)) := ⟨_, rfl⟩
  rw [← hLe] at hY ⊢
  have hL : ([] : List (List Value)) ++ r.map (fun x : Int => ([.int .i64 x] : List Value)) = L := by rw [hLe]; rfl
  clear hLe
  unfold bits_All_1_v1 at h
  refine WX.seq ?_
  obtain ⟨t1_2, h1_1, h⟩ := bind_some h
  refine WC.reg (n := 22) (by assumption) [(1, .resP (.tup [.s (.int .i64 t1_2.1), .s (.bool t1_2.2)]))] [0, 1, 3, 4] [] ⟨[(0, .yield), (1, .p (.rop ([.s (.int .i64 a1.N), slV (eI .u64) a1.Words]))), (3, .p (.s (.int .i64 t1_2.1))), (4, .p (.s (.bool t1_2.2)))], [], ⟨([] : List (List Value)), false⟩, []⟩ (And.intro ((bits_First_ok h1_1)) (trivial)) (by kernel_rfl) ?_
  refine WX.block ?_
  refine WC.loop (V := Int × Bool × List (List Value)) (fun k v2 => (bits_All_1_v1_l0 a1 k (v2.1, v2.2.1)).map fun r => v2.2.2 ++ r.map (fun x : Int => ([.int .i64 x] : List Value))) L (fun v2 => ⟨[(0, .yield), (1, .p (.rop ([.s (.int .i64 a1.N), slV (eI .u64) a1.Words]))), (3, .p (.s (.int .i64 v2.1))), (4, .p (.s (.bool v2.2.1)))], [], ⟨v2.2.2, false⟩, []⟩) _ (t1_2.1, t1_2.2, ([] : List (List Value))) (by rw [h]; exact congrArg some hL) (fun _ => rfl) [0, 1, 3, 4] [] (by kernel_rfl) ?_
  clear h hL; rintro k ⟨x2_1_1, x2_1_2, x2_1_3⟩ h K2 hnext2 hexit2
  obtain ⟨r, h, hL⟩ := mapO_some h
  dsimp only at h hL
  rw [bits_All_1_v1_l0] at h
  refine WX.seq ?_
  refine WX.seq ?_
  refine WC.reg (n := 22) (by assumption) [] [0, 1, 3, 10] [] ⟨[(0, .yield), (1, .p (.rop ([.s (.int .i64 a1.N), slV (eI .u64) a1.Words]))), (3, .p (.s (.int .i64 x2_1_1))), (10, .p (.s (.bool x2_1_2)))], [], ⟨x2_1_3, false⟩, []⟩ trivial (by kernel_rfl) ?_
  rcases if_or h with ⟨c12, h⟩ | ⟨c12, h⟩
  · refine WC.condT c12 (by kernel_rfl) ?_
    refine WX.skip ?_
    refine WX.seq ?_
    refine WX.block ?_
    refine WX.seq ?_
    obtain ⟨r13, hh13, hr13⟩ := mapO_some h
    subst hr13
    replace h := hh13
    refine WC.yld (n := 22) (by assumption) hY 2 [] [0, 1, 3, 21] [] (⟨[(0, .yield), (1, .p (.rop ([.s (.int .i64 a1.N), slV (eI .u64) a1.Words]))), (3, .p (.s (.int .i64 x2_1_1))), (21, .p (.s (.bool false)))], [], ⟨(x2_1_3 ++ [[.int .i64 x2_1_1]]), false⟩, []⟩) (⟨[(0, .yield), (1, .p (.rop ([.s (.int .i64 a1.N), slV (eI .u64) a1.Words]))), (3, .p (.s (.int .i64 x2_1_1))), (21, .p (.s (.bool true)))], [], ⟨(x2_1_3 ++ [[.int .i64 x2_1_1]]), true⟩, []⟩) x2_1_3 [.int .i64 x2_1_1] (And.intro True.intro (And.intro True.intro True.intro)) (by kernel_rfl) (pre_ok (val := (fun x : Int => ([.int .i64 x] : List Value))) (x := x2_1_1) (l := r13) hL) ?_ ?_
    · replace hL : (x2_1_3 ++ [[.int .i64 x2_1_1]]) ++ r13.map (fun x : Int => ([.int .i64 x] : List Value)) = L := by rw [← hL]; simp
      refine WC.condF rfl (by kernel_rfl) ?_
      refine WX.skip ?_
      refine WX.popBlk ?_
      obtain ⟨t14_2, h14_1, h⟩ := bind_some h
      refine WC.reg (n := 22) (by assumption) [(3, .resP (.tup [.s (.int .i64 t14_2.1), .s (.bool t14_2.2)]))] [0, 1, 3, 4] [] ⟨[(0, .yield), (1, .p (.rop ([.s (.int .i64 a1.N), slV (eI .u64) a1.Words]))), (3, .p (.s (.int .i64 t14_2.1))), (4, .p (.s (.bool t14_2.2)))], [], ⟨(x2_1_3 ++ [[.int .i64 x2_1_1]]), false⟩, []⟩ (And.intro ((bits_First_ok h14_1)) (trivial)) (by kernel_rfl) ?_
      exact WC.next [0, 1, 3, 4] [] (by kernel_rfl) (hnext2 (t14_2.1, t14_2.2, (x2_1_3 ++ [[.int .i64 x2_1_1]])) (by rw [h]; exact congrArg some hL))
    · refine WC.condT rfl (by kernel_rfl) ?_
      refine WX.ret ?_
      refine WC.ret_all (hexit2 _ _ (by simp) ?_)
      exact WC.ret_all ⟨by kernel_rfl, fun h => by cases h⟩
  · refine WC.condF c12 (by kernel_rfl) ?_
    refine WX.exit ?_
    refine WX.popCodeExit ?_
    refine WC.exit_nil (hexit2 _ _ (by simp) ?_)
    refine WX.popBlkHit ?_
    obtain rfl := Option.some.inj h
    exact WC.exit_nil ⟨by kernel_rfl, fun _ => by simpa using hL⟩
def bits_Shift_l0 (k : Nat) (a1 : Int) (t2_2 : api_Bits) (t3_2 : api_Bits) : List Int → List Int → Option (api_Bits)
  | [], x9_1_1 => some ((api_Bits.mk t3_2.N x9_1_1))
  | x9 :: xs9, x9_1_1 => (if (((decide ((IntKind.i64.wrap (x9 + a1)) ≥ 0))) && ((decide ((IntKind.i64.wrap (x9 + a1)) < t2_2.N)))) = true then (at_ x9_1_1 ((IntKind.i64.wrap (((IntKind.i64.wrap (x9 + a1))).tdiv 64)))).bind fun t27_2 => (if ¬ (((IntKind.i64.wrap (x9 + a1))).tmod 64) < 0 then bits_Shift_l0 k a1 t2_2 t3_2 xs9 (x9_1_1.set ((IntKind.i64.wrap (((IntKind.i64.wrap (x9 + a1))).tdiv 64))).toNat ((bits .or .u64 t27_2 ((IntKind.u64.wrap (1 * 2 ^ (min ((((IntKind.i64.wrap (x9 + a1))).tmod 64)).toNat IntKind.u64.bits))))))) else none) else bits_Shift_l0 k a1 t2_2 t3_2 xs9 x9_1_1)
def bits_Shift (k : Nat) (a0 : api_Bits) (a1 : Int) : Option (api_Bits) :=
  (bits_own a0).bind fun t2_2 => (bits_empty t2_2.N).bind fun t3_2 => (if (((decide (a1 ≥ t2_2.N))) || ((decide (a1 ≤ (IntKind.i64.wrap (0 - t2_2.N)))))) = true then some t3_2 else (bits_All t2_2).bind fun t8_2 => (bits_All_1_v1 k t8_2).bind fun l9 => bits_Shift_l0 k a1 t2_2 t3_2 l9 t3_2.Words)
theorem bits_Shift_ok {k : Nat} {a0 : api_Bits} {a1 : Int} {r : api_Bits} (h : bits_Shift k a0 a1 = some r) : AnsO Tryd.prog 11 [] [.p (.agg [.s (.int .i64 a0.N), slV (eI .u64) a0.Words]), .p (.s (.int .i64 a1))] [(12, rowV 51 (eI .u64) r.Words)] (.agg [.p (.s (.int .i64 r.N)), .own 12]) := by
  refine W_fnO [12] Tryd.func11 rfl (by kernel_rfl) (by kernel_rfl) (by kernel_rfl) (by kernel_rfl) ?_
  intro X hro hn
  unfold bits_Shift at h
  refine WX.seq ?_
  refine WC.reg (n := 51) (by assumption) [] [2, 3, 4] [2, 3, 4] ⟨[(2, .ptr 2 0), (3, .ptr 3 0), (4, .ptr 4 0)], [(2, .box 27 [.p (.s (.int .i64 a0.N)), .p (slV (eI .u64) a0.Words)]), (3, .box 3 [.p (.s (.int .i64 a1))]), (4, .box 27 [.p (.s (.int .i64 0)), .p (.sl .nil 0 [])])], ⟨[], false⟩, []⟩ trivial (by kernel_rfl) ?_
  refine WX.seq ?_
  obtain ⟨t2_2, h2_1, h⟩ := bind_some h
  refine WC.reg (n := 51) (by assumption) [(1, .co [] [] [] [(9, rowV 51 (eI .u64) t2_2.Words)] (.agg [.p (.s (.int .i64 t2_2.N)), .own 9]))] [2, 3, 4] [2, 3, 4, 9] ⟨[(2, .ptr 2 0), (3, .ptr 3 0), (4, .ptr 4 0)], [(2, .box 27 [.p (.s (.int .i64 t2_2.N)), .own 9]), (3, .box 3 [.p (.s (.int .i64 a1))]), (4, .box 27 [.p (.s (.int .i64 0)), .p (.sl .nil 0 [])]), (9, rowV 51 (eI .u64) t2_2.Words)], ⟨[], false⟩, []⟩ (And.intro (And.intro (bits_own_ok h2_1) (trivial)) (trivial)) (by kernel_rfl) ?_
  refine WX.seq ?_
  obtain ⟨t3_2, h3_1, h⟩ := bind_some h
  refine WC.reg (n := 51) (by assumption) [(2, .co [] [] [] [(12, rowV 51 (eI .u64) t3_2.Words)] (.agg [.p (.s (.int .i64 t3_2.N)), .own 12]))] [2, 3, 4, 5] [2, 3, 4, 5, 9, 12] ⟨[(2, .ptr 2 0), (3, .ptr 3 0), (4, .ptr 4 0), (5, .ptr 5 0)], [(2, .box 27 [.p (.s (.int .i64 t2_2.N)), .own 9]), (3, .box 3 [.p (.s (.int .i64 a1))]), (4, .box 27 [.p (.s (.int .i64 0)), .p (.sl .nil 0 [])]), (5, .box 27 [.p (.s (.int .i64 t3_2.N)), .own 12]), (9, rowV 51 (eI .u64) t2_2.Words), (12, rowV 51 (eI .u64) t3_2.Words)], ⟨[], false⟩, []⟩ (And.intro (And.intro ((bits_empty_ok h3_1).ren 6 12 (by kernel_rfl)) (trivial)) (trivial)) (by kernel_rfl) ?_
  refine WX.seq ?_
  refine WX.seq ?_
  refine WC.via (α := Bool) (fun v4 => ⟨[(2, .ptr 2 0), (3, .ptr 3 0), (4, .ptr 4 0), (5, .ptr 5 0), (23, .p (.s (.bool v4)))], [(2, .box 27 [.p (.s (.int .i64 t2_2.N)), .own 9]), (3, .box 3 [.p (.s (.int .i64 a1))]), (4, .box 27 [.p (.s (.int .i64 0)), .p (.sl .nil 0 [])]), (5, .box 27 [.p (.s (.int .i64 t3_2.N)), .own 12]), (9, rowV 51 (eI .u64) t2_2.Words), (12, rowV 51 (eI .u64) t3_2.Words)], ⟨[], false⟩, []⟩) ((((decide (a1 ≥ t2_2.N))) || ((decide (a1 ≤ (IntKind.i64.wrap (0 - t2_2.N))))))) (fun hk => ?_) ?_
  · rcases Bool.eq_false_or_eq_true ((decide (a1 ≥ t2_2.N))) with b4_4 | b4_4
    · exact WC.reg (n := 51) (by assumption) [(4, .val (.p (.s (.bool true))))] [2, 3, 4, 5, 23] [2, 3, 4, 5, 9, 12] ⟨[(2, .ptr 2 0), (3, .ptr 3 0), (4, .ptr 4 0), (5, .ptr 5 0), (23, .p (.s (.bool true)))], [(2, .box 27 [.p (.s (.int .i64 t2_2.N)), .own 9]), (3, .box 3 [.p (.s (.int .i64 a1))]), (4, .box 27 [.p (.s (.int .i64 0)), .p (.sl .nil 0 [])]), (5, .box 27 [.p (.s (.int .i64 t3_2.N)), .own 12]), (9, rowV 51 (eI .u64) t2_2.Words), (12, rowV 51 (eI .u64) t3_2.Words)], ⟨[], false⟩, []⟩ (And.intro (Bl b4_4) (trivial)) (by kernel_rfl) (hk true (by first | (rw [b4_4]; rfl) | simp [b4_4]))
    · exact WC.reg (n := 51) (by assumption) [(4, .val (.p (.s (.bool false))))] [2, 3, 4, 5, 23] [2, 3, 4, 5, 9, 12] ⟨[(2, .ptr 2 0), (3, .ptr 3 0), (4, .ptr 4 0), (5, .ptr 5 0), (23, .p (.s (.bool ((decide (a1 ≤ (IntKind.i64.wrap (0 - t2_2.N))))))))], [(2, .box 27 [.p (.s (.int .i64 t2_2.N)), .own 9]), (3, .box 3 [.p (.s (.int .i64 a1))]), (4, .box 27 [.p (.s (.int .i64 0)), .p (.sl .nil 0 [])]), (5, .box 27 [.p (.s (.int .i64 t3_2.N)), .own 12]), (9, rowV 51 (eI .u64) t2_2.Words), (12, rowV 51 (eI .u64) t3_2.Words)], ⟨[], false⟩, []⟩ (And.intro (Bl b4_4) (trivial)) (by kernel_rfl) (hk ((decide (a1 ≤ (IntKind.i64.wrap (0 - t2_2.N))))) (by first | (rw [b4_4]; rfl) | simp [b4_4]))
  rcases if_or h with ⟨c5, h⟩ | ⟨c5, h⟩
  · refine WC.condT c5 (by kernel_rfl) ?_
    refine WX.seq ?_
    refine WC.reg (n := 51) (by assumption) [] [4] [4, 12] ⟨[(4, .ptr 4 0)], [(4, .box 27 [.p (.s (.int .i64 t3_2.N)), .own 12]), (12, rowV 51 (eI .u64) t3_2.Words)], ⟨[], false⟩, []⟩ trivial (by kernel_rfl) ?_
    refine WX.ret ?_
    exact WC.outO (by rw [← Option.some.inj h]; kernel_rfl)
  · refine WC.condF c5 (by kernel_rfl) ?_
    refine WX.skip ?_
    refine WX.seq ?_
    refine WX.seq ?_
    refine WC.frz 9 (st' := ⟨[(2, .ptr 2 0), (3, .ptr 3 0), (4, .ptr 4 0), (5, .ptr 5 0), (23, .p (.s (.bool ((((decide (a1 ≥ t2_2.N))) || ((decide (a1 ≤ (IntKind.i64.wrap (0 - t2_2.N))))))))))], [(2, .box 27 [.p (.s (.int .i64 t2_2.N)), .p (slV (eI .u64) t2_2.Words)]), (3, .box 3 [.p (.s (.int .i64 a1))]), (4, .box 27 [.p (.s (.int .i64 0)), .p (.sl .nil 0 [])]), (5, .box 27 [.p (.s (.int .i64 t3_2.N)), .own 12]), (12, rowV 51 (eI .u64) t3_2.Words)], ⟨[], false⟩, []⟩) (by kernel_rfl) ?_
    obtain ⟨t8_2, h8_1, h⟩ := bind_some h
    refine WC.reg (n := 51) (by assumption) [(1, .resP (.fn 60 [.rop ([.s (.int .i64 t8_2.N), slV (eI .u64) t8_2.Words])]))] [2, 3, 4, 5, 26] [2, 3, 4, 5, 12] ⟨[(2, .ptr 2 0), (3, .ptr 3 0), (4, .ptr 4 0), (5, .ptr 5 0), (26, .p (.fn 60 [.rop ([.s (.int .i64 t8_2.N), slV (eI .u64) t8_2.Words])]))], [(2, .box 27 [.p (.s (.int .i64 t2_2.N)), .p (slV (eI .u64) t2_2.Words)]), (3, .box 3 [.p (.s (.int .i64 a1))]), (4, .box 27 [.p (.s (.int .i64 0)), .p (.sl .nil 0 [])]), (5, .box 27 [.p (.s (.int .i64 t3_2.N)), .own 12]), (12, rowV 51 (eI .u64) t3_2.Words)], ⟨[], false⟩, []⟩ (And.intro ((bits_All_ok h8_1)) (trivial)) (by kernel_rfl) ?_
    refine WX.block ?_
    obtain ⟨l9, hI9, h⟩ := bind_some h
    refine WC.range (V := List Int) (n := 51) (by assumption) (bits_Shift_l0 k a1 t2_2 t3_2) r (fun v9 => ⟨[(2, .ptr 2 0), (3, .ptr 3 0), (4, .ptr 4 0), (5, .ptr 5 0), (26, .p (.fn 60 [.rop ([.s (.int .i64 t8_2.N), slV (eI .u64) t8_2.Words])]))], [(2, .box 27 [.p (.s (.int .i64 t2_2.N)), .p (slV (eI .u64) t2_2.Words)]), (3, .box 3 [.p (.s (.int .i64 a1))]), (4, .box 27 [.p (.s (.int .i64 0)), .p (.sl .nil 0 [])]), (5, .box 27 [.p (.s (.int .i64 t3_2.N)), .own 12]), (12, rowV 51 (eI .u64) v9)], ⟨[], false⟩, []⟩) (fun x9 v9 => ⟨[(2, .ptr 2 0), (3, .ptr 3 0), (4, .ptr 4 0), (5, .ptr 5 0), (6, .p (.s (.int .i64 x9))), (26, .p (.fn 60 [.rop ([.s (.int .i64 t8_2.N), slV (eI .u64) t8_2.Words])])), (27, .p (.s (.int .i64 x9)))], [(2, .box 27 [.p (.s (.int .i64 t2_2.N)), .p (slV (eI .u64) t2_2.Words)]), (3, .box 3 [.p (.s (.int .i64 a1))]), (4, .box 27 [.p (.s (.int .i64 0)), .p (.sl .nil 0 [])]), (5, .box 27 [.p (.s (.int .i64 t3_2.N)), .own 12]), (12, rowV 51 (eI .u64) v9)], ⟨[], false⟩, [[(2, .ptr 2 0), (3, .ptr 3 0), (4, .ptr 4 0), (5, .ptr 5 0), (26, .p (.fn 60 [.rop ([.s (.int .i64 t8_2.N), slV (eI .u64) t8_2.Words])]))]]⟩) (fun x : Int => ([.int .i64 x] : List Value)) l9 t3_2.Words h [2, 3, 4, 5, 26] [2, 3, 4, 5, 12] (by kernel_rfl) (fun v9 => .p (.fn 60 [.rop ([.s (.int .i64 t8_2.N), slV (eI .u64) t8_2.Words])])) (fun v9 => by kernel_rfl) (by kernel_rfl) (bits_All_1_v1_it hI9) (by kernel_rfl) (fun v9 => by kernel_rfl) (fun x => ⟨rfl, rfl⟩) ?_ ?_ ?_
    · clear h; rintro x9_1_1 h
      rw [bits_Shift_l0] at h
      refine WX.popBlk ?_
      refine WX.seq ?_
      refine WC.reg (n := 51) (by assumption) [] [4] [4, 12] ⟨[(4, .ptr 4 0)], [(4, .box 27 [.p (.s (.int .i64 t3_2.N)), .own 12]), (12, rowV 51 (eI .u64) x9_1_1)], ⟨[], false⟩, []⟩ trivial (by kernel_rfl) ?_
      refine WX.ret ?_
      exact WC.outO (by rw [← Option.some.inj h]; kernel_rfl)
    · clear h; intro X hn x9; rintro x9_1_1
      refine WC.reg (n := 51) (by assumption) [] [2, 3, 4, 5, 6, 26, 27] [2, 3, 4, 5, 12] ⟨[(2, .ptr 2 0), (3, .ptr 3 0), (4, .ptr 4 0), (5, .ptr 5 0), (6, .p (.s (.int .i64 x9))), (26, .p (.fn 60 [.rop ([.s (.int .i64 t8_2.N), slV (eI .u64) t8_2.Words])])), (27, .p (.s (.int .i64 x9)))], [(2, .box 27 [.p (.s (.int .i64 t2_2.N)), .p (slV (eI .u64) t2_2.Words)]), (3, .box 3 [.p (.s (.int .i64 a1))]), (4, .box 27 [.p (.s (.int .i64 0)), .p (.sl .nil 0 [])]), (5, .box 27 [.p (.s (.int .i64 t3_2.N)), .own 12]), (12, rowV 51 (eI .u64) x9_1_1)], ⟨[], false⟩, [[(2, .ptr 2 0), (3, .ptr 3 0), (4, .ptr 4 0), (5, .ptr 5 0), (26, .p (.fn 60 [.rop ([.s (.int .i64 t8_2.N), slV (eI .u64) t8_2.Words])]))]]⟩ trivial (by kernel_rfl) ?_
      exact WC.exit_nil ⟨rfl, rfl⟩
    · clear h; intro X hn x9 xs9; rintro x9_1_1 h K9 hnext9 hexit9
      rw [bits_Shift_l0] at h
      refine WX.block ?_
      refine WX.seq ?_
      refine WC.reg (n := 51) (by assumption) [] [2, 5, 7] [2, 3, 4, 5, 12] ⟨[(2, .ptr 2 0), (5, .ptr 5 0), (7, .p (.s (.int .i64 ((IntKind.i64.wrap (x9 + a1))))))], [(2, .box 27 [.p (.s (.int .i64 t2_2.N)), .p (slV (eI .u64) t2_2.Words)]), (3, .box 3 [.p (.s (.int .i64 a1))]), (4, .box 27 [.p (.s (.int .i64 0)), .p (.sl .nil 0 [])]), (5, .box 27 [.p (.s (.int .i64 t3_2.N)), .own 12]), (12, rowV 51 (eI .u64) x9_1_1)], ⟨[], false⟩, [[(2, .ptr 2 0), (3, .ptr 3 0), (4, .ptr 4 0), (5, .ptr 5 0), (26, .p (.fn 60 [.rop ([.s (.int .i64 t8_2.N), slV (eI .u64) t8_2.Words])]))]]⟩ trivial (by kernel_rfl) ?_
      refine WX.seq ?_
      refine WC.via (α := Bool) (fun v25 => ⟨[(5, .ptr 5 0), (7, .p (.s (.int .i64 ((IntKind.i64.wrap (x9 + a1)))))), (38, .p (.s (.bool v25)))], [(2, .box 27 [.p (.s (.int .i64 t2_2.N)), .p (slV (eI .u64) t2_2.Words)]), (3, .box 3 [.p (.s (.int .i64 a1))]), (4, .box 27 [.p (.s (.int .i64 0)), .p (.sl .nil 0 [])]), (5, .box 27 [.p (.s (.int .i64 t3_2.N)), .own 12]), (12, rowV 51 (eI .u64) x9_1_1)], ⟨[], false⟩, [[(2, .ptr 2 0), (3, .ptr 3 0), (4, .ptr 4 0), (5, .ptr 5 0), (26, .p (.fn 60 [.rop ([.s (.int .i64 t8_2.N), slV (eI .u64) t8_2.Words])]))]]⟩) ((((decide ((IntKind.i64.wrap (x9 + a1)) ≥ 0))) && ((decide ((IntKind.i64.wrap (x9 + a1)) < t2_2.N))))) (fun hk => ?_) ?_
      · rcases Bool.eq_false_or_eq_true ((decide ((IntKind.i64.wrap (x9 + a1)) ≥ 0))) with b25_2 | b25_2
        · exact WC.reg (n := 51) (by assumption) [(2, .val (.p (.s (.bool true))))] [5, 7, 38] [2, 3, 4, 5, 12] ⟨[(5, .ptr 5 0), (7, .p (.s (.int .i64 ((IntKind.i64.wrap (x9 + a1)))))), (38, .p (.s (.bool ((decide ((IntKind.i64.wrap (x9 + a1)) < t2_2.N))))))], [(2, .box 27 [.p (.s (.int .i64 t2_2.N)), .p (slV (eI .u64) t2_2.Words)]), (3, .box 3 [.p (.s (.int .i64 a1))]), (4, .box 27 [.p (.s (.int .i64 0)), .p (.sl .nil 0 [])]), (5, .box 27 [.p (.s (.int .i64 t3_2.N)), .own 12]), (12, rowV 51 (eI .u64) x9_1_1)], ⟨[], false⟩, [[(2, .ptr 2 0), (3, .ptr 3 0), (4, .ptr 4 0), (5, .ptr 5 0), (26, .p (.fn 60 [.rop ([.s (.int .i64 t8_2.N), slV (eI .u64) t8_2.Words])]))]]⟩ (And.intro (Bl b25_2) (trivial)) (by kernel_rfl) (hk ((decide ((IntKind.i64.wrap (x9 + a1)) < t2_2.N))) (by first | (rw [b25_2]; rfl) | simp [b25_2]))
        · exact WC.reg (n := 51) (by assumption) [(2, .val (.p (.s (.bool false))))] [5, 7, 38] [2, 3, 4, 5, 12] ⟨[(5, .ptr 5 0), (7, .p (.s (.int .i64 ((IntKind.i64.wrap (x9 + a1)))))), (38, .p (.s (.bool false)))], [(2, .box 27 [.p (.s (.int .i64 t2_2.N)), .p (slV (eI .u64) t2_2.Words)]), (3, .box 3 [.p (.s (.int .i64 a1))]), (4, .box 27 [.p (.s (.int .i64 0)), .p (.sl .nil 0 [])]), (5, .box 27 [.p (.s (.int .i64 t3_2.N)), .own 12]), (12, rowV 51 (eI .u64) x9_1_1)], ⟨[], false⟩, [[(2, .ptr 2 0), (3, .ptr 3 0), (4, .ptr 4 0), (5, .ptr 5 0), (26, .p (.fn 60 [.rop ([.s (.int .i64 t8_2.N), slV (eI .u64) t8_2.Words])]))]]⟩ (And.intro (Bl b25_2) (trivial)) (by kernel_rfl) (hk false (by first | (rw [b25_2]; rfl) | simp [b25_2]))
      rcases if_or h with ⟨c26, h⟩ | ⟨c26, h⟩
      · refine WC.condT c26 (by kernel_rfl) ?_
        obtain ⟨t27_2, h27_1, h⟩ := bind_some h
        obtain ⟨c27_3, h⟩ := if_some h
        refine WC.drw (n := 51) (by assumption) [(11, [])] [] [(4, .val (.ptr 12 (((IntKind.i64.wrap (((IntKind.i64.wrap (x9 + a1))).tdiv 64))).toNat * 1))), (5, .val (.p (.s (.int .u64 t27_2)))), (8, .val (.p (.s (.int .u64 (IntKind.u64.wrap (1 * 2 ^ (min ((((IntKind.i64.wrap (x9 + a1))).tmod 64)).toNat IntKind.u64.bits))))))), (10, .val (.ptr 12 (((IntKind.i64.wrap (((IntKind.i64.wrap (x9 + a1))).tdiv 64))).toNat * 1))), (11, .sto 12 (rowV 51 (eI .u64) (x9_1_1.set ((IntKind.i64.wrap (((IntKind.i64.wrap (x9 + a1))).tdiv 64))).toNat ((bits .or .u64 t27_2 ((IntKind.u64.wrap (1 * 2 ^ (min ((((IntKind.i64.wrap (x9 + a1))).tmod 64)).toNat IntKind.u64.bits)))))))))] [] [2, 3, 4, 5, 12] ⟨[], [(2, .box 27 [.p (.s (.int .i64 t2_2.N)), .p (slV (eI .u64) t2_2.Words)]), (3, .box 3 [.p (.s (.int .i64 a1))]), (4, .box 27 [.p (.s (.int .i64 0)), .p (.sl .nil 0 [])]), (5, .box 27 [.p (.s (.int .i64 t3_2.N)), .own 12]), (12, rowV 51 (eI .u64) (x9_1_1.set ((IntKind.i64.wrap (((IntKind.i64.wrap (x9 + a1))).tdiv 64))).toNat ((bits .or .u64 t27_2 ((IntKind.u64.wrap (1 * 2 ^ (min ((((IntKind.i64.wrap (x9 + a1))).tmod 64)).toNat IntKind.u64.bits))))))))], ⟨[], false⟩, [[(2, .ptr 2 0), (3, .ptr 3 0), (4, .ptr 4 0), (5, .ptr 5 0), (26, .p (.fn 60 [.rop ([.s (.int .i64 t8_2.N), slV (eI .u64) t8_2.Words])]))]]⟩ (And.intro (IxO 12 1 h27_1) (And.intro (LdO0 Tryd.prog (eI .u64) 51 h27_1) (And.intro (Shl .u64 1 ((((IntKind.i64.wrap (x9 + a1))).tmod 64)) c27_3) (And.intro (IxO 12 1 h27_1) (And.intro (StO0 (eI .u64) 12 51 1 1 [.s (.int .u64 ((bits .or .u64 t27_2 ((IntKind.u64.wrap (1 * 2 ^ (min ((((IntKind.i64.wrap (x9 + a1))).tmod 64)).toNat IntKind.u64.bits)))))))] ((bits .or .u64 t27_2 ((IntKind.u64.wrap (1 * 2 ^ (min ((((IntKind.i64.wrap (x9 + a1))).tmod 64)).toNat IntKind.u64.bits)))))) h27_1 rfl rfl (by decide)) (trivial)))))) (by kernel_rfl) (by kernel_rfl) (by kernel_rfl) (by kernel_rfl) ?_
        refine WX.popBlk ?_
        refine WC.keep [] [2, 3, 4, 5, 12] (st' := ⟨[], [(2, .box 27 [.p (.s (.int .i64 t2_2.N)), .p (slV (eI .u64) t2_2.Words)]), (3, .box 3 [.p (.s (.int .i64 a1))]), (4, .box 27 [.p (.s (.int .i64 0)), .p (.sl .nil 0 [])]), (5, .box 27 [.p (.s (.int .i64 t3_2.N)), .own 12]), (12, rowV 51 (eI .u64) (x9_1_1.set ((IntKind.i64.wrap (((IntKind.i64.wrap (x9 + a1))).tdiv 64))).toNat ((bits .or .u64 t27_2 ((IntKind.u64.wrap (1 * 2 ^ (min ((((IntKind.i64.wrap (x9 + a1))).tmod 64)).toNat IntKind.u64.bits))))))))], ⟨[], false⟩, [[(2, .ptr 2 0), (3, .ptr 3 0), (4, .ptr 4 0), (5, .ptr 5 0), (26, .p (.fn 60 [.rop ([.s (.int .i64 t8_2.N), slV (eI .u64) t8_2.Words])]))]]⟩) (by kernel_rfl) ?_
        exact WC.nextR [] [2, 3, 4, 5, 12] (s := ⟨[], [(2, .box 27 [.p (.s (.int .i64 t2_2.N)), .p (slV (eI .u64) t2_2.Words)]), (3, .box 3 [.p (.s (.int .i64 a1))]), (4, .box 27 [.p (.s (.int .i64 0)), .p (.sl .nil 0 [])]), (5, .box 27 [.p (.s (.int .i64 t3_2.N)), .own 12]), (12, rowV 51 (eI .u64) (x9_1_1.set ((IntKind.i64.wrap (((IntKind.i64.wrap (x9 + a1))).tdiv 64))).toNat ((bits .or .u64 t27_2 ((IntKind.u64.wrap (1 * 2 ^ (min ((((IntKind.i64.wrap (x9 + a1))).tmod 64)).toNat IntKind.u64.bits))))))))], ⟨[], false⟩, [[(2, .ptr 2 0), (3, .ptr 3 0), (4, .ptr 4 0), (5, .ptr 5 0), (26, .p (.fn 60 [.rop ([.s (.int .i64 t8_2.N), slV (eI .u64) t8_2.Words])]))]]⟩) (by kernel_rfl) rfl (fun s hb => hnext9 (x9_1_1.set ((IntKind.i64.wrap (((IntKind.i64.wrap (x9 + a1))).tdiv 64))).toNat ((bits .or .u64 t27_2 ((IntKind.u64.wrap (1 * 2 ^ (min ((((IntKind.i64.wrap (x9 + a1))).tmod 64)).toNat IntKind.u64.bits))))))) s h hb)
      · refine WC.condF c26 (by kernel_rfl) ?_
        refine WX.skip ?_
        refine WX.popBlk ?_
        refine WC.keep [] [2, 3, 4, 5, 12] (st' := ⟨[], [(2, .box 27 [.p (.s (.int .i64 t2_2.N)), .p (slV (eI .u64) t2_2.Words)]), (3, .box 3 [.p (.s (.int .i64 a1))]), (4, .box 27 [.p (.s (.int .i64 0)), .p (.sl .nil 0 [])]), (5, .box 27 [.p (.s (.int .i64 t3_2.N)), .own 12]), (12, rowV 51 (eI .u64) x9_1_1)], ⟨[], false⟩, [[(2, .ptr 2 0), (3, .ptr 3 0), (4, .ptr 4 0), (5, .ptr 5 0), (26, .p (.fn 60 [.rop ([.s (.int .i64 t8_2.N), slV (eI .u64) t8_2.Words])]))]]⟩) (by kernel_rfl) ?_
        exact WC.nextR [] [2, 3, 4, 5, 12] (s := ⟨[], [(2, .box 27 [.p (.s (.int .i64 t2_2.N)), .p (slV (eI .u64) t2_2.Words)]), (3, .box 3 [.p (.s (.int .i64 a1))]), (4, .box 27 [.p (.s (.int .i64 0)), .p (.sl .nil 0 [])]), (5, .box 27 [.p (.s (.int .i64 t3_2.N)), .own 12]), (12, rowV 51 (eI .u64) x9_1_1)], ⟨[], false⟩, [[(2, .ptr 2 0), (3, .ptr 3 0), (4, .ptr 4 0), (5, .ptr 5 0), (26, .p (.fn 60 [.rop ([.s (.int .i64 t8_2.N), slV (eI .u64) t8_2.Words])]))]]⟩) (by kernel_rfl) rfl (fun s hb => hnext9 x9_1_1 s h hb)
theorem bits_Shift_okP {k : Nat} {a0 : api_Bits} {a1 : Int} {r : api_Bits} (h : bits_Shift k a0 a1 = some r) : Ans Tryd.prog 11 [.agg [.s (.int .i64 a0.N), slV (eI .u64) a0.Words], .s (.int .i64 a1)] (.agg [.s (.int .i64 r.N), slV (eI .u64) r.Words]) := AnsO.ans (args := [.agg [.s (.int .i64 a0.N), slV (eI .u64) a0.Words], .s (.int .i64 a1)]) (bits_Shift_ok h) (by kernel_rfl)
def bits_Has (a0 : api_Bits) (a1 : Int) : Option (Bool) :=
  (bits_Check a0).bind fun t2_2 => ((if (t2_2 == 0) = true then (if (decide (a1 ≥ 0)) = true then (if (decide (a1 < a0.N)) = true then (at_ a0.Words ((IntKind.i64.wrap (a1.tdiv 64)))).bind fun t2_4 => (if ¬ (a1.tmod 64) < 0 then some (((bits .and .u64 ((t2_4.fdiv (2 ^ (min ((a1.tmod 64)).toNat IntKind.u64.bits)))) 1) == 1)) else none) else some false) else some false) else some false) : Option (Bool)).bind fun v2 => some v2
theorem bits_Has_ok {a0 : api_Bits} {a1 : Int} {r : Bool} (h : bits_Has a0 a1 = some r) : Ans Tryd.prog 19 [.agg [.s (.int .i64 a0.N), slV (eI .u64) a0.Words], .s (.int .i64 a1)] (.s (.bool r)) := by
  refine W_fn Tryd.func19 rfl (by kernel_rfl) (by kernel_rfl) ?_
  intro X hro hn
  unfold bits_Has at h
  refine WX.seq ?_
  refine WC.reg (n := 31) (by assumption) [] [1, 2] [2] ⟨[(1, .p (.s (.int .i64 a1))), (2, .ptr 2 0)], [(2, .box 27 [.p (.s (.int .i64 a0.N)), .p (slV (eI .u64) a0.Words)])], ⟨[], false⟩, []⟩ trivial (by kernel_rfl) ?_
  refine WX.seq ?_
  obtain ⟨t2_2, h2_1, h⟩ := bind_some h
  obtain ⟨m2_1, g2, h⟩ := bind_some h
  refine WC.via (α := Bool) (fun v2 => ⟨[(4, .p (.s (.bool v2)))], [], ⟨[], false⟩, []⟩) m2_1 (fun hk => ?_) ?_
  · rcases if_or g2 with ⟨b2_3, g2⟩ | ⟨b2_3, g2⟩
    · rcases if_or g2 with ⟨b2_7, g2⟩ | ⟨b2_7, g2⟩
      · rcases if_or g2 with ⟨b2_13, g2⟩ | ⟨b2_13, g2⟩
        · obtain ⟨t2_4, h2_3, g2⟩ := bind_some g2
          obtain ⟨c2_5, g2⟩ := if_some g2
          exact WC.reg (n := 31) (by assumption) [(1, .resP (.s (.int .i64 t2_2))), (3, .val (.p (.s (.bool true)))), (7, .val (.p (.s (.bool true)))), (13, .val (.p (.s (.bool true)))), (18, .val (.p (.rop ((eI .u64).cells t2_4 ++ encL (eI .u64) (a0.Words.drop (((IntKind.i64.wrap (a1.tdiv 64))).toNat + 1)))))), (22, .val (.p (.s (.int .u64 (t2_4.fdiv (2 ^ (min ((a1.tmod 64)).toNat IntKind.u64.bits)))))))] [4] [] ⟨[(4, .p (.s (.bool (((bits .and .u64 ((t2_4.fdiv (2 ^ (min ((a1.tmod 64)).toNat IntKind.u64.bits)))) 1) == 1)))))], [], ⟨[], false⟩, []⟩ (And.intro ((bits_Check_ok h2_1)) (And.intro (Bl b2_3) (And.intro (Bl b2_7) (And.intro (Bl b2_13) (And.intro (Ix (eI .u64) h2_3) (And.intro (Shr .u64 t2_4 ((a1.tmod 64)) c2_5) (trivial))))))) (by kernel_rfl) (hk (((bits .and .u64 ((t2_4.fdiv (2 ^ (min ((a1.tmod 64)).toNat IntKind.u64.bits)))) 1) == 1)) (Option.some.inj g2))
        · exact WC.reg (n := 31) (by assumption) [(1, .resP (.s (.int .i64 t2_2))), (3, .val (.p (.s (.bool true)))), (7, .val (.p (.s (.bool true)))), (13, .val (.p (.s (.bool false))))] [4] [] ⟨[(4, .p (.s (.bool false)))], [], ⟨[], false⟩, []⟩ (And.intro ((bits_Check_ok h2_1)) (And.intro (Bl b2_3) (And.intro (Bl b2_7) (And.intro (Bl b2_13) (trivial))))) (by kernel_rfl) (hk false (Option.some.inj g2))
      · exact WC.reg (n := 31) (by assumption) [(1, .resP (.s (.int .i64 t2_2))), (3, .val (.p (.s (.bool true)))), (7, .val (.p (.s (.bool false))))] [4] [] ⟨[(4, .p (.s (.bool false)))], [], ⟨[], false⟩, []⟩ (And.intro ((bits_Check_ok h2_1)) (And.intro (Bl b2_3) (And.intro (Bl b2_7) (trivial)))) (by kernel_rfl) (hk false (Option.some.inj g2))
    · exact WC.reg (n := 31) (by assumption) [(1, .resP (.s (.int .i64 t2_2))), (3, .val (.p (.s (.bool false))))] [4] [] ⟨[(4, .p (.s (.bool false)))], [], ⟨[], false⟩, []⟩ (And.intro ((bits_Check_ok h2_1)) (And.intro (Bl b2_3) (trivial))) (by kernel_rfl) (hk false (Option.some.inj g2))
  refine WX.ret ?_
  exact WC.outP (by rw [← Option.some.inj h]; kernel_rfl)
def slices_Equal_uint64_uint64_l0 (a0 : (List Int)) (a1 : (List Int)) (J6 : Unit → Option (Bool)) : Nat → Int → Option (Bool)
  | 0, _ => none
  | k + 1, x23_1_1 => (if (decide (x23_1_1 < (a0.length : Int))) = true then (at_ a0 x23_1_1).bind fun t41_2 => (at_ a1 x23_1_1).bind fun t41_4 => (if (t41_2 != t41_4) = true then some false else slices_Equal_uint64_uint64_l0 a0 a1 J6 k ((IntKind.i64.wrap (x23_1_1 + 1)))) else J6 ())
def slices_Equal_uint64_uint64 (k : Nat) (a0 : (List Int)) (a1 : (List Int)) : Option (Bool) :=
  (if ((a0.length : Int) != (a1.length : Int)) = true then some false else jn (fun (v6 : Unit) => some true) fun J6 => slices_Equal_uint64_uint64_l0 a0 a1 J6 k 0)
theorem slices_Equal_uint64_uint64_ok {k : Nat} {a0 : (List Int)} {a1 : (List Int)} {r : Bool} (h : slices_Equal_uint64_uint64 k a0 a1 = some r) : Ans Tryd.prog 37 [slV (eI .u64) a0, slV (eI .u64) a1] (.s (.bool r)) := by
  refine W_fn Tryd.func37 rfl (by kernel_rfl) (by kernel_rfl) ?_
  intro X hro hn
  unfold slices_Equal_uint64_uint64 at h
  refine WX.seq ?_
  refine WC.reg (n := 26) (by assumption) [] [0, 1] [] ⟨[(0, .p (slV (eI .u64) a0)), (1, .p (slV (eI .u64) a1))], [], ⟨[], false⟩, []⟩ trivial (by kernel_rfl) ?_
  refine WX.seq ?_
  refine WX.seq ?_
  refine WC.reg (n := 26) (by assumption) [] [0, 1, 10] [] ⟨[(0, .p (slV (eI .u64) a0)), (1, .p (slV (eI .u64) a1)), (10, .p (.s (.bool (((a0.length : Int) != (a1.length : Int))))))], [], ⟨[], false⟩, []⟩ trivial (by kernel_rfl) ?_
  rcases if_or h with ⟨c3, h⟩ | ⟨c3, h⟩
  · refine WC.condT c3 (by kernel_rfl) ?_
    refine WX.seq ?_
    refine WC.reg (n := 26) (by assumption) [] [4] [] ⟨[(4, .p (.s (.bool false)))], [], ⟨[], false⟩, []⟩ trivial (by kernel_rfl) ?_
    refine WX.ret ?_
    exact WC.outP (by rw [← Option.some.inj h]; kernel_rfl)
  · refine WC.condF c3 (by kernel_rfl) ?_
    refine WX.skip ?_
    refine WX.seq ?_
    refine WX.seq ?_
    refine WC.reg (n := 26) (by assumption) [] [0, 1, 12, 13] [] ⟨[(0, .p (slV (eI .u64) a0)), (1, .p (slV (eI .u64) a1)), (12, .p (.s (.int .i64 ((a0.length : Int))))), (13, .p (.s (.int .i64 0)))], [], ⟨[], false⟩, []⟩ trivial (by kernel_rfl) ?_
    obtain ⟨J6, eJ6, h⟩ := jn_some h
    try dsimp only at h
    refine WC.join (α := Unit) (fun v6 => ⟨[], [], ⟨[], false⟩, []⟩) (fun v6 => J6 v6 = some r) ?_ (fun hJ6 => ?_)
    · rintro _ h
      rw [eJ6] at h
      try dsimp only at h
      refine WX.seq ?_
      refine WC.reg (n := 26) (by assumption) [] [4] [] ⟨[(4, .p (.s (.bool true)))], [], ⟨[], false⟩, []⟩ trivial (by kernel_rfl) ?_
      refine WX.ret ?_
      exact WC.outP (by rw [← Option.some.inj h]; kernel_rfl)
    · skip
      refine WX.block ?_
      refine WC.loop (V := Int) (slices_Equal_uint64_uint64_l0 a0 a1 J6) r (fun v23 => ⟨[(0, .p (slV (eI .u64) a0)), (1, .p (slV (eI .u64) a1)), (12, .p (.s (.int .i64 ((a0.length : Int))))), (13, .p (.s (.int .i64 v23)))], [], ⟨[], false⟩, []⟩) _ 0 h (fun _ => rfl) [0, 1, 12, 13] [] (by kernel_rfl) ?_
      clear h; rintro k x23_1_1 h K23 hnext23 hexit23
      rw [slices_Equal_uint64_uint64_l0] at h
      refine WX.seq ?_
      refine WC.reg (n := 26) (by assumption) [] [0, 1, 12, 13, 14] [] ⟨[(0, .p (slV (eI .u64) a0)), (1, .p (slV (eI .u64) a1)), (12, .p (.s (.int .i64 ((a0.length : Int))))), (13, .p (.s (.int .i64 x23_1_1))), (14, .p (.s (.bool ((decide (x23_1_1 < (a0.length : Int)))))))], [], ⟨[], false⟩, []⟩ trivial (by kernel_rfl) ?_
      refine WX.seq ?_
      rcases if_or h with ⟨c39, h⟩ | ⟨c39, h⟩
      · refine WC.condT c39 (by kernel_rfl) ?_
        refine WX.skip ?_
        refine WX.seq ?_
        refine WX.block ?_
        refine WX.seq ?_
        refine WC.reg (n := 26) (by assumption) [] [0, 1, 5, 12, 13] [] ⟨[(0, .p (slV (eI .u64) a0)), (1, .p (slV (eI .u64) a1)), (5, .p (.s (.int .i64 x23_1_1))), (12, .p (.s (.int .i64 ((a0.length : Int))))), (13, .p (.s (.int .i64 x23_1_1)))], [], ⟨[], false⟩, []⟩ trivial (by kernel_rfl) ?_
        refine WX.seq ?_
        obtain ⟨t41_2, h41_1, h⟩ := bind_some h
        obtain ⟨t41_4, h41_3, h⟩ := bind_some h
        refine WC.drw (n := 26) (by assumption) [] [] [(2, .val (.p (.rop ((eI .u64).cells t41_2 ++ encL (eI .u64) (a0.drop (x23_1_1.toNat + 1)))))), (6, .val (.p (.rop ((eI .u64).cells t41_4 ++ encL (eI .u64) (a1.drop (x23_1_1.toNat + 1))))))] [0, 1, 12, 13, 24] [] ⟨[(0, .p (slV (eI .u64) a0)), (1, .p (slV (eI .u64) a1)), (12, .p (.s (.int .i64 ((a0.length : Int))))), (13, .p (.s (.int .i64 x23_1_1))), (24, .p (.s (.bool ((t41_2 != t41_4)))))], [], ⟨[], false⟩, []⟩ (And.intro (Ix (eI .u64) h41_1) (And.intro (Ix (eI .u64) h41_3) (trivial))) (by kernel_rfl) (by kernel_rfl) (by kernel_rfl) (by kernel_rfl) ?_
        rcases if_or h with ⟨c42, h⟩ | ⟨c42, h⟩
        · refine WC.condT c42 (by kernel_rfl) ?_
          refine WX.seq ?_
          refine WC.reg (n := 26) (by assumption) [] [4] [] ⟨[(4, .p (.s (.bool false)))], [], ⟨[], false⟩, []⟩ trivial (by kernel_rfl) ?_
          refine WX.ret ?_
          refine WC.ret_all (hexit23 _ _ (by simp) ?_)
          exact WC.outP (by rw [← Option.some.inj h]; kernel_rfl)
        · refine WC.condF c42 (by kernel_rfl) ?_
          refine WX.skip ?_
          refine WX.popBlk ?_
          refine WC.reg (n := 26) (by assumption) [] [0, 1, 12, 13] [] ⟨[(0, .p (slV (eI .u64) a0)), (1, .p (slV (eI .u64) a1)), (12, .p (.s (.int .i64 ((a0.length : Int))))), (13, .p (.s (.int .i64 ((IntKind.i64.wrap (x23_1_1 + 1))))))], [], ⟨[], false⟩, []⟩ trivial (by kernel_rfl) ?_
          exact WC.next [0, 1, 12, 13] [] (by kernel_rfl) (hnext23 ((IntKind.i64.wrap (x23_1_1 + 1))) h)
      · refine WC.condF c39 (by kernel_rfl) ?_
        refine WX.exit ?_
        refine WX.popCodeExit ?_
        refine WC.exit_nil (hexit23 _ _ (by simp) ?_)
        refine WX.popBlkHit ?_
        exact WC.keep [] [] (by kernel_rfl) (hJ6 () h)
def riddlelaw01_live (k : Nat)  : Option (Bool) :=
  (bits_New k 70 ([3, 69, 70])).bind fun t2_2 => ((if (t2_2.2 == 0) = true then (if (t2_2.1.N == 70) = true then (slices_Equal_uint64_uint64 k t2_2.1.Words ([8, 32])).bind fun t3_2 => (if t3_2 = true then (bits_Has t2_2.1 69).bind fun t3_4 => (if t3_4 = true then (bits_Has t2_2.1 4).bind fun t3_6 => (if (!t3_6) = true then (bits_Shift k t2_2.1 ((-3))).bind fun t3_8 => (slices_Equal_uint64_uint64 k t3_8.Words ([1, 4])).bind fun t3_10 => some t3_10 else some false) else some false) else some false) else some false) else some false) : Option (Bool)).bind fun v3 => some v3
theorem riddlelaw01_live_ok {k : Nat}  {r : Bool} (h : riddlelaw01_live k = some r) : Ans Tryd.prog 9 [] (.s (.bool r)) := by
  refine W_fn Tryd.func9 rfl (by kernel_rfl) (by kernel_rfl) ?_
  intro X hro hn
  unfold riddlelaw01_live at h
  refine WX.seq ?_
  refine WC.reg (n := 37) (by assumption) [] [] [] ⟨[], [], ⟨[], false⟩, []⟩ trivial (by kernel_rfl) ?_
  refine WX.seq ?_
  obtain ⟨t2_2, h2_1, h⟩ := bind_some h
  refine WC.reg (n := 37) (by assumption) [(1, .co [] [] [4] [(5, rowV 51 (eI .u64) t2_2.1.Words)] (.tup [.agg [.p (.s (.int .i64 t2_2.1.N)), .own 5], .p (.s (.int .i64 t2_2.2))]))] [1, 2] [1, 5] ⟨[(1, .ptr 1 0), (2, .p (.s (.int .i64 t2_2.2)))], [(1, .box 27 [.p (.s (.int .i64 t2_2.1.N)), .own 5]), (5, rowV 51 (eI .u64) t2_2.1.Words)], ⟨[], false⟩, []⟩ (And.intro (And.intro ((bits_New_ok h2_1).ren 17 5 (by kernel_rfl)) (And.intro (rfl : (.tup [.agg [.p (.s (.int .i64 t2_2.1.N)), .own 5], .p (.s (.int .i64 t2_2.2))] : AV).flat = true) (And.intro (flats_encL (eI .u64) (fun _ => rfl) t2_2.1.Words) (trivial)))) (trivial)) (by kernel_rfl) ?_
  refine WX.seq ?_
  obtain ⟨m3_1, g3, h⟩ := bind_some h
  refine WC.via (α := Bool) (fun v3 => ⟨[(0, .p (.s (.bool v3)))], [], ⟨[], false⟩, []⟩) m3_1 (fun hk => ?_) ?_
  · rcases if_or g3 with ⟨b3_2, g3⟩ | ⟨b3_2, g3⟩
    · rcases if_or g3 with ⟨b3_7, g3⟩ | ⟨b3_7, g3⟩
      · obtain ⟨t3_2, h3_1, g3⟩ := bind_some g3
        rcases if_or g3 with ⟨b3_13, g3⟩ | ⟨b3_13, g3⟩
        · obtain ⟨t3_4, h3_3, g3⟩ := bind_some g3
          rcases if_or g3 with ⟨b3_17, g3⟩ | ⟨b3_17, g3⟩
          · obtain ⟨t3_6, h3_5, g3⟩ := bind_some g3
            rcases if_or g3 with ⟨b3_22, g3⟩ | ⟨b3_22, g3⟩
            · obtain ⟨t3_8, h3_7, g3⟩ := bind_some g3
              obtain ⟨t3_10, h3_9, g3⟩ := bind_some g3
              exact WC.reg (n := 37) (by assumption) [(2, .val (.p (.s (.bool true)))), (7, .val (.p (.s (.bool true)))), (11, .res (.s (.bool t3_2))), (13, .val (.p (.s (.bool true)))), (15, .res (.s (.bool t3_4))), (17, .val (.p (.s (.bool true)))), (19, .res (.s (.bool t3_6))), (22, .val (.p (.s (.bool true)))), (24, .co [] [] [5] [(32, rowV 51 (eI .u64) t3_8.Words)] (.agg [.p (.s (.int .i64 t3_8.N)), .own 32])), (27, .res (.s (.bool t3_10)))] [0] [] ⟨[(0, .p (.s (.bool t3_10)))], [], ⟨[], false⟩, []⟩ (And.intro (Bl b3_2) (And.intro (Bl b3_7) (And.intro (And.intro (slices_Equal_uint64_uint64_ok h3_1) (rfl : (.s (.bool t3_2) : PV).flat = true)) (And.intro (Bl b3_13) (And.intro (And.intro (bits_Has_ok h3_3) (rfl : (.s (.bool t3_4) : PV).flat = true)) (And.intro (Bl b3_17) (And.intro (And.intro (bits_Has_ok h3_5) (rfl : (.s (.bool t3_6) : PV).flat = true)) (And.intro (Bl b3_22) (And.intro (And.intro ((bits_Shift_ok h3_7).ren 12 32 (by kernel_rfl)) (And.intro (rfl : (.agg [.p (.s (.int .i64 t3_8.N)), .own 32] : AV).flat = true) (And.intro (flats_encL (eI .u64) (fun _ => rfl) t3_8.Words) (trivial)))) (And.intro (And.intro (slices_Equal_uint64_uint64_ok h3_9) (rfl : (.s (.bool t3_10) : PV).flat = true)) (trivial))))))))))) (by kernel_rfl) (hk t3_10 (Option.some.inj g3))
            · exact WC.reg (n := 37) (by assumption) [(2, .val (.p (.s (.bool true)))), (7, .val (.p (.s (.bool true)))), (11, .res (.s (.bool t3_2))), (13, .val (.p (.s (.bool true)))), (15, .res (.s (.bool t3_4))), (17, .val (.p (.s (.bool true)))), (19, .res (.s (.bool t3_6))), (22, .val (.p (.s (.bool false))))] [0] [] ⟨[(0, .p (.s (.bool false)))], [], ⟨[], false⟩, []⟩ (And.intro (Bl b3_2) (And.intro (Bl b3_7) (And.intro (And.intro (slices_Equal_uint64_uint64_ok h3_1) (rfl : (.s (.bool t3_2) : PV).flat = true)) (And.intro (Bl b3_13) (And.intro (And.intro (bits_Has_ok h3_3) (rfl : (.s (.bool t3_4) : PV).flat = true)) (And.intro (Bl b3_17) (And.intro (And.intro (bits_Has_ok h3_5) (rfl : (.s (.bool t3_6) : PV).flat = true)) (And.intro (Bl b3_22) (trivial))))))))) (by kernel_rfl) (hk false (Option.some.inj g3))
          · exact WC.reg (n := 37) (by assumption) [(2, .val (.p (.s (.bool true)))), (7, .val (.p (.s (.bool true)))), (11, .res (.s (.bool t3_2))), (13, .val (.p (.s (.bool true)))), (15, .res (.s (.bool t3_4))), (17, .val (.p (.s (.bool false))))] [0] [] ⟨[(0, .p (.s (.bool false)))], [], ⟨[], false⟩, []⟩ (And.intro (Bl b3_2) (And.intro (Bl b3_7) (And.intro (And.intro (slices_Equal_uint64_uint64_ok h3_1) (rfl : (.s (.bool t3_2) : PV).flat = true)) (And.intro (Bl b3_13) (And.intro (And.intro (bits_Has_ok h3_3) (rfl : (.s (.bool t3_4) : PV).flat = true)) (And.intro (Bl b3_17) (trivial))))))) (by kernel_rfl) (hk false (Option.some.inj g3))
        · exact WC.reg (n := 37) (by assumption) [(2, .val (.p (.s (.bool true)))), (7, .val (.p (.s (.bool true)))), (11, .res (.s (.bool t3_2))), (13, .val (.p (.s (.bool false))))] [0] [] ⟨[(0, .p (.s (.bool false)))], [], ⟨[], false⟩, []⟩ (And.intro (Bl b3_2) (And.intro (Bl b3_7) (And.intro (And.intro (slices_Equal_uint64_uint64_ok h3_1) (rfl : (.s (.bool t3_2) : PV).flat = true)) (And.intro (Bl b3_13) (trivial))))) (by kernel_rfl) (hk false (Option.some.inj g3))
      · exact WC.reg (n := 37) (by assumption) [(2, .val (.p (.s (.bool true)))), (7, .val (.p (.s (.bool false))))] [0] [] ⟨[(0, .p (.s (.bool false)))], [], ⟨[], false⟩, []⟩ (And.intro (Bl b3_2) (And.intro (Bl b3_7) (trivial))) (by kernel_rfl) (hk false (Option.some.inj g3))
    · exact WC.reg (n := 37) (by assumption) [(2, .val (.p (.s (.bool false))))] [0] [] ⟨[(0, .p (.s (.bool false)))], [], ⟨[], false⟩, []⟩ (And.intro (Bl b3_2) (trivial)) (by kernel_rfl) (hk false (Option.some.inj g3))
  refine WX.ret ?_
  exact WC.outP (by rw [← Option.some.inj h]; kernel_rfl)
def riddlelaw01_all_l0 (k : Nat) : List Int → List Int → Option ((List Int))
  | [], x6_1_1 => some x6_1_1
  | x6 :: xs6, x6_1_1 => (if okApp 8 (x6_1_1.length + ([x6]).length) then riddlelaw01_all_l0 k xs6 (x6_1_1 ++ ([x6])) else none)
def riddlelaw01_all (k : Nat) (a0 : api_Bits) : Option ((List Int)) :=
  (bits_All a0).bind fun t3_2 => (bits_All_1_v1 k t3_2).bind fun l6 => riddlelaw01_all_l0 k l6 (([] : List Int))
theorem riddlelaw01_all_ok {k : Nat} {a0 : api_Bits} {r : (List Int)} (h : riddlelaw01_all k a0 = some r) : AnsO Tryd.prog 12 [] [.p (.agg [.s (.int .i64 a0.N), slV (eI .u64) a0.Words])] [(15, rowV 3 (eI .i64) r)] (.own 15) := by
  refine W_fnO [15] Tryd.func12 rfl (by kernel_rfl) (by kernel_rfl) (by kernel_rfl) (by kernel_rfl) ?_
  intro X hro hn
  unfold riddlelaw01_all at h
  refine WX.seq ?_
  refine WC.reg (n := 17) (by assumption) [] [1] [1] ⟨[(1, .ptr 1 0)], [(1, .box 27 [.p (.s (.int .i64 a0.N)), .p (slV (eI .u64) a0.Words)])], ⟨[], false⟩, []⟩ trivial (by kernel_rfl) ?_
  refine WX.seq ?_
  refine WC.reg (n := 17) (by assumption) [] [1, 3] [1, 3] ⟨[(1, .ptr 1 0), (3, .ptr 3 0)], [(1, .box 27 [.p (.s (.int .i64 a0.N)), .p (slV (eI .u64) a0.Words)]), (3, .box 22 [.p (.sl .nil 0 [])])], ⟨[], false⟩, []⟩ trivial (by kernel_rfl) ?_
  refine WX.seq ?_
  obtain ⟨t3_2, h3_1, h⟩ := bind_some h
  refine WC.reg (n := 17) (by assumption) [(1, .resP (.fn 60 [.rop ([.s (.int .i64 t3_2.N), slV (eI .u64) t3_2.Words])]))] [3, 4] [3] ⟨[(3, .ptr 3 0), (4, .p (.fn 60 [.rop ([.s (.int .i64 t3_2.N), slV (eI .u64) t3_2.Words])]))], [(3, .box 22 [.p (.sl .nil 0 [])])], ⟨[], false⟩, []⟩ (And.intro ((bits_All_ok h3_1)) (trivial)) (by kernel_rfl) ?_
  refine WX.seq ?_
  refine WX.seq ?_
  refine WC.reg (n := 17) (by assumption) [] [3, 4, 9] [3] ⟨[(3, .ptr 3 0), (4, .p (.fn 60 [.rop ([.s (.int .i64 t3_2.N), slV (eI .u64) t3_2.Words])])), (9, .p (.s (.bool false)))], [(3, .box 22 [.p (.sl .nil 0 [])])], ⟨[], false⟩, []⟩ trivial (by kernel_rfl) ?_
  refine WC.condF rfl (by kernel_rfl) ?_
  refine WX.skip ?_
  refine WX.seq ?_
  refine WX.seq ?_
  refine WC.reg (n := 17) (by assumption) [] [3, 10] [3] ⟨[(3, .ptr 3 0), (10, .p (.fn 60 [.rop ([.s (.int .i64 t3_2.N), slV (eI .u64) t3_2.Words])]))], [(3, .box 22 [.p (.sl .nil 0 [])])], ⟨[], false⟩, []⟩ trivial (by kernel_rfl) ?_
  refine WX.block ?_
  obtain ⟨l6, hI6, h⟩ := bind_some h
  refine WC.nil (n := 17) (by assumption) [] (some (3, 0)) 15 3 1 (by kernel_rfl) [3, 10] [3, 15] (st' := ⟨[(3, .ptr 3 0), (10, .p (.fn 60 [.rop ([.s (.int .i64 t3_2.N), slV (eI .u64) t3_2.Words])]))], [(3, .box 22 [.own 15]), (15, rowV 3 (eI .i64) (([] : List Int)))], ⟨[], false⟩, []⟩) (by kernel_rfl) ?_
  refine WC.range (V := List Int) (n := 17) (by assumption) (riddlelaw01_all_l0 k) r (fun v6 => ⟨[(3, .ptr 3 0), (10, .p (.fn 60 [.rop ([.s (.int .i64 t3_2.N), slV (eI .u64) t3_2.Words])]))], [(3, .box 22 [.own 15]), (15, rowV 3 (eI .i64) v6)], ⟨[], false⟩, []⟩) (fun x6 v6 => ⟨[(3, .ptr 3 0), (5, .p (.s (.int .i64 x6))), (10, .p (.fn 60 [.rop ([.s (.int .i64 t3_2.N), slV (eI .u64) t3_2.Words])])), (11, .p (.s (.int .i64 x6)))], [(3, .box 22 [.own 15]), (15, rowV 3 (eI .i64) v6)], ⟨[], false⟩, [[(3, .ptr 3 0), (10, .p (.fn 60 [.rop ([.s (.int .i64 t3_2.N), slV (eI .u64) t3_2.Words])]))]]⟩) (fun x : Int => ([.int .i64 x] : List Value)) l6 (([] : List Int)) h [3, 10] [3, 15] (by kernel_rfl) (fun v6 => .p (.fn 60 [.rop ([.s (.int .i64 t3_2.N), slV (eI .u64) t3_2.Words])])) (fun v6 => by kernel_rfl) (by kernel_rfl) (bits_All_1_v1_it hI6) (by kernel_rfl) (fun v6 => by kernel_rfl) (fun x => ⟨rfl, rfl⟩) ?_ ?_ ?_
  · clear h; rintro x6_1_1 h
    rw [riddlelaw01_all_l0] at h
    refine WX.popBlk ?_
    refine WX.seq ?_
    refine WC.reg (n := 17) (by assumption) [] [2] [15] ⟨[(2, .own 15)], [(15, rowV 3 (eI .i64) x6_1_1)], ⟨[], false⟩, []⟩ trivial (by kernel_rfl) ?_
    refine WX.ret ?_
    exact WC.outO (by rw [← Option.some.inj h]; kernel_rfl)
  · clear h; intro X hn x6; rintro x6_1_1
    refine WC.reg (n := 17) (by assumption) [] [3, 5, 10, 11] [3, 15] ⟨[(3, .ptr 3 0), (5, .p (.s (.int .i64 x6))), (10, .p (.fn 60 [.rop ([.s (.int .i64 t3_2.N), slV (eI .u64) t3_2.Words])])), (11, .p (.s (.int .i64 x6)))], [(3, .box 22 [.own 15]), (15, rowV 3 (eI .i64) x6_1_1)], ⟨[], false⟩, [[(3, .ptr 3 0), (10, .p (.fn 60 [.rop ([.s (.int .i64 t3_2.N), slV (eI .u64) t3_2.Words])]))]]⟩ trivial (by kernel_rfl) ?_
    exact WC.exit_nil ⟨rfl, rfl⟩
  · clear h; intro X hn x6 xs6; rintro x6_1_1 h K6 hnext6 hexit6
    rw [riddlelaw01_all_l0] at h
    refine WX.block ?_
    obtain ⟨c15_1, h⟩ := if_some h
    refine WC.reg (n := 17) (by assumption) [(3, .app (some 15) (rowV 3 (eI .i64) (x6_1_1 ++ ([x6]))))] [] [3, 15] ⟨[], [(3, .box 22 [.own 15]), (15, rowV 3 (eI .i64) (x6_1_1 ++ ([x6])))], ⟨[], false⟩, [[(3, .ptr 3 0), (10, .p (.fn 60 [.rop ([.s (.int .i64 t3_2.N), slV (eI .u64) t3_2.Words])]))]]⟩ (And.intro (Ap (eI .i64) (some 15) 3 8 1 x6_1_1 ([x6]) c15_1) (trivial)) (by kernel_rfl) ?_
    refine WX.popBlk ?_
    refine WC.keep [] [3, 15] (st' := ⟨[], [(3, .box 22 [.own 15]), (15, rowV 3 (eI .i64) (x6_1_1 ++ ([x6])))], ⟨[], false⟩, [[(3, .ptr 3 0), (10, .p (.fn 60 [.rop ([.s (.int .i64 t3_2.N), slV (eI .u64) t3_2.Words])]))]]⟩) (by kernel_rfl) ?_
    exact WC.nextR [] [3, 15] (s := ⟨[], [(3, .box 22 [.own 15]), (15, rowV 3 (eI .i64) (x6_1_1 ++ ([x6])))], ⟨[], false⟩, [[(3, .ptr 3 0), (10, .p (.fn 60 [.rop ([.s (.int .i64 t3_2.N), slV (eI .u64) t3_2.Words])]))]]⟩) (by kernel_rfl) rfl (fun s hb => hnext6 (x6_1_1 ++ ([x6])) s h hb)
theorem riddlelaw01_all_okP {k : Nat} {a0 : api_Bits} {r : (List Int)} (h : riddlelaw01_all k a0 = some r) : Ans Tryd.prog 12 [.agg [.s (.int .i64 a0.N), slV (eI .u64) a0.Words]] (slV (eI .i64) r) := AnsO.ans (args := [.agg [.s (.int .i64 a0.N), slV (eI .u64) a0.Words]]) (riddlelaw01_all_ok h) (by kernel_rfl)
def slices_Equal_int_int_l0 (a0 : (List Int)) (a1 : (List Int)) (J6 : Unit → Option (Bool)) : Nat → Int → Option (Bool)
  | 0, _ => none
  | k + 1, x23_1_1 => (if (decide (x23_1_1 < (a0.length : Int))) = true then (at_ a0 x23_1_1).bind fun t41_2 => (at_ a1 x23_1_1).bind fun t41_4 => (if (t41_2 != t41_4) = true then some false else slices_Equal_int_int_l0 a0 a1 J6 k ((IntKind.i64.wrap (x23_1_1 + 1)))) else J6 ())
def slices_Equal_int_int (k : Nat) (a0 : (List Int)) (a1 : (List Int)) : Option (Bool) :=
  (if ((a0.length : Int) != (a1.length : Int)) = true then some false else jn (fun (v6 : Unit) => some true) fun J6 => slices_Equal_int_int_l0 a0 a1 J6 k 0)
theorem slices_Equal_int_int_ok {k : Nat} {a0 : (List Int)} {a1 : (List Int)} {r : Bool} (h : slices_Equal_int_int k a0 a1 = some r) : Ans Tryd.prog 14 [slV (eI .i64) a0, slV (eI .i64) a1] (.s (.bool r)) := by
  refine W_fn Tryd.func14 rfl (by kernel_rfl) (by kernel_rfl) ?_
  intro X hro hn
  unfold slices_Equal_int_int at h
  refine WX.seq ?_
  refine WC.reg (n := 26) (by assumption) [] [0, 1] [] ⟨[(0, .p (slV (eI .i64) a0)), (1, .p (slV (eI .i64) a1))], [], ⟨[], false⟩, []⟩ trivial (by kernel_rfl) ?_
  refine WX.seq ?_
  refine WX.seq ?_
  refine WC.reg (n := 26) (by assumption) [] [0, 1, 10] [] ⟨[(0, .p (slV (eI .i64) a0)), (1, .p (slV (eI .i64) a1)), (10, .p (.s (.bool (((a0.length : Int) != (a1.length : Int))))))], [], ⟨[], false⟩, []⟩ trivial (by kernel_rfl) ?_
  rcases if_or h with ⟨c3, h⟩ | ⟨c3, h⟩
  · refine WC.condT c3 (by kernel_rfl) ?_
    refine WX.seq ?_
    refine WC.reg (n := 26) (by assumption) [] [4] [] ⟨[(4, .p (.s (.bool false)))], [], ⟨[], false⟩, []⟩ trivial (by kernel_rfl) ?_
    refine WX.ret ?_
    exact WC.outP (by rw [← Option.some.inj h]; kernel_rfl)
  · refine WC.condF c3 (by kernel_rfl) ?_
    refine WX.skip ?_
    refine WX.seq ?_
    refine WX.seq ?_
    refine WC.reg (n := 26) (by assumption) [] [0, 1, 12, 13] [] ⟨[(0, .p (slV (eI .i64) a0)), (1, .p (slV (eI .i64) a1)), (12, .p (.s (.int .i64 ((a0.length : Int))))), (13, .p (.s (.int .i64 0)))], [], ⟨[], false⟩, []⟩ trivial (by kernel_rfl) ?_
    obtain ⟨J6, eJ6, h⟩ := jn_some h
    try dsimp only at h
    refine WC.join (α := Unit) (fun v6 => ⟨[], [], ⟨[], false⟩, []⟩) (fun v6 => J6 v6 = some r) ?_ (fun hJ6 => ?_)
    · rintro _ h
      rw [eJ6] at h
      try dsimp only at h
      refine WX.seq ?_
      refine WC.reg (n := 26) (by assumption) [] [4] [] ⟨[(4, .p (.s (.bool true)))], [], ⟨[], false⟩, []⟩ trivial (by kernel_rfl) ?_
      refine WX.ret ?_
      exact WC.outP (by rw [← Option.some.inj h]; kernel_rfl)
    · skip
      refine WX.block ?_
      refine WC.loop (V := Int) (slices_Equal_int_int_l0 a0 a1 J6) r (fun v23 => ⟨[(0, .p (slV (eI .i64) a0)), (1, .p (slV (eI .i64) a1)), (12, .p (.s (.int .i64 ((a0.length : Int))))), (13, .p (.s (.int .i64 v23)))], [], ⟨[], false⟩, []⟩) _ 0 h (fun _ => rfl) [0, 1, 12, 13] [] (by kernel_rfl) ?_
      clear h; rintro k x23_1_1 h K23 hnext23 hexit23
      rw [slices_Equal_int_int_l0] at h
      refine WX.seq ?_
      refine WC.reg (n := 26) (by assumption) [] [0, 1, 12, 13, 14] [] ⟨[(0, .p (slV (eI .i64) a0)), (1, .p (slV (eI .i64) a1)), (12, .p (.s (.int .i64 ((a0.length : Int))))), (13, .p (.s (.int .i64 x23_1_1))), (14, .p (.s (.bool ((decide (x23_1_1 < (a0.length : Int)))))))], [], ⟨[], false⟩, []⟩ trivial (by kernel_rfl) ?_
      refine WX.seq ?_
      rcases if_or h with ⟨c39, h⟩ | ⟨c39, h⟩
      · refine WC.condT c39 (by kernel_rfl) ?_
        refine WX.skip ?_
        refine WX.seq ?_
        refine WX.block ?_
        refine WX.seq ?_
        refine WC.reg (n := 26) (by assumption) [] [0, 1, 5, 12, 13] [] ⟨[(0, .p (slV (eI .i64) a0)), (1, .p (slV (eI .i64) a1)), (5, .p (.s (.int .i64 x23_1_1))), (12, .p (.s (.int .i64 ((a0.length : Int))))), (13, .p (.s (.int .i64 x23_1_1)))], [], ⟨[], false⟩, []⟩ trivial (by kernel_rfl) ?_
        refine WX.seq ?_
        obtain ⟨t41_2, h41_1, h⟩ := bind_some h
        obtain ⟨t41_4, h41_3, h⟩ := bind_some h
        refine WC.drw (n := 26) (by assumption) [] [] [(2, .val (.p (.rop ((eI .i64).cells t41_2 ++ encL (eI .i64) (a0.drop (x23_1_1.toNat + 1)))))), (6, .val (.p (.rop ((eI .i64).cells t41_4 ++ encL (eI .i64) (a1.drop (x23_1_1.toNat + 1))))))] [0, 1, 12, 13, 24] [] ⟨[(0, .p (slV (eI .i64) a0)), (1, .p (slV (eI .i64) a1)), (12, .p (.s (.int .i64 ((a0.length : Int))))), (13, .p (.s (.int .i64 x23_1_1))), (24, .p (.s (.bool ((t41_2 != t41_4)))))], [], ⟨[], false⟩, []⟩ (And.intro (Ix (eI .i64) h41_1) (And.intro (Ix (eI .i64) h41_3) (trivial))) (by kernel_rfl) (by kernel_rfl) (by kernel_rfl) (by kernel_rfl) ?_
        rcases if_or h with ⟨c42, h⟩ | ⟨c42, h⟩
        · refine WC.condT c42 (by kernel_rfl) ?_
          refine WX.seq ?_
          refine WC.reg (n := 26) (by assumption) [] [4] [] ⟨[(4, .p (.s (.bool false)))], [], ⟨[], false⟩, []⟩ trivial (by kernel_rfl) ?_
          refine WX.ret ?_
          refine WC.ret_all (hexit23 _ _ (by simp) ?_)
          exact WC.outP (by rw [← Option.some.inj h]; kernel_rfl)
        · refine WC.condF c42 (by kernel_rfl) ?_
          refine WX.skip ?_
          refine WX.popBlk ?_
          refine WC.reg (n := 26) (by assumption) [] [0, 1, 12, 13] [] ⟨[(0, .p (slV (eI .i64) a0)), (1, .p (slV (eI .i64) a1)), (12, .p (.s (.int .i64 ((a0.length : Int))))), (13, .p (.s (.int .i64 ((IntKind.i64.wrap (x23_1_1 + 1))))))], [], ⟨[], false⟩, []⟩ trivial (by kernel_rfl) ?_
          exact WC.next [0, 1, 12, 13] [] (by kernel_rfl) (hnext23 ((IntKind.i64.wrap (x23_1_1 + 1))) h)
      · refine WC.condF c39 (by kernel_rfl) ?_
        refine WX.exit ?_
        refine WX.popCodeExit ?_
        refine WC.exit_nil (hexit23 _ _ (by simp) ?_)
        refine WX.popBlkHit ?_
        exact WC.keep [] [] (by kernel_rfl) (hJ6 () h)
def riddlelaw01_BitsBack_l0 (a0 : Int) (t5_2 : api_Bits × Int) (J33 : List Int → Option (Bool)) : Nat → (List Int × Int × Bool) → Option (Bool)
  | 0, _ => none
  | k + 1, (x44_1_1, x44_1_2, x44_1_3) => (if (x44_1_3 && ((decide ((x44_1_1.length : Int) ≤ (IntKind.i64.wrap a0))))) = true then (if okApp 8 (x44_1_1.length + ([x44_1_2]).length) then (bits_First k t5_2.1 ((IntKind.i64.wrap (x44_1_2 + 1)))).bind fun t56_2 => riddlelaw01_BitsBack_l0 a0 t5_2 J33 k (x44_1_1 ++ ([x44_1_2]), t56_2.1, t56_2.2) else none) else J33 x44_1_1)
def riddlelaw01_BitsBack_l1 (a0 : Int) (a2 : Int) (t11_2 : (List Int)) (J12 : List Int → Option (Bool)) : Nat → (List Int × Int) → Option (Bool)
  | 0, _ => none
  | k + 1, (x57_1_1, x57_1_2) => (if (decide (x57_1_2 < (t11_2.length : Int))) = true then (at_ t11_2 x57_1_2).bind fun t78_2 => (if (((decide ((IntKind.i64.wrap (t78_2 + (IntKind.i64.wrap a2))) ≥ 0))) && ((decide ((IntKind.i64.wrap (t78_2 + (IntKind.i64.wrap a2))) < (IntKind.i64.wrap a0))))) = true then (if okApp 8 (x57_1_1.length + ([t78_2]).length) then riddlelaw01_BitsBack_l1 a0 a2 t11_2 J12 k (x57_1_1 ++ ([t78_2]), (IntKind.i64.wrap (x57_1_2 + 1))) else none) else riddlelaw01_BitsBack_l1 a0 a2 t11_2 J12 k (x57_1_1, (IntKind.i64.wrap (x57_1_2 + 1)))) else J12 x57_1_1)
def riddlelaw01_BitsBack (k : Nat) (a0 : Int) (a1 : (List Int)) (a2 : Int) : Option (Bool) :=
  (riddlelaw01_live k).bind fun t2_2 => (if (!t2_2) = true then some false else (bits_New k ((IntKind.i64.wrap a0)) a1).bind fun t5_2 => (if (t5_2.2 != 0) = true then some false else (bits_Shift k t5_2.1 ((IntKind.i64.wrap a2))).bind fun t9_2 => (bits_Shift k t9_2 ((IntKind.i64.wrap (0 - (IntKind.i64.wrap a2))))).bind fun t9_4 => (riddlelaw01_all k t5_2.1).bind fun t11_2 => jn (fun (v12 : List Int) => (bits_First k t5_2.1 0).bind fun t32_2 => jn (fun (v33 : List Int) => (riddlelaw01_all k t9_4).bind fun t43_2 => (slices_Equal_int_int k t43_2 v12).bind fun t43_4 => ((if t43_4 = true then (riddlelaw01_all k t5_2.1).bind fun t43_6 => (slices_Equal_int_int k v33 t43_6).bind fun t43_8 => some t43_8 else some false) : Option (Bool)).bind fun v43 => some v43) fun J33 => riddlelaw01_BitsBack_l0 a0 t5_2 J33 k (([] : List Int), t32_2.1, t32_2.2)) fun J12 => riddlelaw01_BitsBack_l1 a0 a2 t11_2 J12 k (([] : List Int), 0)))
theorem riddlelaw01_BitsBack_ok {k : Nat} {a0 : Int} {a1 : (List Int)} {a2 : Int} {r : Bool} (h : riddlelaw01_BitsBack k a0 a1 a2 = some r) : Ans Tryd.prog 3 [.s (.int .u8 a0), slV (eI .i64) a1, .s (.int .i8 a2)] (.s (.bool r)) := by
  refine W_fn Tryd.func3 rfl (by kernel_rfl) (by kernel_rfl) ?_
  intro X hro hn
  unfold riddlelaw01_BitsBack at h
  refine WX.seq ?_
  refine WC.reg (n := 94) (by assumption) [] [0, 1, 2] [] ⟨[(0, .p (.s (.int .u8 a0))), (1, .p (slV (eI .i64) a1)), (2, .p (.s (.int .i8 a2)))], [], ⟨[], false⟩, []⟩ trivial (by kernel_rfl) ?_
  refine WX.seq ?_
  refine WX.seq ?_
  obtain ⟨t2_2, h2_1, h⟩ := bind_some h
  refine WC.reg (n := 94) (by assumption) [(0, .resP (.s (.bool t2_2)))] [0, 1, 2, 18] [] ⟨[(0, .p (.s (.int .u8 a0))), (1, .p (slV (eI .i64) a1)), (2, .p (.s (.int .i8 a2))), (18, .p (.s (.bool ((!t2_2)))))], [], ⟨[], false⟩, []⟩ (And.intro ((riddlelaw01_live_ok h2_1)) (trivial)) (by kernel_rfl) ?_
  rcases if_or h with ⟨c3, h⟩ | ⟨c3, h⟩
  · refine WC.condT c3 (by kernel_rfl) ?_
    refine WX.seq ?_
    refine WC.reg (n := 94) (by assumption) [] [6] [] ⟨[(6, .p (.s (.bool false)))], [], ⟨[], false⟩, []⟩ trivial (by kernel_rfl) ?_
    refine WX.ret ?_
    exact WC.outP (by rw [← Option.some.inj h]; kernel_rfl)
  · refine WC.condF c3 (by kernel_rfl) ?_
    refine WX.skip ?_
    refine WX.seq ?_
    obtain ⟨t5_2, h5_1, h⟩ := bind_some h
    refine WC.reg (n := 94) (by assumption) [(3, .co [] [] [] [(23, rowV 51 (eI .u64) t5_2.1.Words)] (.tup [.agg [.p (.s (.int .i64 t5_2.1.N)), .own 23], .p (.s (.int .i64 t5_2.2))]))] [0, 2, 7, 8] [7, 23] ⟨[(0, .p (.s (.int .u8 a0))), (2, .p (.s (.int .i8 a2))), (7, .ptr 7 0), (8, .p (.s (.int .i64 t5_2.2)))], [(7, .box 27 [.p (.s (.int .i64 t5_2.1.N)), .own 23]), (23, rowV 51 (eI .u64) t5_2.1.Words)], ⟨[], false⟩, []⟩ (And.intro (And.intro ((bits_New_ok h5_1).ren 17 23 (by kernel_rfl)) (trivial)) (trivial)) (by kernel_rfl) ?_
    refine WX.seq ?_
    refine WX.seq ?_
    refine WC.reg (n := 94) (by assumption) [] [0, 2, 7, 27] [7, 23] ⟨[(0, .p (.s (.int .u8 a0))), (2, .p (.s (.int .i8 a2))), (7, .ptr 7 0), (27, .p (.s (.bool ((t5_2.2 != 0)))))], [(7, .box 27 [.p (.s (.int .i64 t5_2.1.N)), .own 23]), (23, rowV 51 (eI .u64) t5_2.1.Words)], ⟨[], false⟩, []⟩ trivial (by kernel_rfl) ?_
    rcases if_or h with ⟨c7, h⟩ | ⟨c7, h⟩
    · refine WC.condT c7 (by kernel_rfl) ?_
      refine WX.seq ?_
      refine WC.reg (n := 94) (by assumption) [] [6] [] ⟨[(6, .p (.s (.bool false)))], [], ⟨[], false⟩, []⟩ trivial (by kernel_rfl) ?_
      refine WX.ret ?_
      exact WC.outP (by rw [← Option.some.inj h]; kernel_rfl)
    · refine WC.condF c7 (by kernel_rfl) ?_
      refine WX.skip ?_
      refine WX.seq ?_
      obtain ⟨t9_2, h9_1, h⟩ := bind_some h
      obtain ⟨t9_4, h9_3, h⟩ := bind_some h
      refine WC.reg (n := 94) (by assumption) [(3, .co [] [] [23] [(31, rowV 51 (eI .u64) t9_2.Words)] (.agg [.p (.s (.int .i64 t9_2.N)), .own 31])), (7, .co [] [] [31] [(35, rowV 51 (eI .u64) t9_4.Words)] (.agg [.p (.s (.int .i64 t9_4.N)), .own 35]))] [0, 2, 7, 9] [7, 9, 23, 35] ⟨[(0, .p (.s (.int .u8 a0))), (2, .p (.s (.int .i8 a2))), (7, .ptr 7 0), (9, .ptr 9 0)], [(7, .box 27 [.p (.s (.int .i64 t5_2.1.N)), .own 23]), (9, .box 27 [.p (.s (.int .i64 t9_4.N)), .own 35]), (23, rowV 51 (eI .u64) t5_2.1.Words), (35, rowV 51 (eI .u64) t9_4.Words)], ⟨[], false⟩, []⟩ (And.intro (And.intro ((bits_Shift_ok h9_1).ren 12 31 (by kernel_rfl)) (And.intro (rfl : (.agg [.p (.s (.int .i64 t9_2.N)), .own 31] : AV).flat = true) (And.intro (flats_encL (eI .u64) (fun _ => rfl) t9_2.Words) (trivial)))) (And.intro (And.intro ((bits_Shift_ok h9_3).ren 12 35 (by kernel_rfl)) (And.intro (rfl : (.agg [.p (.s (.int .i64 t9_4.N)), .own 35] : AV).flat = true) (And.intro (flats_encL (eI .u64) (fun _ => rfl) t9_4.Words) (trivial)))) (trivial))) (by kernel_rfl) ?_
      refine WX.seq ?_
      refine WC.reg (n := 94) (by assumption) [] [0, 2, 7, 9, 10, 11] [7, 9, 23, 35] ⟨[(0, .p (.s (.int .u8 a0))), (2, .p (.s (.int .i8 a2))), (7, .ptr 7 0), (9, .ptr 9 0), (10, .p (.sl .nil 0 [])), (11, .p (.sl .nil 0 []))], [(7, .box 27 [.p (.s (.int .i64 t5_2.1.N)), .own 23]), (9, .box 27 [.p (.s (.int .i64 t9_4.N)), .own 35]), (23, rowV 51 (eI .u64) t5_2.1.Words), (35, rowV 51 (eI .u64) t9_4.Words)], ⟨[], false⟩, []⟩ trivial (by kernel_rfl) ?_
      refine WX.seq ?_
      refine WX.seq ?_
      obtain ⟨t11_2, h11_1, h⟩ := bind_some h
      refine WC.reg (n := 94) (by assumption) [(1, .co [] [] [23] [(37, rowV 3 (eI .i64) t11_2)] (.own 37))] [0, 2, 7, 9, 10, 11, 37, 38, 39] [7, 9, 23, 35, 37] ⟨[(0, .p (.s (.int .u8 a0))), (2, .p (.s (.int .i8 a2))), (7, .ptr 7 0), (9, .ptr 9 0), (10, .p (.sl .nil 0 [])), (11, .p (.sl .nil 0 [])), (37, .own 37), (38, .p (.s (.int .i64 ((t11_2.length : Int))))), (39, .p (.s (.int .i64 0)))], [(7, .box 27 [.p (.s (.int .i64 t5_2.1.N)), .own 23]), (9, .box 27 [.p (.s (.int .i64 t9_4.N)), .own 35]), (23, rowV 51 (eI .u64) t5_2.1.Words), (35, rowV 51 (eI .u64) t9_4.Words), (37, rowV 3 (eI .i64) t11_2)], ⟨[], false⟩, []⟩ (And.intro (And.intro ((riddlelaw01_all_ok h11_1).ren 15 37 (by kernel_rfl)) (And.intro (rfl : (.own 37 : AV).flat = true) (And.intro (flats_encL (eI .i64) (fun _ => rfl) t11_2) (trivial)))) (trivial)) (by kernel_rfl) ?_
      obtain ⟨J12, eJ12, h⟩ := jn_some h
      try dsimp only at h
      refine WC.join (α := List Int) (fun v12 => ⟨[(0, .p (.s (.int .u8 a0))), (7, .ptr 7 0), (9, .ptr 9 0), (10, .own 58), (11, .p (.sl .nil 0 []))], [(7, .box 27 [.p (.s (.int .i64 t5_2.1.N)), .own 23]), (9, .box 27 [.p (.s (.int .i64 t9_4.N)), .own 35]), (23, rowV 51 (eI .u64) t5_2.1.Words), (35, rowV 51 (eI .u64) t9_4.Words), (58, rowV 3 (eI .i64) v12)], ⟨[], false⟩, []⟩) (fun v12 => J12 v12 = some r) ?_ (fun hJ12 => ?_)
      · rintro y12_1 h
        rw [eJ12] at h
        try dsimp only at h
        refine WX.seq ?_
        refine WX.seq ?_
        obtain ⟨t32_2, h32_1, h⟩ := bind_some h
        refine WC.reg (n := 94) (by assumption) [(1, .res (.tup [.s (.int .i64 t32_2.1), .s (.bool t32_2.2)]))] [0, 7, 9, 10, 11, 15, 16] [7, 9, 23, 35, 58] ⟨[(0, .p (.s (.int .u8 a0))), (7, .ptr 7 0), (9, .ptr 9 0), (10, .own 58), (11, .p (.sl .nil 0 [])), (15, .p (.s (.int .i64 t32_2.1))), (16, .p (.s (.bool t32_2.2)))], [(7, .box 27 [.p (.s (.int .i64 t5_2.1.N)), .own 23]), (9, .box 27 [.p (.s (.int .i64 t9_4.N)), .own 35]), (23, rowV 51 (eI .u64) t5_2.1.Words), (35, rowV 51 (eI .u64) t9_4.Words), (58, rowV 3 (eI .i64) y12_1)], ⟨[], false⟩, []⟩ (And.intro (And.intro (bits_First_ok h32_1) (rfl : (.tup [.s (.int .i64 t32_2.1), .s (.bool t32_2.2)] : PV).flat = true)) (trivial)) (by kernel_rfl) ?_
        obtain ⟨J33, eJ33, h⟩ := jn_some h
        try dsimp only at h
        refine WC.join (α := List Int) (fun v33 => ⟨[(7, .ptr 7 0), (9, .ptr 9 0), (10, .own 58), (11, .own 83)], [(7, .box 27 [.p (.s (.int .i64 t5_2.1.N)), .own 23]), (9, .box 27 [.p (.s (.int .i64 t9_4.N)), .own 35]), (23, rowV 51 (eI .u64) t5_2.1.Words), (35, rowV 51 (eI .u64) t9_4.Words), (58, rowV 3 (eI .i64) y12_1), (83, rowV 3 (eI .i64) v33)], ⟨[], false⟩, []⟩) (fun v33 => J33 v33 = some r) ?_ (fun hJ33 => ?_)
        · rintro y33_1 h
          rw [eJ33] at h
          try dsimp only at h
          refine WX.seq ?_
          obtain ⟨t43_2, h43_1, h⟩ := bind_some h
          obtain ⟨t43_4, h43_3, h⟩ := bind_some h
          obtain ⟨m43_1, g43, h⟩ := bind_some h
          refine WC.via (α := Bool) (fun v43 => ⟨[(6, .p (.s (.bool v43)))], [], ⟨[], false⟩, []⟩) m43_1 (fun hk => ?_) ?_
          · rcases if_or g43 with ⟨b43_4, g43⟩ | ⟨b43_4, g43⟩
            · obtain ⟨t43_6, h43_5, g43⟩ := bind_some g43
              obtain ⟨t43_8, h43_7, g43⟩ := bind_some g43
              exact WC.reg (n := 94) (by assumption) [(1, .co [] [] [35] [(85, rowV 3 (eI .i64) t43_2)] (.own 85)), (3, .res (.s (.bool t43_4))), (4, .val (.p (.s (.bool true)))), (7, .co [] [] [23] [(91, rowV 3 (eI .i64) t43_6)] (.own 91)), (8, .res (.s (.bool t43_8)))] [6] [] ⟨[(6, .p (.s (.bool t43_8)))], [], ⟨[], false⟩, []⟩ (And.intro (And.intro ((riddlelaw01_all_ok h43_1).ren 15 85 (by kernel_rfl)) (And.intro (rfl : (.own 85 : AV).flat = true) (And.intro (flats_encL (eI .i64) (fun _ => rfl) t43_2) (trivial)))) (And.intro (And.intro (slices_Equal_int_int_ok h43_3) (rfl : (.s (.bool t43_4) : PV).flat = true)) (And.intro (Bl b43_4) (And.intro (And.intro ((riddlelaw01_all_ok h43_5).ren 15 91 (by kernel_rfl)) (And.intro (rfl : (.own 91 : AV).flat = true) (And.intro (flats_encL (eI .i64) (fun _ => rfl) t43_6) (trivial)))) (And.intro (And.intro (slices_Equal_int_int_ok h43_7) (rfl : (.s (.bool t43_8) : PV).flat = true)) (trivial)))))) (by kernel_rfl) (hk t43_8 (Option.some.inj g43))
            · exact WC.reg (n := 94) (by assumption) [(1, .co [] [] [35] [(85, rowV 3 (eI .i64) t43_2)] (.own 85)), (3, .res (.s (.bool t43_4))), (4, .val (.p (.s (.bool false))))] [6] [] ⟨[(6, .p (.s (.bool false)))], [], ⟨[], false⟩, []⟩ (And.intro (And.intro ((riddlelaw01_all_ok h43_1).ren 15 85 (by kernel_rfl)) (And.intro (rfl : (.own 85 : AV).flat = true) (And.intro (flats_encL (eI .i64) (fun _ => rfl) t43_2) (trivial)))) (And.intro (And.intro (slices_Equal_int_int_ok h43_3) (rfl : (.s (.bool t43_4) : PV).flat = true)) (And.intro (Bl b43_4) (trivial)))) (by kernel_rfl) (hk false (Option.some.inj g43))
          refine WX.ret ?_
          exact WC.outP (by rw [← Option.some.inj h]; kernel_rfl)
        · replace hJ33 := fun y33_1 => hJ33 y33_1
          refine WX.block ?_
          refine WC.nil (n := 94) (by assumption) [11] none 83 3 1 (by kernel_rfl) [0, 7, 9, 10, 11, 15, 16] [7, 9, 23, 35, 58, 83] (st' := ⟨[(0, .p (.s (.int .u8 a0))), (7, .ptr 7 0), (9, .ptr 9 0), (10, .own 58), (11, .own 83), (15, .p (.s (.int .i64 t32_2.1))), (16, .p (.s (.bool t32_2.2)))], [(7, .box 27 [.p (.s (.int .i64 t5_2.1.N)), .own 23]), (9, .box 27 [.p (.s (.int .i64 t9_4.N)), .own 35]), (23, rowV 51 (eI .u64) t5_2.1.Words), (35, rowV 51 (eI .u64) t9_4.Words), (58, rowV 3 (eI .i64) y12_1), (83, rowV 3 (eI .i64) (([] : List Int)))], ⟨[], false⟩, []⟩) (by kernel_rfl) ?_
          refine WC.loop (V := List Int × Int × Bool) (riddlelaw01_BitsBack_l0 a0 t5_2 J33) r (fun v44 => ⟨[(0, .p (.s (.int .u8 a0))), (7, .ptr 7 0), (9, .ptr 9 0), (10, .own 58), (11, .own 83), (15, .p (.s (.int .i64 v44.2.1))), (16, .p (.s (.bool v44.2.2)))], [(7, .box 27 [.p (.s (.int .i64 t5_2.1.N)), .own 23]), (9, .box 27 [.p (.s (.int .i64 t9_4.N)), .own 35]), (23, rowV 51 (eI .u64) t5_2.1.Words), (35, rowV 51 (eI .u64) t9_4.Words), (58, rowV 3 (eI .i64) y12_1), (83, rowV 3 (eI .i64) v44.1)], ⟨[], false⟩, []⟩) _ (([] : List Int), t32_2.1, t32_2.2) h (fun _ => rfl) [0, 7, 9, 10, 11, 15, 16] [7, 9, 23, 35, 58, 83] (by kernel_rfl) ?_
          clear h; rintro k ⟨x44_1_1, x44_1_2, x44_1_3⟩ h K44 hnext44 hexit44
          rw [riddlelaw01_BitsBack_l0] at h
          refine WX.seq ?_
          refine WX.seq ?_
          refine WC.via (α := Bool) (fun v53 => ⟨[(0, .p (.s (.int .u8 a0))), (7, .ptr 7 0), (9, .ptr 9 0), (10, .own 58), (11, .own 83), (15, .p (.s (.int .i64 x44_1_2))), (72, .p (.s (.bool v53)))], [(7, .box 27 [.p (.s (.int .i64 t5_2.1.N)), .own 23]), (9, .box 27 [.p (.s (.int .i64 t9_4.N)), .own 35]), (23, rowV 51 (eI .u64) t5_2.1.Words), (35, rowV 51 (eI .u64) t9_4.Words), (58, rowV 3 (eI .i64) y12_1), (83, rowV 3 (eI .i64) x44_1_1)], ⟨[], false⟩, []⟩) ((x44_1_3 && ((decide ((x44_1_1.length : Int) ≤ (IntKind.i64.wrap a0)))))) (fun hk => ?_) ?_
          · rcases Bool.eq_false_or_eq_true x44_1_3 with b53_1 | b53_1
            · exact WC.reg (n := 94) (by assumption) [(1, .val (.p (.s (.bool true))))] [0, 7, 9, 10, 11, 15, 72] [7, 9, 23, 35, 58, 83] ⟨[(0, .p (.s (.int .u8 a0))), (7, .ptr 7 0), (9, .ptr 9 0), (10, .own 58), (11, .own 83), (15, .p (.s (.int .i64 x44_1_2))), (72, .p (.s (.bool ((decide ((x44_1_1.length : Int) ≤ (IntKind.i64.wrap a0)))))))], [(7, .box 27 [.p (.s (.int .i64 t5_2.1.N)), .own 23]), (9, .box 27 [.p (.s (.int .i64 t9_4.N)), .own 35]), (23, rowV 51 (eI .u64) t5_2.1.Words), (35, rowV 51 (eI .u64) t9_4.Words), (58, rowV 3 (eI .i64) y12_1), (83, rowV 3 (eI .i64) x44_1_1)], ⟨[], false⟩, []⟩ (And.intro (Bl b53_1) (trivial)) (by kernel_rfl) (hk ((decide ((x44_1_1.length : Int) ≤ (IntKind.i64.wrap a0)))) (by first | (rw [b53_1]; rfl) | simp [b53_1]))
            · exact WC.reg (n := 94) (by assumption) [(1, .val (.p (.s (.bool false))))] [0, 7, 9, 10, 11, 15, 72] [7, 9, 23, 35, 58, 83] ⟨[(0, .p (.s (.int .u8 a0))), (7, .ptr 7 0), (9, .ptr 9 0), (10, .own 58), (11, .own 83), (15, .p (.s (.int .i64 x44_1_2))), (72, .p (.s (.bool false)))], [(7, .box 27 [.p (.s (.int .i64 t5_2.1.N)), .own 23]), (9, .box 27 [.p (.s (.int .i64 t9_4.N)), .own 35]), (23, rowV 51 (eI .u64) t5_2.1.Words), (35, rowV 51 (eI .u64) t9_4.Words), (58, rowV 3 (eI .i64) y12_1), (83, rowV 3 (eI .i64) x44_1_1)], ⟨[], false⟩, []⟩ (And.intro (Bl b53_1) (trivial)) (by kernel_rfl) (hk false (by first | (rw [b53_1]; rfl) | simp [b53_1]))
          rcases if_or h with ⟨c54, h⟩ | ⟨c54, h⟩
          · refine WC.condT c54 (by kernel_rfl) ?_
            refine WX.skip ?_
            refine WX.seq ?_
            refine WX.block ?_
            obtain ⟨c55_1, h⟩ := if_some h
            refine WC.reg (n := 94) (by assumption) [(3, .app (some 83) (rowV 3 (eI .i64) (x44_1_1 ++ ([x44_1_2]))))] [0, 7, 9, 10, 11, 15] [7, 9, 23, 35, 58, 83] ⟨[(0, .p (.s (.int .u8 a0))), (7, .ptr 7 0), (9, .ptr 9 0), (10, .own 58), (11, .own 83), (15, .p (.s (.int .i64 x44_1_2)))], [(7, .box 27 [.p (.s (.int .i64 t5_2.1.N)), .own 23]), (9, .box 27 [.p (.s (.int .i64 t9_4.N)), .own 35]), (23, rowV 51 (eI .u64) t5_2.1.Words), (35, rowV 51 (eI .u64) t9_4.Words), (58, rowV 3 (eI .i64) y12_1), (83, rowV 3 (eI .i64) (x44_1_1 ++ ([x44_1_2])))], ⟨[], false⟩, []⟩ (And.intro (Ap (eI .i64) (some 83) 3 8 1 x44_1_1 ([x44_1_2]) c55_1) (trivial)) (by kernel_rfl) ?_
            refine WX.popBlk ?_
            obtain ⟨t56_2, h56_1, h⟩ := bind_some h
            refine WC.reg (n := 94) (by assumption) [(3, .res (.tup [.s (.int .i64 t56_2.1), .s (.bool t56_2.2)]))] [0, 7, 9, 10, 11, 15, 16] [7, 9, 23, 35, 58, 83] ⟨[(0, .p (.s (.int .u8 a0))), (7, .ptr 7 0), (9, .ptr 9 0), (10, .own 58), (11, .own 83), (15, .p (.s (.int .i64 t56_2.1))), (16, .p (.s (.bool t56_2.2)))], [(7, .box 27 [.p (.s (.int .i64 t5_2.1.N)), .own 23]), (9, .box 27 [.p (.s (.int .i64 t9_4.N)), .own 35]), (23, rowV 51 (eI .u64) t5_2.1.Words), (35, rowV 51 (eI .u64) t9_4.Words), (58, rowV 3 (eI .i64) y12_1), (83, rowV 3 (eI .i64) (x44_1_1 ++ ([x44_1_2])))], ⟨[], false⟩, []⟩ (And.intro (And.intro (bits_First_ok h56_1) (rfl : (.tup [.s (.int .i64 t56_2.1), .s (.bool t56_2.2)] : PV).flat = true)) (trivial)) (by kernel_rfl) ?_
            exact WC.next [0, 7, 9, 10, 11, 15, 16] [7, 9, 23, 35, 58, 83] (by kernel_rfl) (hnext44 (x44_1_1 ++ ([x44_1_2]), t56_2.1, t56_2.2) h)
          · refine WC.condF c54 (by kernel_rfl) ?_
            refine WX.exit ?_
            refine WX.popCodeExit ?_
            refine WC.exit_nil (hexit44 _ _ (by simp) ?_)
            refine WX.popBlkHit ?_
            exact WC.keep [7, 9, 10, 11] [7, 9, 23, 35, 58, 83] (by kernel_rfl) (hJ33 x44_1_1 h)
      · replace hJ12 := fun y12_1 => hJ12 y12_1
        refine WX.block ?_
        refine WC.nil (n := 94) (by assumption) [10] none 58 3 1 (by kernel_rfl) [0, 2, 7, 9, 10, 11, 37, 38, 39] [7, 9, 23, 35, 37, 58] (st' := ⟨[(0, .p (.s (.int .u8 a0))), (2, .p (.s (.int .i8 a2))), (7, .ptr 7 0), (9, .ptr 9 0), (10, .own 58), (11, .p (.sl .nil 0 [])), (37, .own 37), (38, .p (.s (.int .i64 ((t11_2.length : Int))))), (39, .p (.s (.int .i64 0)))], [(7, .box 27 [.p (.s (.int .i64 t5_2.1.N)), .own 23]), (9, .box 27 [.p (.s (.int .i64 t9_4.N)), .own 35]), (23, rowV 51 (eI .u64) t5_2.1.Words), (35, rowV 51 (eI .u64) t9_4.Words), (37, rowV 3 (eI .i64) t11_2), (58, rowV 3 (eI .i64) (([] : List Int)))], ⟨[], false⟩, []⟩) (by kernel_rfl) ?_
        refine WC.loop (V := List Int × Int) (riddlelaw01_BitsBack_l1 a0 a2 t11_2 J12) r (fun v57 => ⟨[(0, .p (.s (.int .u8 a0))), (2, .p (.s (.int .i8 a2))), (7, .ptr 7 0), (9, .ptr 9 0), (10, .own 58), (11, .p (.sl .nil 0 [])), (37, .own 37), (38, .p (.s (.int .i64 ((t11_2.length : Int))))), (39, .p (.s (.int .i64 v57.2)))], [(7, .box 27 [.p (.s (.int .i64 t5_2.1.N)), .own 23]), (9, .box 27 [.p (.s (.int .i64 t9_4.N)), .own 35]), (23, rowV 51 (eI .u64) t5_2.1.Words), (35, rowV 51 (eI .u64) t9_4.Words), (37, rowV 3 (eI .i64) t11_2), (58, rowV 3 (eI .i64) v57.1)], ⟨[], false⟩, []⟩) _ (([] : List Int), 0) h (fun _ => rfl) [0, 2, 7, 9, 10, 11, 37, 38, 39] [7, 9, 23, 35, 37, 58] (by kernel_rfl) ?_
        clear h; rintro k ⟨x57_1_1, x57_1_2⟩ h K57 hnext57 hexit57
        rw [riddlelaw01_BitsBack_l1] at h
        refine WX.seq ?_
        refine WC.reg (n := 94) (by assumption) [] [0, 2, 7, 9, 10, 11, 37, 38, 39, 40] [7, 9, 23, 35, 37, 58] ⟨[(0, .p (.s (.int .u8 a0))), (2, .p (.s (.int .i8 a2))), (7, .ptr 7 0), (9, .ptr 9 0), (10, .own 58), (11, .p (.sl .nil 0 [])), (37, .own 37), (38, .p (.s (.int .i64 ((t11_2.length : Int))))), (39, .p (.s (.int .i64 x57_1_2))), (40, .p (.s (.bool ((decide (x57_1_2 < (t11_2.length : Int)))))))], [(7, .box 27 [.p (.s (.int .i64 t5_2.1.N)), .own 23]), (9, .box 27 [.p (.s (.int .i64 t9_4.N)), .own 35]), (23, rowV 51 (eI .u64) t5_2.1.Words), (35, rowV 51 (eI .u64) t9_4.Words), (37, rowV 3 (eI .i64) t11_2), (58, rowV 3 (eI .i64) x57_1_1)], ⟨[], false⟩, []⟩ trivial (by kernel_rfl) ?_
        refine WX.seq ?_
        rcases if_or h with ⟨c77, h⟩ | ⟨c77, h⟩
        · refine WC.condT c77 (by kernel_rfl) ?_
          refine WX.skip ?_
          refine WX.seq ?_
          refine WX.block ?_
          refine WX.seq ?_
          obtain ⟨t78_2, h78_1, h⟩ := bind_some h
          refine WC.reg (n := 94) (by assumption) [(0, .val (.ptr 37 (x57_1_2.toNat * 1))), (1, .val (.p (.s (.int .i64 t78_2))))] [0, 2, 7, 9, 10, 11, 13, 37, 38, 39] [7, 9, 23, 35, 37, 58] ⟨[(0, .p (.s (.int .u8 a0))), (2, .p (.s (.int .i8 a2))), (7, .ptr 7 0), (9, .ptr 9 0), (10, .own 58), (11, .p (.sl .nil 0 [])), (13, .p (.s (.int .i64 t78_2))), (37, .own 37), (38, .p (.s (.int .i64 ((t11_2.length : Int))))), (39, .p (.s (.int .i64 x57_1_2)))], [(7, .box 27 [.p (.s (.int .i64 t5_2.1.N)), .own 23]), (9, .box 27 [.p (.s (.int .i64 t9_4.N)), .own 35]), (23, rowV 51 (eI .u64) t5_2.1.Words), (35, rowV 51 (eI .u64) t9_4.Words), (37, rowV 3 (eI .i64) t11_2), (58, rowV 3 (eI .i64) x57_1_1)], ⟨[], false⟩, []⟩ (And.intro (IxO 37 1 h78_1) (And.intro (LdO0 Tryd.prog (eI .i64) 3 h78_1) (trivial))) (by kernel_rfl) ?_
          refine WX.seq ?_
          refine WC.reg (n := 94) (by assumption) [] [0, 2, 7, 9, 10, 11, 13, 14, 37, 38, 39] [7, 9, 23, 35, 37, 58] ⟨[(0, .p (.s (.int .u8 a0))), (2, .p (.s (.int .i8 a2))), (7, .ptr 7 0), (9, .ptr 9 0), (10, .own 58), (11, .p (.sl .nil 0 [])), (13, .p (.s (.int .i64 t78_2))), (14, .p (.s (.int .i64 ((IntKind.i64.wrap (t78_2 + (IntKind.i64.wrap a2))))))), (37, .own 37), (38, .p (.s (.int .i64 ((t11_2.length : Int))))), (39, .p (.s (.int .i64 x57_1_2)))], [(7, .box 27 [.p (.s (.int .i64 t5_2.1.N)), .own 23]), (9, .box 27 [.p (.s (.int .i64 t9_4.N)), .own 35]), (23, rowV 51 (eI .u64) t5_2.1.Words), (35, rowV 51 (eI .u64) t9_4.Words), (37, rowV 3 (eI .i64) t11_2), (58, rowV 3 (eI .i64) x57_1_1)], ⟨[], false⟩, []⟩ trivial (by kernel_rfl) ?_
          refine WX.seq ?_
          refine WC.via (α := Bool) (fun v80 => ⟨[(0, .p (.s (.int .u8 a0))), (2, .p (.s (.int .i8 a2))), (7, .ptr 7 0), (9, .ptr 9 0), (10, .own 58), (11, .p (.sl .nil 0 [])), (13, .p (.s (.int .i64 t78_2))), (37, .own 37), (38, .p (.s (.int .i64 ((t11_2.length : Int))))), (39, .p (.s (.int .i64 x57_1_2))), (54, .p (.s (.bool v80)))], [(7, .box 27 [.p (.s (.int .i64 t5_2.1.N)), .own 23]), (9, .box 27 [.p (.s (.int .i64 t9_4.N)), .own 35]), (23, rowV 51 (eI .u64) t5_2.1.Words), (35, rowV 51 (eI .u64) t9_4.Words), (37, rowV 3 (eI .i64) t11_2), (58, rowV 3 (eI .i64) x57_1_1)], ⟨[], false⟩, []⟩) ((((decide ((IntKind.i64.wrap (t78_2 + (IntKind.i64.wrap a2))) ≥ 0))) && ((decide ((IntKind.i64.wrap (t78_2 + (IntKind.i64.wrap a2))) < (IntKind.i64.wrap a0)))))) (fun hk => ?_) ?_
          · rcases Bool.eq_false_or_eq_true ((decide ((IntKind.i64.wrap (t78_2 + (IntKind.i64.wrap a2))) ≥ 0))) with b80_2 | b80_2
            · exact WC.reg (n := 94) (by assumption) [(2, .val (.p (.s (.bool true))))] [0, 2, 7, 9, 10, 11, 13, 37, 38, 39, 54] [7, 9, 23, 35, 37, 58] ⟨[(0, .p (.s (.int .u8 a0))), (2, .p (.s (.int .i8 a2))), (7, .ptr 7 0), (9, .ptr 9 0), (10, .own 58), (11, .p (.sl .nil 0 [])), (13, .p (.s (.int .i64 t78_2))), (37, .own 37), (38, .p (.s (.int .i64 ((t11_2.length : Int))))), (39, .p (.s (.int .i64 x57_1_2))), (54, .p (.s (.bool ((decide ((IntKind.i64.wrap (t78_2 + (IntKind.i64.wrap a2))) < (IntKind.i64.wrap a0)))))))], [(7, .box 27 [.p (.s (.int .i64 t5_2.1.N)), .own 23]), (9, .box 27 [.p (.s (.int .i64 t9_4.N)), .own 35]), (23, rowV 51 (eI .u64) t5_2.1.Words), (35, rowV 51 (eI .u64) t9_4.Words), (37, rowV 3 (eI .i64) t11_2), (58, rowV 3 (eI .i64) x57_1_1)], ⟨[], false⟩, []⟩ (And.intro (Bl b80_2) (trivial)) (by kernel_rfl) (hk ((decide ((IntKind.i64.wrap (t78_2 + (IntKind.i64.wrap a2))) < (IntKind.i64.wrap a0)))) (by first | (rw [b80_2]; rfl) | simp [b80_2]))
            · exact WC.reg (n := 94) (by assumption) [(2, .val (.p (.s (.bool false))))] [0, 2, 7, 9, 10, 11, 13, 37, 38, 39, 54] [7, 9, 23, 35, 37, 58] ⟨[(0, .p (.s (.int .u8 a0))), (2, .p (.s (.int .i8 a2))), (7, .ptr 7 0), (9, .ptr 9 0), (10, .own 58), (11, .p (.sl .nil 0 [])), (13, .p (.s (.int .i64 t78_2))), (37, .own 37), (38, .p (.s (.int .i64 ((t11_2.length : Int))))), (39, .p (.s (.int .i64 x57_1_2))), (54, .p (.s (.bool false)))], [(7, .box 27 [.p (.s (.int .i64 t5_2.1.N)), .own 23]), (9, .box 27 [.p (.s (.int .i64 t9_4.N)), .own 35]), (23, rowV 51 (eI .u64) t5_2.1.Words), (35, rowV 51 (eI .u64) t9_4.Words), (37, rowV 3 (eI .i64) t11_2), (58, rowV 3 (eI .i64) x57_1_1)], ⟨[], false⟩, []⟩ (And.intro (Bl b80_2) (trivial)) (by kernel_rfl) (hk false (by first | (rw [b80_2]; rfl) | simp [b80_2]))
          rcases if_or h with ⟨c81, h⟩ | ⟨c81, h⟩
          · refine WC.condT c81 (by kernel_rfl) ?_
            obtain ⟨c82_1, h⟩ := if_some h
            refine WC.reg (n := 94) (by assumption) [(3, .app (some 58) (rowV 3 (eI .i64) (x57_1_1 ++ ([t78_2]))))] [0, 2, 7, 9, 10, 11, 37, 38, 39] [7, 9, 23, 35, 37, 58] ⟨[(0, .p (.s (.int .u8 a0))), (2, .p (.s (.int .i8 a2))), (7, .ptr 7 0), (9, .ptr 9 0), (10, .own 58), (11, .p (.sl .nil 0 [])), (37, .own 37), (38, .p (.s (.int .i64 ((t11_2.length : Int))))), (39, .p (.s (.int .i64 x57_1_2)))], [(7, .box 27 [.p (.s (.int .i64 t5_2.1.N)), .own 23]), (9, .box 27 [.p (.s (.int .i64 t9_4.N)), .own 35]), (23, rowV 51 (eI .u64) t5_2.1.Words), (35, rowV 51 (eI .u64) t9_4.Words), (37, rowV 3 (eI .i64) t11_2), (58, rowV 3 (eI .i64) (x57_1_1 ++ ([t78_2])))], ⟨[], false⟩, []⟩ (And.intro (Ap (eI .i64) (some 58) 3 8 1 x57_1_1 ([t78_2]) c82_1) (trivial)) (by kernel_rfl) ?_
            refine WX.popBlk ?_
            refine WC.reg (n := 94) (by assumption) [] [0, 2, 7, 9, 10, 11, 37, 38, 39] [7, 9, 23, 35, 37, 58] ⟨[(0, .p (.s (.int .u8 a0))), (2, .p (.s (.int .i8 a2))), (7, .ptr 7 0), (9, .ptr 9 0), (10, .own 58), (11, .p (.sl .nil 0 [])), (37, .own 37), (38, .p (.s (.int .i64 ((t11_2.length : Int))))), (39, .p (.s (.int .i64 ((IntKind.i64.wrap (x57_1_2 + 1))))))], [(7, .box 27 [.p (.s (.int .i64 t5_2.1.N)), .own 23]), (9, .box 27 [.p (.s (.int .i64 t9_4.N)), .own 35]), (23, rowV 51 (eI .u64) t5_2.1.Words), (35, rowV 51 (eI .u64) t9_4.Words), (37, rowV 3 (eI .i64) t11_2), (58, rowV 3 (eI .i64) (x57_1_1 ++ ([t78_2])))], ⟨[], false⟩, []⟩ trivial (by kernel_rfl) ?_
            exact WC.next [0, 2, 7, 9, 10, 11, 37, 38, 39] [7, 9, 23, 35, 37, 58] (by kernel_rfl) (hnext57 (x57_1_1 ++ ([t78_2]), (IntKind.i64.wrap (x57_1_2 + 1))) h)
          · refine WC.condF c81 (by kernel_rfl) ?_
            refine WX.skip ?_
            refine WX.popBlk ?_
            refine WC.reg (n := 94) (by assumption) [] [0, 2, 7, 9, 10, 11, 37, 38, 39] [7, 9, 23, 35, 37, 58] ⟨[(0, .p (.s (.int .u8 a0))), (2, .p (.s (.int .i8 a2))), (7, .ptr 7 0), (9, .ptr 9 0), (10, .own 58), (11, .p (.sl .nil 0 [])), (37, .own 37), (38, .p (.s (.int .i64 ((t11_2.length : Int))))), (39, .p (.s (.int .i64 ((IntKind.i64.wrap (x57_1_2 + 1))))))], [(7, .box 27 [.p (.s (.int .i64 t5_2.1.N)), .own 23]), (9, .box 27 [.p (.s (.int .i64 t9_4.N)), .own 35]), (23, rowV 51 (eI .u64) t5_2.1.Words), (35, rowV 51 (eI .u64) t9_4.Words), (37, rowV 3 (eI .i64) t11_2), (58, rowV 3 (eI .i64) x57_1_1)], ⟨[], false⟩, []⟩ trivial (by kernel_rfl) ?_
            exact WC.next [0, 2, 7, 9, 10, 11, 37, 38, 39] [7, 9, 23, 35, 37, 58] (by kernel_rfl) (hnext57 (x57_1_1, (IntKind.i64.wrap (x57_1_2 + 1))) h)
        · refine WC.condF c77 (by kernel_rfl) ?_
          refine WX.exit ?_
          refine WX.popCodeExit ?_
          refine WC.exit_nil (hexit57 _ _ (by simp) ?_)
          refine WX.popBlkHit ?_
          exact WC.keep [0, 7, 9, 10, 11] [7, 9, 23, 35, 58] (by kernel_rfl) (hJ12 x57_1_1 h)
def riddleref01_Zero (a0 : Int) : Option (api_Bits) :=
  (if okMake 8 ((IntKind.i64.wrap (((IntKind.i64.wrap (a0 + 63))).tdiv 64))) then some ((api_Bits.mk a0 (List.replicate ((IntKind.i64.wrap (((IntKind.i64.wrap (a0 + 63))).tdiv 64))).toNat 0))) else none)
theorem riddleref01_Zero_ok {a0 : Int} {r : api_Bits} (h : riddleref01_Zero a0 = some r) : AnsO Tryd.prog 46 [] [.p (.s (.int .i64 a0))] [(7, rowV 51 (eI .u64) r.Words)] (.agg [.p (.s (.int .i64 r.N)), .own 7]) := by
  refine W_fnO [7] Tryd.func46 rfl (by kernel_rfl) (by kernel_rfl) (by kernel_rfl) (by kernel_rfl) ?_
  intro X hro hn
  unfold riddleref01_Zero at h
  refine WX.seq ?_
  refine WC.reg (n := 9) (by assumption) [] [0, 2] [2] ⟨[(0, .p (.s (.int .i64 a0))), (2, .ptr 2 0)], [(2, .box 27 [.p (.s (.int .i64 0)), .p (.sl .nil 0 [])])], ⟨[], false⟩, []⟩ trivial (by kernel_rfl) ?_
  refine WX.seq ?_
  obtain ⟨c2_1, h⟩ := if_some h
  refine WC.reg (n := 9) (by assumption) [(4, .ob (rowV 51 (eI .u64) (List.replicate ((IntKind.i64.wrap (((IntKind.i64.wrap (a0 + 63))).tdiv 64))).toNat 0)))] [2] [2, 7] ⟨[(2, .ptr 2 0)], [(2, .box 27 [.p (.s (.int .i64 a0)), .own 7]), (7, rowV 51 (eI .u64) (List.replicate ((IntKind.i64.wrap (((IntKind.i64.wrap (a0 + 63))).tdiv 64))).toNat 0))], ⟨[], false⟩, []⟩ (And.intro (Mk (eI .u64) [.int .u64 0] 0 51 8 ((IntKind.i64.wrap (((IntKind.i64.wrap (a0 + 63))).tdiv 64))) rfl rfl c2_1) (trivial)) (by kernel_rfl) ?_
  refine WX.ret ?_
  exact WC.outO (by rw [← Option.some.inj h]; kernel_rfl)
theorem riddleref01_Zero_okP {a0 : Int} {r : api_Bits} (h : riddleref01_Zero a0 = some r) : Ans Tryd.prog 46 [.s (.int .i64 a0)] (.agg [.s (.int .i64 r.N), slV (eI .u64) r.Words]) := AnsO.ans (args := [.s (.int .i64 a0)]) (riddleref01_Zero_ok h) (by kernel_rfl)
def riddleref01_put (a0 : api_Bits) (a1 : Int) : Option ((List Int)) :=
  (if (((decide (a1 ≥ 0))) && ((decide (a1 < a0.N)))) = true then (at_ a0.Words ((IntKind.i64.wrap (a1.tdiv 64)))).bind fun t4_2 => (if ¬ (IntKind.u64.wrap ((a1.tmod 64))) < 0 then some (a0.Words.set ((IntKind.i64.wrap (a1.tdiv 64))).toNat ((bits .or .u64 t4_2 ((IntKind.u64.wrap (1 * 2 ^ (min ((IntKind.u64.wrap ((a1.tmod 64)))).toNat IntKind.u64.bits))))))) else none) else some a0.Words)
theorem riddleref01_put_ok {a0 : api_Bits} {a1 : Int} {r : (List Int)} (h : riddleref01_put a0 a1 = some r) : AnsO Tryd.prog 47 [(1000, rowV 51 (eI .u64) a0.Words)] [.agg [.p (.s (.int .i64 a0.N)), .own 1000], .p (.s (.int .i64 a1))] [(1000, rowV 51 (eI .u64) r)] (.tup []) := by
  refine W_fnO [1000] Tryd.func47 rfl (by kernel_rfl) (by kernel_rfl) (by kernel_rfl) (by kernel_rfl) ?_
  intro X hro hn
  unfold riddleref01_put at h
  refine WX.seq ?_
  refine WC.reg (n := 24) (by assumption) [] [1, 2] [2, 1000] ⟨[(1, .p (.s (.int .i64 a1))), (2, .ptr 2 0)], [(2, .box 27 [.p (.s (.int .i64 a0.N)), .own 1000]), (1000, rowV 51 (eI .u64) a0.Words)], ⟨[], false⟩, []⟩ trivial (by kernel_rfl) ?_
  refine WX.seq ?_
  refine WC.via (α := Bool) (fun v2 => ⟨[(1, .p (.s (.int .i64 a1))), (2, .ptr 2 0), (11, .p (.s (.bool v2)))], [(2, .box 27 [.p (.s (.int .i64 a0.N)), .own 1000]), (1000, rowV 51 (eI .u64) a0.Words)], ⟨[], false⟩, []⟩) ((((decide (a1 ≥ 0))) && ((decide (a1 < a0.N))))) (fun hk => ?_) ?_
  · rcases Bool.eq_false_or_eq_true ((decide (a1 ≥ 0))) with b2_2 | b2_2
    · exact WC.reg (n := 24) (by assumption) [(2, .val (.p (.s (.bool true))))] [1, 2, 11] [2, 1000] ⟨[(1, .p (.s (.int .i64 a1))), (2, .ptr 2 0), (11, .p (.s (.bool ((decide (a1 < a0.N))))))], [(2, .box 27 [.p (.s (.int .i64 a0.N)), .own 1000]), (1000, rowV 51 (eI .u64) a0.Words)], ⟨[], false⟩, []⟩ (And.intro (Bl b2_2) (trivial)) (by kernel_rfl) (hk ((decide (a1 < a0.N))) (by first | (rw [b2_2]; rfl) | simp [b2_2]))
    · exact WC.reg (n := 24) (by assumption) [(2, .val (.p (.s (.bool false))))] [1, 2, 11] [2, 1000] ⟨[(1, .p (.s (.int .i64 a1))), (2, .ptr 2 0), (11, .p (.s (.bool false)))], [(2, .box 27 [.p (.s (.int .i64 a0.N)), .own 1000]), (1000, rowV 51 (eI .u64) a0.Words)], ⟨[], false⟩, []⟩ (And.intro (Bl b2_2) (trivial)) (by kernel_rfl) (hk false (by first | (rw [b2_2]; rfl) | simp [b2_2]))
  rcases if_or h with ⟨c3, h⟩ | ⟨c3, h⟩
  · refine WC.condT c3 (by kernel_rfl) ?_
    obtain ⟨t4_2, h4_1, h⟩ := bind_some h
    obtain ⟨c4_3, h⟩ := if_some h
    refine WC.reg (n := 24) (by assumption) [(4, .val (.ptr 1000 (((IntKind.i64.wrap (a1.tdiv 64))).toNat * 1))), (5, .val (.p (.s (.int .u64 t4_2)))), (9, .val (.p (.s (.int .u64 (IntKind.u64.wrap (1 * 2 ^ (min ((IntKind.u64.wrap ((a1.tmod 64)))).toNat IntKind.u64.bits))))))), (11, .val (.ptr 1000 (((IntKind.i64.wrap (a1.tdiv 64))).toNat * 1))), (12, .sto 1000 (rowV 51 (eI .u64) (a0.Words.set ((IntKind.i64.wrap (a1.tdiv 64))).toNat ((bits .or .u64 t4_2 ((IntKind.u64.wrap (1 * 2 ^ (min ((IntKind.u64.wrap ((a1.tmod 64)))).toNat IntKind.u64.bits)))))))))] [] [1000] ⟨[], [(1000, rowV 51 (eI .u64) (a0.Words.set ((IntKind.i64.wrap (a1.tdiv 64))).toNat ((bits .or .u64 t4_2 ((IntKind.u64.wrap (1 * 2 ^ (min ((IntKind.u64.wrap ((a1.tmod 64)))).toNat IntKind.u64.bits))))))))], ⟨[], false⟩, []⟩ (And.intro (IxO 1000 1 h4_1) (And.intro (LdO0 Tryd.prog (eI .u64) 51 h4_1) (And.intro (Shl .u64 1 ((IntKind.u64.wrap ((a1.tmod 64)))) c4_3) (And.intro (IxO 1000 1 h4_1) (And.intro (StO0 (eI .u64) 1000 51 1 1 [.s (.int .u64 ((bits .or .u64 t4_2 ((IntKind.u64.wrap (1 * 2 ^ (min ((IntKind.u64.wrap ((a1.tmod 64)))).toNat IntKind.u64.bits)))))))] ((bits .or .u64 t4_2 ((IntKind.u64.wrap (1 * 2 ^ (min ((IntKind.u64.wrap ((a1.tmod 64)))).toNat IntKind.u64.bits)))))) h4_1 rfl rfl (by decide)) (trivial)))))) (by kernel_rfl) ?_
    exact WC.outOn (by rw [← Option.some.inj h]; kernel_rfl)
  · refine WC.condF c3 (by kernel_rfl) ?_
    refine WX.skip ?_
    exact WC.outOn (by rw [← Option.some.inj h]; kernel_rfl)
def riddleref01_New_l0 (a1 : (List Int)) (t5_2 : api_Bits) (J7 : List Int → Option (api_Bits × Int)) : Nat → (Int × List Int) → Option (api_Bits × Int)
  | 0, _ => none
  | k + 1, (x18_1_1, x18_1_2) => (if (decide (x18_1_1 < (a1.length : Int))) = true then (at_ a1 x18_1_1).bind fun t29_2 => (riddleref01_put ((api_Bits.mk t5_2.N x18_1_2)) t29_2).bind fun t29_4 => riddleref01_New_l0 a1 t5_2 J7 k ((IntKind.i64.wrap (x18_1_1 + 1)), t29_4) else J7 x18_1_2)
def riddleref01_New (k : Nat) (a0 : Int) (a1 : (List Int)) : Option (api_Bits × Int) :=
  (if (((decide (a0 < 0))) || ((decide (a0 > 8192)))) = true then some ((api_Bits.mk 0 (([] : List Int))), 1) else (riddleref01_Zero a0).bind fun t5_2 => jn (fun (v7 : List Int) => some ((api_Bits.mk t5_2.N v7), 0)) fun J7 => riddleref01_New_l0 a1 t5_2 J7 k (0, t5_2.Words))
theorem riddleref01_New_ok {k : Nat} {a0 : Int} {a1 : (List Int)} {r : api_Bits × Int} (h : riddleref01_New k a0 a1 = some r) : AnsO Tryd.prog 15 [] [.p (.s (.int .i64 a0)), .p (slV (eI .i64) a1)] [(16, rowV 51 (eI .u64) r.1.Words)] (.tup [.agg [.p (.s (.int .i64 r.1.N)), .own 16], .p (.s (.int .i64 r.2))]) := by
  refine W_fnO [16] Tryd.func15 rfl (by kernel_rfl) (by kernel_rfl) (by kernel_rfl) (by kernel_rfl) ?_
  intro X hro hn
  unfold riddleref01_New at h
  refine WX.seq ?_
  refine WC.reg (n := 30) (by assumption) [] [0, 1, 4] [4] ⟨[(0, .p (.s (.int .i64 a0))), (1, .p (slV (eI .i64) a1)), (4, .ptr 4 0)], [(4, .box 27 [.p (.s (.int .i64 0)), .p (.sl .nil 0 [])])], ⟨[], false⟩, []⟩ trivial (by kernel_rfl) ?_
  refine WX.seq ?_
  refine WX.seq ?_
  refine WC.via (α := Bool) (fun v2 => ⟨[(0, .p (.s (.int .i64 a0))), (1, .p (slV (eI .i64) a1)), (4, .ptr 4 0), (13, .p (.s (.bool v2)))], [(4, .box 27 [.p (.s (.int .i64 0)), .p (.sl .nil 0 [])])], ⟨[], false⟩, []⟩) ((((decide (a0 < 0))) || ((decide (a0 > 8192))))) (fun hk => ?_) ?_
  · rcases Bool.eq_false_or_eq_true ((decide (a0 < 0))) with b2_2 | b2_2
    · exact WC.reg (n := 30) (by assumption) [(2, .val (.p (.s (.bool true))))] [0, 1, 4, 13] [4] ⟨[(0, .p (.s (.int .i64 a0))), (1, .p (slV (eI .i64) a1)), (4, .ptr 4 0), (13, .p (.s (.bool true)))], [(4, .box 27 [.p (.s (.int .i64 0)), .p (.sl .nil 0 [])])], ⟨[], false⟩, []⟩ (And.intro (Bl b2_2) (trivial)) (by kernel_rfl) (hk true (by first | (rw [b2_2]; rfl) | simp [b2_2]))
    · exact WC.reg (n := 30) (by assumption) [(2, .val (.p (.s (.bool false))))] [0, 1, 4, 13] [4] ⟨[(0, .p (.s (.int .i64 a0))), (1, .p (slV (eI .i64) a1)), (4, .ptr 4 0), (13, .p (.s (.bool ((decide (a0 > 8192))))))], [(4, .box 27 [.p (.s (.int .i64 0)), .p (.sl .nil 0 [])])], ⟨[], false⟩, []⟩ (And.intro (Bl b2_2) (trivial)) (by kernel_rfl) (hk ((decide (a0 > 8192))) (by first | (rw [b2_2]; rfl) | simp [b2_2]))
  rcases if_or h with ⟨c3, h⟩ | ⟨c3, h⟩
  · refine WC.condT c3 (by kernel_rfl) ?_
    refine WX.seq ?_
    refine WC.reg (n := 30) (by assumption) [] [4, 5] [4] ⟨[(4, .ptr 4 0), (5, .p (.s (.int .i64 1)))], [(4, .box 27 [.p (.s (.int .i64 0)), .p (.sl .nil 0 [])])], ⟨[], false⟩, []⟩ trivial (by kernel_rfl) ?_
    refine WX.ret ?_
    refine WC.nil (n := 30) (by assumption) [] (some (4, 1)) 16 51 1 (by kernel_rfl) [4, 5] [4, 16] (st' := ⟨[(4, .ptr 4 0), (5, .p (.s (.int .i64 1)))], [(4, .box 27 [.p (.s (.int .i64 0)), .own 16]), (16, rowV 51 (eI .u64) (([] : List Int)))], ⟨[], false⟩, []⟩) (by kernel_rfl) ?_
    exact WC.outO (by rw [← Option.some.inj h]; kernel_rfl)
  · refine WC.condF c3 (by kernel_rfl) ?_
    refine WX.skip ?_
    refine WX.seq ?_
    obtain ⟨t5_2, h5_1, h⟩ := bind_some h
    refine WC.reg (n := 30) (by assumption) [(1, .co [] [] [] [(16, rowV 51 (eI .u64) t5_2.Words)] (.agg [.p (.s (.int .i64 t5_2.N)), .own 16]))] [1, 4, 6] [4, 6, 16] ⟨[(1, .p (slV (eI .i64) a1)), (4, .ptr 4 0), (6, .ptr 6 0)], [(4, .box 27 [.p (.s (.int .i64 0)), .p (.sl .nil 0 [])]), (6, .box 27 [.p (.s (.int .i64 t5_2.N)), .own 16]), (16, rowV 51 (eI .u64) t5_2.Words)], ⟨[], false⟩, []⟩ (And.intro (And.intro ((riddleref01_Zero_ok h5_1).ren 7 16 (by kernel_rfl)) (trivial)) (trivial)) (by kernel_rfl) ?_
    refine WX.seq ?_
    refine WX.seq ?_
    refine WC.reg (n := 30) (by assumption) [] [1, 4, 6, 7] [4, 6, 16] ⟨[(1, .p (slV (eI .i64) a1)), (4, .ptr 4 0), (6, .ptr 6 0), (7, .p (.s (.int .i64 0)))], [(4, .box 27 [.p (.s (.int .i64 0)), .p (.sl .nil 0 [])]), (6, .box 27 [.p (.s (.int .i64 t5_2.N)), .own 16]), (16, rowV 51 (eI .u64) t5_2.Words)], ⟨[], false⟩, []⟩ trivial (by kernel_rfl) ?_
    obtain ⟨J7, eJ7, h⟩ := jn_some h
    try dsimp only at h
    refine WC.join (α := List Int) (fun v7 => ⟨[(4, .ptr 4 0), (6, .ptr 6 0)], [(4, .box 27 [.p (.s (.int .i64 0)), .p (.sl .nil 0 [])]), (6, .box 27 [.p (.s (.int .i64 t5_2.N)), .own 16]), (16, rowV 51 (eI .u64) v7)], ⟨[], false⟩, []⟩) (fun v7 => J7 v7 = some r) ?_ (fun hJ7 => ?_)
    · rintro y7_1 h
      rw [eJ7] at h
      try dsimp only at h
      refine WX.seq ?_
      refine WC.reg (n := 30) (by assumption) [] [4, 5] [4, 16] ⟨[(4, .ptr 4 0), (5, .p (.s (.int .i64 0)))], [(4, .box 27 [.p (.s (.int .i64 t5_2.N)), .own 16]), (16, rowV 51 (eI .u64) y7_1)], ⟨[], false⟩, []⟩ trivial (by kernel_rfl) ?_
      refine WX.ret ?_
      exact WC.outO (by rw [← Option.some.inj h]; kernel_rfl)
    · replace hJ7 := fun y7_1 => hJ7 y7_1
      refine WX.block ?_
      refine WC.loop (V := Int × List Int) (riddleref01_New_l0 a1 t5_2 J7) r (fun v18 => ⟨[(1, .p (slV (eI .i64) a1)), (4, .ptr 4 0), (6, .ptr 6 0), (7, .p (.s (.int .i64 v18.1)))], [(4, .box 27 [.p (.s (.int .i64 0)), .p (.sl .nil 0 [])]), (6, .box 27 [.p (.s (.int .i64 t5_2.N)), .own 16]), (16, rowV 51 (eI .u64) v18.2)], ⟨[], false⟩, []⟩) _ (0, t5_2.Words) h (fun _ => rfl) [1, 4, 6, 7] [4, 6, 16] (by kernel_rfl) ?_
      clear h; rintro k ⟨x18_1_1, x18_1_2⟩ h K18 hnext18 hexit18
      rw [riddleref01_New_l0] at h
      refine WX.seq ?_
      refine WX.seq ?_
      refine WC.reg (n := 30) (by assumption) [] [1, 4, 6, 7, 20] [4, 6, 16] ⟨[(1, .p (slV (eI .i64) a1)), (4, .ptr 4 0), (6, .ptr 6 0), (7, .p (.s (.int .i64 x18_1_1))), (20, .p (.s (.bool ((decide (x18_1_1 < (a1.length : Int)))))))], [(4, .box 27 [.p (.s (.int .i64 0)), .p (.sl .nil 0 [])]), (6, .box 27 [.p (.s (.int .i64 t5_2.N)), .own 16]), (16, rowV 51 (eI .u64) x18_1_2)], ⟨[], false⟩, []⟩ trivial (by kernel_rfl) ?_
      rcases if_or h with ⟨c28, h⟩ | ⟨c28, h⟩
      · refine WC.condT c28 (by kernel_rfl) ?_
        refine WX.skip ?_
        refine WX.seq ?_
        refine WX.block ?_
        obtain ⟨t29_2, h29_1, h⟩ := bind_some h
        obtain ⟨t29_4, h29_3, h⟩ := bind_some h
        refine WC.drw (n := 30) (by assumption) [(5, [])] [] [(3, .val (.p (.rop ((eI .i64).cells t29_2 ++ encL (eI .i64) (a1.drop (x18_1_1.toNat + 1)))))), (5, .co [] [16] [] [(16, rowV 51 (eI .u64) t29_4)] (.tup []))] [1, 4, 6, 7] [4, 6, 16] ⟨[(1, .p (slV (eI .i64) a1)), (4, .ptr 4 0), (6, .ptr 6 0), (7, .p (.s (.int .i64 x18_1_1)))], [(4, .box 27 [.p (.s (.int .i64 0)), .p (.sl .nil 0 [])]), (6, .box 27 [.p (.s (.int .i64 t5_2.N)), .own 16]), (16, rowV 51 (eI .u64) t29_4)], ⟨[], false⟩, []⟩ (And.intro (Ix (eI .i64) h29_1) (And.intro (And.intro ((riddleref01_put_ok h29_3).ren 1000 16 (by kernel_rfl)) (trivial)) (trivial))) (by kernel_rfl) (by kernel_rfl) (by kernel_rfl) (by kernel_rfl) ?_
        refine WX.popBlk ?_
        refine WC.reg (n := 30) (by assumption) [] [1, 4, 6, 7] [4, 6, 16] ⟨[(1, .p (slV (eI .i64) a1)), (4, .ptr 4 0), (6, .ptr 6 0), (7, .p (.s (.int .i64 ((IntKind.i64.wrap (x18_1_1 + 1))))))], [(4, .box 27 [.p (.s (.int .i64 0)), .p (.sl .nil 0 [])]), (6, .box 27 [.p (.s (.int .i64 t5_2.N)), .own 16]), (16, rowV 51 (eI .u64) t29_4)], ⟨[], false⟩, []⟩ trivial (by kernel_rfl) ?_
        exact WC.next [1, 4, 6, 7] [4, 6, 16] (by kernel_rfl) (hnext18 ((IntKind.i64.wrap (x18_1_1 + 1)), t29_4) h)
      · refine WC.condF c28 (by kernel_rfl) ?_
        refine WX.exit ?_
        refine WX.popCodeExit ?_
        refine WC.exit_nil (hexit18 _ _ (by simp) ?_)
        refine WX.popBlkHit ?_
        exact WC.keep [4, 6] [4, 6, 16] (by kernel_rfl) (hJ7 x18_1_2 h)
theorem riddleref01_New_okP {k : Nat} {a0 : Int} {a1 : (List Int)} {r : api_Bits × Int} (h : riddleref01_New k a0 a1 = some r) : Ans Tryd.prog 15 [.s (.int .i64 a0), slV (eI .i64) a1] (.tup [.agg [.s (.int .i64 r.1.N), slV (eI .u64) r.1.Words], .s (.int .i64 r.2)]) := AnsO.ans (args := [.s (.int .i64 a0), slV (eI .i64) a1]) (riddleref01_New_ok h) (by kernel_rfl)
def riddleref01_Exact_l0 (a0 : api_Bits) (a1 : api_Bits) (J6 : Unit → Option (Bool)) : Nat → Int → Option (Bool)
  | 0, _ => none
  | k + 1, x21_1_1 => (if (decide (x21_1_1 < (a0.Words.length : Int))) = true then (at_ a0.Words x21_1_1).bind fun t36_2 => (at_ a1.Words x21_1_1).bind fun t36_4 => (if (t36_2 != t36_4) = true then some false else riddleref01_Exact_l0 a0 a1 J6 k ((IntKind.i64.wrap (x21_1_1 + 1)))) else J6 ())
def riddleref01_Exact (k : Nat) (a0 : api_Bits) (a1 : api_Bits) : Option (Bool) :=
  (if (((a0.N != a1.N)) || (((a0.Words.length : Int) != (a1.Words.length : Int)))) = true then some false else jn (fun (v6 : Unit) => some true) fun J6 => riddleref01_Exact_l0 a0 a1 J6 k 0)
theorem riddleref01_Exact_ok {k : Nat} {a0 : api_Bits} {a1 : api_Bits} {r : Bool} (h : riddleref01_Exact k a0 a1 = some r) : Ans Tryd.prog 16 [.agg [.s (.int .i64 a0.N), slV (eI .u64) a0.Words], .agg [.s (.int .i64 a1.N), slV (eI .u64) a1.Words]] (.s (.bool r)) := by
  refine W_fn Tryd.func16 rfl (by kernel_rfl) (by kernel_rfl) ?_
  intro X hro hn
  unfold riddleref01_Exact at h
  refine WX.seq ?_
  refine WC.reg (n := 38) (by assumption) [] [2, 3] [2, 3] ⟨[(2, .ptr 2 0), (3, .ptr 3 0)], [(2, .box 27 [.p (.s (.int .i64 a0.N)), .p (slV (eI .u64) a0.Words)]), (3, .box 27 [.p (.s (.int .i64 a1.N)), .p (slV (eI .u64) a1.Words)])], ⟨[], false⟩, []⟩ trivial (by kernel_rfl) ?_
  refine WX.seq ?_
  refine WX.seq ?_
  refine WC.via (α := Bool) (fun v2 => ⟨[(2, .ptr 2 0), (3, .ptr 3 0), (19, .p (.s (.bool v2)))], [(2, .box 27 [.p (.s (.int .i64 a0.N)), .p (slV (eI .u64) a0.Words)]), (3, .box 27 [.p (.s (.int .i64 a1.N)), .p (slV (eI .u64) a1.Words)])], ⟨[], false⟩, []⟩) ((((a0.N != a1.N)) || (((a0.Words.length : Int) != (a1.Words.length : Int))))) (fun hk => ?_) ?_
  · rcases Bool.eq_false_or_eq_true ((a0.N != a1.N)) with b2_5 | b2_5
    · exact WC.reg (n := 38) (by assumption) [(5, .val (.p (.s (.bool true))))] [2, 3, 19] [2, 3] ⟨[(2, .ptr 2 0), (3, .ptr 3 0), (19, .p (.s (.bool true)))], [(2, .box 27 [.p (.s (.int .i64 a0.N)), .p (slV (eI .u64) a0.Words)]), (3, .box 27 [.p (.s (.int .i64 a1.N)), .p (slV (eI .u64) a1.Words)])], ⟨[], false⟩, []⟩ (And.intro (Bl b2_5) (trivial)) (by kernel_rfl) (hk true (by first | (rw [b2_5]; rfl) | simp [b2_5]))
    · exact WC.reg (n := 38) (by assumption) [(5, .val (.p (.s (.bool false))))] [2, 3, 19] [2, 3] ⟨[(2, .ptr 2 0), (3, .ptr 3 0), (19, .p (.s (.bool (((a0.Words.length : Int) != (a1.Words.length : Int))))))], [(2, .box 27 [.p (.s (.int .i64 a0.N)), .p (slV (eI .u64) a0.Words)]), (3, .box 27 [.p (.s (.int .i64 a1.N)), .p (slV (eI .u64) a1.Words)])], ⟨[], false⟩, []⟩ (And.intro (Bl b2_5) (trivial)) (by kernel_rfl) (hk (((a0.Words.length : Int) != (a1.Words.length : Int))) (by first | (rw [b2_5]; rfl) | simp [b2_5]))
  rcases if_or h with ⟨c3, h⟩ | ⟨c3, h⟩
  · refine WC.condT c3 (by kernel_rfl) ?_
    refine WX.seq ?_
    refine WC.reg (n := 38) (by assumption) [] [4] [] ⟨[(4, .p (.s (.bool false)))], [], ⟨[], false⟩, []⟩ trivial (by kernel_rfl) ?_
    refine WX.ret ?_
    exact WC.outP (by rw [← Option.some.inj h]; kernel_rfl)
  · refine WC.condF c3 (by kernel_rfl) ?_
    refine WX.skip ?_
    refine WX.seq ?_
    refine WX.seq ?_
    refine WC.reg (n := 38) (by assumption) [] [2, 3, 5] [2, 3] ⟨[(2, .ptr 2 0), (3, .ptr 3 0), (5, .p (.s (.int .i64 0)))], [(2, .box 27 [.p (.s (.int .i64 a0.N)), .p (slV (eI .u64) a0.Words)]), (3, .box 27 [.p (.s (.int .i64 a1.N)), .p (slV (eI .u64) a1.Words)])], ⟨[], false⟩, []⟩ trivial (by kernel_rfl) ?_
    obtain ⟨J6, eJ6, h⟩ := jn_some h
    try dsimp only at h
    refine WC.join (α := Unit) (fun v6 => ⟨[], [], ⟨[], false⟩, []⟩) (fun v6 => J6 v6 = some r) ?_ (fun hJ6 => ?_)
    · rintro _ h
      rw [eJ6] at h
      try dsimp only at h
      refine WX.seq ?_
      refine WC.reg (n := 38) (by assumption) [] [4] [] ⟨[(4, .p (.s (.bool true)))], [], ⟨[], false⟩, []⟩ trivial (by kernel_rfl) ?_
      refine WX.ret ?_
      exact WC.outP (by rw [← Option.some.inj h]; kernel_rfl)
    · skip
      refine WX.block ?_
      refine WC.loop (V := Int) (riddleref01_Exact_l0 a0 a1 J6) r (fun v21 => ⟨[(2, .ptr 2 0), (3, .ptr 3 0), (5, .p (.s (.int .i64 v21)))], [(2, .box 27 [.p (.s (.int .i64 a0.N)), .p (slV (eI .u64) a0.Words)]), (3, .box 27 [.p (.s (.int .i64 a1.N)), .p (slV (eI .u64) a1.Words)])], ⟨[], false⟩, []⟩) _ 0 h (fun _ => rfl) [2, 3, 5] [2, 3] (by kernel_rfl) ?_
      clear h; rintro k x21_1_1 h K21 hnext21 hexit21
      rw [riddleref01_Exact_l0] at h
      refine WX.seq ?_
      refine WX.seq ?_
      refine WC.reg (n := 38) (by assumption) [] [2, 3, 5, 24] [2, 3] ⟨[(2, .ptr 2 0), (3, .ptr 3 0), (5, .p (.s (.int .i64 x21_1_1))), (24, .p (.s (.bool ((decide (x21_1_1 < (a0.Words.length : Int)))))))], [(2, .box 27 [.p (.s (.int .i64 a0.N)), .p (slV (eI .u64) a0.Words)]), (3, .box 27 [.p (.s (.int .i64 a1.N)), .p (slV (eI .u64) a1.Words)])], ⟨[], false⟩, []⟩ trivial (by kernel_rfl) ?_
      rcases if_or h with ⟨c35, h⟩ | ⟨c35, h⟩
      · refine WC.condT c35 (by kernel_rfl) ?_
        refine WX.skip ?_
        refine WX.seq ?_
        refine WX.block ?_
        refine WX.seq ?_
        obtain ⟨t36_2, h36_1, h⟩ := bind_some h
        obtain ⟨t36_4, h36_3, h⟩ := bind_some h
        refine WC.drw (n := 38) (by assumption) [] [] [(3, .val (.p (.rop ((eI .u64).cells t36_2 ++ encL (eI .u64) (a0.Words.drop (x21_1_1.toNat + 1)))))), (8, .val (.p (.rop ((eI .u64).cells t36_4 ++ encL (eI .u64) (a1.Words.drop (x21_1_1.toNat + 1))))))] [2, 3, 5, 37] [2, 3] ⟨[(2, .ptr 2 0), (3, .ptr 3 0), (5, .p (.s (.int .i64 x21_1_1))), (37, .p (.s (.bool ((t36_2 != t36_4)))))], [(2, .box 27 [.p (.s (.int .i64 a0.N)), .p (slV (eI .u64) a0.Words)]), (3, .box 27 [.p (.s (.int .i64 a1.N)), .p (slV (eI .u64) a1.Words)])], ⟨[], false⟩, []⟩ (And.intro (Ix (eI .u64) h36_1) (And.intro (Ix (eI .u64) h36_3) (trivial))) (by kernel_rfl) (by kernel_rfl) (by kernel_rfl) (by kernel_rfl) ?_
        rcases if_or h with ⟨c37, h⟩ | ⟨c37, h⟩
        · refine WC.condT c37 (by kernel_rfl) ?_
          refine WX.seq ?_
          refine WC.reg (n := 38) (by assumption) [] [4] [] ⟨[(4, .p (.s (.bool false)))], [], ⟨[], false⟩, []⟩ trivial (by kernel_rfl) ?_
          refine WX.ret ?_
          refine WC.ret_all (hexit21 _ _ (by simp) ?_)
          exact WC.outP (by rw [← Option.some.inj h]; kernel_rfl)
        · refine WC.condF c37 (by kernel_rfl) ?_
          refine WX.skip ?_
          refine WX.popBlk ?_
          refine WC.reg (n := 38) (by assumption) [] [2, 3, 5] [2, 3] ⟨[(2, .ptr 2 0), (3, .ptr 3 0), (5, .p (.s (.int .i64 ((IntKind.i64.wrap (x21_1_1 + 1))))))], [(2, .box 27 [.p (.s (.int .i64 a0.N)), .p (slV (eI .u64) a0.Words)]), (3, .box 27 [.p (.s (.int .i64 a1.N)), .p (slV (eI .u64) a1.Words)])], ⟨[], false⟩, []⟩ trivial (by kernel_rfl) ?_
          exact WC.next [2, 3, 5] [2, 3] (by kernel_rfl) (hnext21 ((IntKind.i64.wrap (x21_1_1 + 1))) h)
      · refine WC.condF c35 (by kernel_rfl) ?_
        refine WX.exit ?_
        refine WX.popCodeExit ?_
        refine WC.exit_nil (hexit21 _ _ (by simp) ?_)
        refine WX.popBlkHit ?_
        exact WC.keep [] [] (by kernel_rfl) (hJ6 () h)
def riddleref01_in (a0 : (List Int)) (a1 : Int) : Option (Bool) :=
  (at_ a0 ((IntKind.i64.wrap (a1.tdiv 64)))).bind fun t2_2 => (if ¬ (IntKind.u64.wrap ((a1.tmod 64))) < 0 then some (((bits .and .u64 ((t2_2.fdiv (2 ^ (min ((IntKind.u64.wrap ((a1.tmod 64)))).toNat IntKind.u64.bits)))) 1) == 1)) else none)
theorem riddleref01_in_ok {a0 : (List Int)} {a1 : Int} {r : Bool} (h : riddleref01_in a0 a1 = some r) : Ans Tryd.prog 49 [slV (eI .u64) a0, .s (.int .i64 a1)] (.s (.bool r)) := by
  refine W_fn Tryd.func49 rfl (by kernel_rfl) (by kernel_rfl) ?_
  intro X hro hn
  unfold riddleref01_in at h
  refine WX.seq ?_
  refine WC.reg (n := 16) (by assumption) [] [0, 1] [] ⟨[(0, .p (slV (eI .u64) a0)), (1, .p (.s (.int .i64 a1)))], [], ⟨[], false⟩, []⟩ trivial (by kernel_rfl) ?_
  refine WX.seq ?_
  obtain ⟨t2_2, h2_1, h⟩ := bind_some h
  obtain ⟨c2_3, h⟩ := if_some h
  refine WC.reg (n := 16) (by assumption) [(3, .val (.p (.rop ((eI .u64).cells t2_2 ++ encL (eI .u64) (a0.drop (((IntKind.i64.wrap (a1.tdiv 64))).toNat + 1)))))), (8, .val (.p (.s (.int .u64 (t2_2.fdiv (2 ^ (min ((IntKind.u64.wrap ((a1.tmod 64)))).toNat IntKind.u64.bits)))))))] [4] [] ⟨[(4, .p (.s (.bool (((bits .and .u64 ((t2_2.fdiv (2 ^ (min ((IntKind.u64.wrap ((a1.tmod 64)))).toNat IntKind.u64.bits)))) 1) == 1)))))], [], ⟨[], false⟩, []⟩ (And.intro (Ix (eI .u64) h2_1) (And.intro (Shr .u64 t2_2 ((IntKind.u64.wrap ((a1.tmod 64)))) c2_3) (trivial))) (by kernel_rfl) ?_
  refine WX.ret ?_
  exact WC.outP (by rw [← Option.some.inj h]; kernel_rfl)
def riddleref01_Check_l0 (a0 : api_Bits) (J6 : Unit → Option (Int)) : Nat → Int → Option (Int)
  | 0, _ => none
  | k + 1, x21_1_1 => (if (decide (x21_1_1 < (IntKind.i64.wrap (64 * (a0.Words.length : Int))))) = true then (riddleref01_in a0.Words x21_1_1).bind fun t36_2 => (if t36_2 = true then some 10 else riddleref01_Check_l0 a0 J6 k ((IntKind.i64.wrap (x21_1_1 + 1)))) else J6 ())
def riddleref01_Check (k : Nat) (a0 : api_Bits) : Option (Int) :=
  (if (((decide (a0.N < 0))) || ((((decide (a0.N > 8192))) || (((a0.Words.length : Int) != (IntKind.i64.wrap (((IntKind.i64.wrap (a0.N + 63))).tdiv 64))))))) = true then some 10 else jn (fun (v6 : Unit) => some 0) fun J6 => riddleref01_Check_l0 a0 J6 k a0.N)
theorem riddleref01_Check_ok {k : Nat} {a0 : api_Bits} {r : Int} (h : riddleref01_Check k a0 = some r) : Ans Tryd.prog 18 [.agg [.s (.int .i64 a0.N), slV (eI .u64) a0.Words]] (.s (.int .i64 r)) := by
  refine W_fn Tryd.func18 rfl (by kernel_rfl) (by kernel_rfl) ?_
  intro X hro hn
  unfold riddleref01_Check at h
  refine WX.seq ?_
  refine WC.reg (n := 36) (by assumption) [] [1] [1] ⟨[(1, .ptr 1 0)], [(1, .box 27 [.p (.s (.int .i64 a0.N)), .p (slV (eI .u64) a0.Words)])], ⟨[], false⟩, []⟩ trivial (by kernel_rfl) ?_
  refine WX.seq ?_
  refine WX.seq ?_
  refine WC.via (α := Bool) (fun v2 => ⟨[(1, .ptr 1 0), (21, .p (.s (.bool v2)))], [(1, .box 27 [.p (.s (.int .i64 a0.N)), .p (slV (eI .u64) a0.Words)])], ⟨[], false⟩, []⟩) ((((decide (a0.N < 0))) || ((((decide (a0.N > 8192))) || (((a0.Words.length : Int) != (IntKind.i64.wrap (((IntKind.i64.wrap (a0.N + 63))).tdiv 64)))))))) (fun hk => ?_) ?_
  · rcases Bool.eq_false_or_eq_true ((decide (a0.N < 0))) with b2_3 | b2_3
    · exact WC.reg (n := 36) (by assumption) [(3, .val (.p (.s (.bool true))))] [1, 21] [1] ⟨[(1, .ptr 1 0), (21, .p (.s (.bool true)))], [(1, .box 27 [.p (.s (.int .i64 a0.N)), .p (slV (eI .u64) a0.Words)])], ⟨[], false⟩, []⟩ (And.intro (Bl b2_3) (trivial)) (by kernel_rfl) (hk true (by first | (rw [b2_3]; rfl) | simp [b2_3]))
    · rcases Bool.eq_false_or_eq_true ((decide (a0.N > 8192))) with b2_8 | b2_8
      · exact WC.reg (n := 36) (by assumption) [(3, .val (.p (.s (.bool false)))), (8, .val (.p (.s (.bool true))))] [1, 21] [1] ⟨[(1, .ptr 1 0), (21, .p (.s (.bool true)))], [(1, .box 27 [.p (.s (.int .i64 a0.N)), .p (slV (eI .u64) a0.Words)])], ⟨[], false⟩, []⟩ (And.intro (Bl b2_3) (And.intro (Bl b2_8) (trivial))) (by kernel_rfl) (hk true (by first | (rw [b2_3, b2_8]; rfl) | simp [b2_3, b2_8]))
      · exact WC.reg (n := 36) (by assumption) [(3, .val (.p (.s (.bool false)))), (8, .val (.p (.s (.bool false))))] [1, 21] [1] ⟨[(1, .ptr 1 0), (21, .p (.s (.bool (((a0.Words.length : Int) != (IntKind.i64.wrap (((IntKind.i64.wrap (a0.N + 63))).tdiv 64)))))))], [(1, .box 27 [.p (.s (.int .i64 a0.N)), .p (slV (eI .u64) a0.Words)])], ⟨[], false⟩, []⟩ (And.intro (Bl b2_3) (And.intro (Bl b2_8) (trivial))) (by kernel_rfl) (hk (((a0.Words.length : Int) != (IntKind.i64.wrap (((IntKind.i64.wrap (a0.N + 63))).tdiv 64)))) (by first | (rw [b2_3, b2_8]; rfl) | simp [b2_3, b2_8]))
  rcases if_or h with ⟨c3, h⟩ | ⟨c3, h⟩
  · refine WC.condT c3 (by kernel_rfl) ?_
    refine WX.seq ?_
    refine WC.reg (n := 36) (by assumption) [] [2] [] ⟨[(2, .p (.s (.int .i64 10)))], [], ⟨[], false⟩, []⟩ trivial (by kernel_rfl) ?_
    refine WX.ret ?_
    exact WC.outP (by rw [← Option.some.inj h]; kernel_rfl)
  · refine WC.condF c3 (by kernel_rfl) ?_
    refine WX.skip ?_
    refine WX.seq ?_
    refine WX.seq ?_
    refine WC.reg (n := 36) (by assumption) [] [1, 3] [1] ⟨[(1, .ptr 1 0), (3, .p (.s (.int .i64 a0.N)))], [(1, .box 27 [.p (.s (.int .i64 a0.N)), .p (slV (eI .u64) a0.Words)])], ⟨[], false⟩, []⟩ trivial (by kernel_rfl) ?_
    obtain ⟨J6, eJ6, h⟩ := jn_some h
    try dsimp only at h
    refine WC.join (α := Unit) (fun v6 => ⟨[], [], ⟨[], false⟩, []⟩) (fun v6 => J6 v6 = some r) ?_ (fun hJ6 => ?_)
    · rintro _ h
      rw [eJ6] at h
      try dsimp only at h
      refine WX.seq ?_
      refine WC.reg (n := 36) (by assumption) [] [2] [] ⟨[(2, .p (.s (.int .i64 0)))], [], ⟨[], false⟩, []⟩ trivial (by kernel_rfl) ?_
      refine WX.ret ?_
      exact WC.outP (by rw [← Option.some.inj h]; kernel_rfl)
    · skip
      refine WX.block ?_
      refine WC.loop (V := Int) (riddleref01_Check_l0 a0 J6) r (fun v21 => ⟨[(1, .ptr 1 0), (3, .p (.s (.int .i64 v21)))], [(1, .box 27 [.p (.s (.int .i64 a0.N)), .p (slV (eI .u64) a0.Words)])], ⟨[], false⟩, []⟩) _ a0.N h (fun _ => rfl) [1, 3] [1] (by kernel_rfl) ?_
      clear h; rintro k x21_1_1 h K21 hnext21 hexit21
      rw [riddleref01_Check_l0] at h
      refine WX.seq ?_
      refine WX.seq ?_
      refine WC.reg (n := 36) (by assumption) [] [1, 3, 29] [1] ⟨[(1, .ptr 1 0), (3, .p (.s (.int .i64 x21_1_1))), (29, .p (.s (.bool ((decide (x21_1_1 < (IntKind.i64.wrap (64 * (a0.Words.length : Int)))))))))], [(1, .box 27 [.p (.s (.int .i64 a0.N)), .p (slV (eI .u64) a0.Words)])], ⟨[], false⟩, []⟩ trivial (by kernel_rfl) ?_
      rcases if_or h with ⟨c35, h⟩ | ⟨c35, h⟩
      · refine WC.condT c35 (by kernel_rfl) ?_
        refine WX.skip ?_
        refine WX.seq ?_
        refine WX.block ?_
        refine WX.seq ?_
        obtain ⟨t36_2, h36_1, h⟩ := bind_some h
        refine WC.reg (n := 36) (by assumption) [(3, .resP (.s (.bool t36_2)))] [1, 3, 35] [1] ⟨[(1, .ptr 1 0), (3, .p (.s (.int .i64 x21_1_1))), (35, .p (.s (.bool t36_2)))], [(1, .box 27 [.p (.s (.int .i64 a0.N)), .p (slV (eI .u64) a0.Words)])], ⟨[], false⟩, []⟩ (And.intro ((riddleref01_in_ok h36_1)) (trivial)) (by kernel_rfl) ?_
        rcases if_or h with ⟨c37, h⟩ | ⟨c37, h⟩
        · refine WC.condT c37 (by kernel_rfl) ?_
          refine WX.seq ?_
          refine WC.reg (n := 36) (by assumption) [] [2] [] ⟨[(2, .p (.s (.int .i64 10)))], [], ⟨[], false⟩, []⟩ trivial (by kernel_rfl) ?_
          refine WX.ret ?_
          refine WC.ret_all (hexit21 _ _ (by simp) ?_)
          exact WC.outP (by rw [← Option.some.inj h]; kernel_rfl)
        · refine WC.condF c37 (by kernel_rfl) ?_
          refine WX.skip ?_
          refine WX.popBlk ?_
          refine WC.reg (n := 36) (by assumption) [] [1, 3] [1] ⟨[(1, .ptr 1 0), (3, .p (.s (.int .i64 ((IntKind.i64.wrap (x21_1_1 + 1))))))], [(1, .box 27 [.p (.s (.int .i64 a0.N)), .p (slV (eI .u64) a0.Words)])], ⟨[], false⟩, []⟩ trivial (by kernel_rfl) ?_
          exact WC.next [1, 3] [1] (by kernel_rfl) (hnext21 ((IntKind.i64.wrap (x21_1_1 + 1))) h)
      · refine WC.condF c35 (by kernel_rfl) ?_
        refine WX.exit ?_
        refine WX.popCodeExit ?_
        refine WC.exit_nil (hexit21 _ _ (by simp) ?_)
        refine WX.popBlkHit ?_
        exact WC.keep [] [] (by kernel_rfl) (hJ6 () h)
def riddleref01_may (k : Nat) (a0 : api_Bits) : Option (api_Bits) :=
  (riddleref01_Check k a0).bind fun t2_2 => (if (t2_2 != 0) = true then (riddleref01_Zero 0).bind fun t4_2 => some t4_2 else some a0)
theorem riddleref01_may_ok {k : Nat} {a0 : api_Bits} {r : api_Bits} (h : riddleref01_may k a0 = some r) : Ans Tryd.prog 50 [.agg [.s (.int .i64 a0.N), slV (eI .u64) a0.Words]] (.agg [.s (.int .i64 r.N), slV (eI .u64) r.Words]) := by
  refine W_fn Tryd.func50 rfl (by kernel_rfl) (by kernel_rfl) ?_
  intro X hro hn
  unfold riddleref01_may at h
  refine WX.seq ?_
  refine WC.reg (n := 8) (by assumption) [] [1, 2] [1, 2] ⟨[(1, .ptr 1 0), (2, .ptr 2 0)], [(1, .box 27 [.p (.s (.int .i64 a0.N)), .p (slV (eI .u64) a0.Words)]), (2, .box 27 [.p (.s (.int .i64 0)), .p (.sl .nil 0 [])])], ⟨[], false⟩, []⟩ trivial (by kernel_rfl) ?_
  refine WX.seq ?_
  refine WX.seq ?_
  obtain ⟨t2_2, h2_1, h⟩ := bind_some h
  refine WC.reg (n := 8) (by assumption) [(1, .resP (.s (.int .i64 t2_2)))] [1, 2, 5] [1, 2] ⟨[(1, .ptr 1 0), (2, .ptr 2 0), (5, .p (.s (.bool ((t2_2 != 0)))))], [(1, .box 27 [.p (.s (.int .i64 a0.N)), .p (slV (eI .u64) a0.Words)]), (2, .box 27 [.p (.s (.int .i64 0)), .p (.sl .nil 0 [])])], ⟨[], false⟩, []⟩ (And.intro ((riddleref01_Check_ok h2_1)) (trivial)) (by kernel_rfl) ?_
  rcases if_or h with ⟨c3, h⟩ | ⟨c3, h⟩
  · refine WC.condT c3 (by kernel_rfl) ?_
    refine WX.seq ?_
    obtain ⟨t4_2, h4_1, h⟩ := bind_some h
    refine WC.reg (n := 8) (by assumption) [(0, .co [] [] [] [(6, rowV 51 (eI .u64) t4_2.Words)] (.agg [.p (.s (.int .i64 t4_2.N)), .own 6]))] [2] [2, 6] ⟨[(2, .ptr 2 0)], [(2, .box 27 [.p (.s (.int .i64 t4_2.N)), .own 6]), (6, rowV 51 (eI .u64) t4_2.Words)], ⟨[], false⟩, []⟩ (And.intro (And.intro ((riddleref01_Zero_ok h4_1).ren 7 6 (by kernel_rfl)) (trivial)) (trivial)) (by kernel_rfl) ?_
    refine WX.ret ?_
    exact WC.outP (by rw [← Option.some.inj h]; kernel_rfl)
  · refine WC.condF c3 (by kernel_rfl) ?_
    refine WX.skip ?_
    refine WX.seq ?_
    refine WC.reg (n := 8) (by assumption) [] [2] [2] ⟨[(2, .ptr 2 0)], [(2, .box 27 [.p (.s (.int .i64 a0.N)), .p (slV (eI .u64) a0.Words)])], ⟨[], false⟩, []⟩ trivial (by kernel_rfl) ?_
    refine WX.ret ?_
    exact WC.outP (by rw [← Option.some.inj h]; kernel_rfl)
def riddleref01_Has (k : Nat) (a0 : api_Bits) (a1 : Int) : Option (Bool) :=
  (riddleref01_may k a0).bind fun t2_2 => ((if (decide (a1 ≥ 0)) = true then (if (decide (a1 < t2_2.N)) = true then (riddleref01_in t2_2.Words a1).bind fun t3_2 => some t3_2 else some false) else some false) : Option (Bool)).bind fun v3 => some v3
theorem riddleref01_Has_ok {k : Nat} {a0 : api_Bits} {a1 : Int} {r : Bool} (h : riddleref01_Has k a0 a1 = some r) : Ans Tryd.prog 20 [.agg [.s (.int .i64 a0.N), slV (eI .u64) a0.Words], .s (.int .i64 a1)] (.s (.bool r)) := by
  refine W_fn Tryd.func20 rfl (by kernel_rfl) (by kernel_rfl) ?_
  intro X hro hn
  unfold riddleref01_Has at h
  refine WX.seq ?_
  refine WC.reg (n := 21) (by assumption) [] [1, 2] [2] ⟨[(1, .p (.s (.int .i64 a1))), (2, .ptr 2 0)], [(2, .box 27 [.p (.s (.int .i64 a0.N)), .p (slV (eI .u64) a0.Words)])], ⟨[], false⟩, []⟩ trivial (by kernel_rfl) ?_
  refine WX.seq ?_
  obtain ⟨t2_2, h2_1, h⟩ := bind_some h
  refine WC.reg (n := 21) (by assumption) [(1, .resP (.agg [.s (.int .i64 t2_2.N), slV (eI .u64) t2_2.Words]))] [1, 2] [2] ⟨[(1, .p (.s (.int .i64 a1))), (2, .ptr 2 0)], [(2, .box 27 [.p (.s (.int .i64 t2_2.N)), .p (slV (eI .u64) t2_2.Words)])], ⟨[], false⟩, []⟩ (And.intro ((riddleref01_may_ok h2_1)) (trivial)) (by kernel_rfl) ?_
  refine WX.seq ?_
  obtain ⟨m3_1, g3, h⟩ := bind_some h
  refine WC.via (α := Bool) (fun v3 => ⟨[(4, .p (.s (.bool v3)))], [], ⟨[], false⟩, []⟩) m3_1 (fun hk => ?_) ?_
  · rcases if_or g3 with ⟨b3_2, g3⟩ | ⟨b3_2, g3⟩
    · rcases if_or g3 with ⟨b3_8, g3⟩ | ⟨b3_8, g3⟩
      · obtain ⟨t3_2, h3_1, g3⟩ := bind_some g3
        exact WC.reg (n := 21) (by assumption) [(2, .val (.p (.s (.bool true)))), (8, .val (.p (.s (.bool true)))), (12, .resP (.s (.bool t3_2)))] [4] [] ⟨[(4, .p (.s (.bool t3_2)))], [], ⟨[], false⟩, []⟩ (And.intro (Bl b3_2) (And.intro (Bl b3_8) (And.intro ((riddleref01_in_ok h3_1)) (trivial)))) (by kernel_rfl) (hk t3_2 (Option.some.inj g3))
      · exact WC.reg (n := 21) (by assumption) [(2, .val (.p (.s (.bool true)))), (8, .val (.p (.s (.bool false))))] [4] [] ⟨[(4, .p (.s (.bool false)))], [], ⟨[], false⟩, []⟩ (And.intro (Bl b3_2) (And.intro (Bl b3_8) (trivial))) (by kernel_rfl) (hk false (Option.some.inj g3))
    · exact WC.reg (n := 21) (by assumption) [(2, .val (.p (.s (.bool false))))] [4] [] ⟨[(4, .p (.s (.bool false)))], [], ⟨[], false⟩, []⟩ (And.intro (Bl b3_2) (trivial)) (by kernel_rfl) (hk false (Option.some.inj g3))
  refine WX.ret ?_
  exact WC.outP (by rw [← Option.some.inj h]; kernel_rfl)
def bits_With (a0 : api_Bits) (a1 : Int) : Option (api_Bits) :=
  (bits_own a0).bind fun t2_2 => (if (((decide (a1 ≥ 0))) && ((decide (a1 < t2_2.N)))) = true then (at_ t2_2.Words ((IntKind.i64.wrap (a1.tdiv 64)))).bind fun t5_2 => (if ¬ (a1.tmod 64) < 0 then some ((api_Bits.mk t2_2.N (t2_2.Words.set ((IntKind.i64.wrap (a1.tdiv 64))).toNat ((bits .or .u64 t5_2 ((IntKind.u64.wrap (1 * 2 ^ (min ((a1.tmod 64)).toNat IntKind.u64.bits))))))))) else none) else some t2_2)
theorem bits_With_ok {a0 : api_Bits} {a1 : Int} {r : api_Bits} (h : bits_With a0 a1 = some r) : AnsO Tryd.prog 21 [] [.p (.agg [.s (.int .i64 a0.N), slV (eI .u64) a0.Words]), .p (.s (.int .i64 a1))] [(6, rowV 51 (eI .u64) r.Words)] (.agg [.p (.s (.int .i64 r.N)), .own 6]) := by
  refine W_fnO [6] Tryd.func21 rfl (by kernel_rfl) (by kernel_rfl) (by kernel_rfl) (by kernel_rfl) ?_
  intro X hro hn
  unfold bits_With at h
  refine WX.seq ?_
  refine WC.reg (n := 27) (by assumption) [] [1, 2, 4] [2, 4] ⟨[(1, .p (.s (.int .i64 a1))), (2, .ptr 2 0), (4, .ptr 4 0)], [(2, .box 27 [.p (.s (.int .i64 a0.N)), .p (slV (eI .u64) a0.Words)]), (4, .box 27 [.p (.s (.int .i64 0)), .p (.sl .nil 0 [])])], ⟨[], false⟩, []⟩ trivial (by kernel_rfl) ?_
  refine WX.seq ?_
  obtain ⟨t2_2, h2_1, h⟩ := bind_some h
  refine WC.reg (n := 27) (by assumption) [(1, .co [] [] [] [(6, rowV 51 (eI .u64) t2_2.Words)] (.agg [.p (.s (.int .i64 t2_2.N)), .own 6]))] [1, 2, 4] [2, 4, 6] ⟨[(1, .p (.s (.int .i64 a1))), (2, .ptr 2 0), (4, .ptr 4 0)], [(2, .box 27 [.p (.s (.int .i64 t2_2.N)), .own 6]), (4, .box 27 [.p (.s (.int .i64 0)), .p (.sl .nil 0 [])]), (6, rowV 51 (eI .u64) t2_2.Words)], ⟨[], false⟩, []⟩ (And.intro (And.intro ((bits_own_ok h2_1).ren 9 6 (by kernel_rfl)) (trivial)) (trivial)) (by kernel_rfl) ?_
  refine WX.seq ?_
  refine WX.seq ?_
  refine WC.via (α := Bool) (fun v3 => ⟨[(1, .p (.s (.int .i64 a1))), (2, .ptr 2 0), (4, .ptr 4 0), (14, .p (.s (.bool v3)))], [(2, .box 27 [.p (.s (.int .i64 t2_2.N)), .own 6]), (4, .box 27 [.p (.s (.int .i64 0)), .p (.sl .nil 0 [])]), (6, rowV 51 (eI .u64) t2_2.Words)], ⟨[], false⟩, []⟩) ((((decide (a1 ≥ 0))) && ((decide (a1 < t2_2.N))))) (fun hk => ?_) ?_
  · rcases Bool.eq_false_or_eq_true ((decide (a1 ≥ 0))) with b3_2 | b3_2
    · exact WC.reg (n := 27) (by assumption) [(2, .val (.p (.s (.bool true))))] [1, 2, 4, 14] [2, 4, 6] ⟨[(1, .p (.s (.int .i64 a1))), (2, .ptr 2 0), (4, .ptr 4 0), (14, .p (.s (.bool ((decide (a1 < t2_2.N))))))], [(2, .box 27 [.p (.s (.int .i64 t2_2.N)), .own 6]), (4, .box 27 [.p (.s (.int .i64 0)), .p (.sl .nil 0 [])]), (6, rowV 51 (eI .u64) t2_2.Words)], ⟨[], false⟩, []⟩ (And.intro (Bl b3_2) (trivial)) (by kernel_rfl) (hk ((decide (a1 < t2_2.N))) (by first | (rw [b3_2]; rfl) | simp [b3_2]))
    · exact WC.reg (n := 27) (by assumption) [(2, .val (.p (.s (.bool false))))] [1, 2, 4, 14] [2, 4, 6] ⟨[(1, .p (.s (.int .i64 a1))), (2, .ptr 2 0), (4, .ptr 4 0), (14, .p (.s (.bool false)))], [(2, .box 27 [.p (.s (.int .i64 t2_2.N)), .own 6]), (4, .box 27 [.p (.s (.int .i64 0)), .p (.sl .nil 0 [])]), (6, rowV 51 (eI .u64) t2_2.Words)], ⟨[], false⟩, []⟩ (And.intro (Bl b3_2) (trivial)) (by kernel_rfl) (hk false (by first | (rw [b3_2]; rfl) | simp [b3_2]))
  rcases if_or h with ⟨c4, h⟩ | ⟨c4, h⟩
  · refine WC.condT c4 (by kernel_rfl) ?_
    obtain ⟨t5_2, h5_1, h⟩ := bind_some h
    obtain ⟨c5_3, h⟩ := if_some h
    refine WC.drw (n := 27) (by assumption) [(11, [])] [] [(4, .val (.ptr 6 (((IntKind.i64.wrap (a1.tdiv 64))).toNat * 1))), (5, .val (.p (.s (.int .u64 t5_2)))), (8, .val (.p (.s (.int .u64 (IntKind.u64.wrap (1 * 2 ^ (min ((a1.tmod 64)).toNat IntKind.u64.bits))))))), (10, .val (.ptr 6 (((IntKind.i64.wrap (a1.tdiv 64))).toNat * 1))), (11, .sto 6 (rowV 51 (eI .u64) (t2_2.Words.set ((IntKind.i64.wrap (a1.tdiv 64))).toNat ((bits .or .u64 t5_2 ((IntKind.u64.wrap (1 * 2 ^ (min ((a1.tmod 64)).toNat IntKind.u64.bits)))))))))] [2, 4] [2, 4, 6] ⟨[(2, .ptr 2 0), (4, .ptr 4 0)], [(2, .box 27 [.p (.s (.int .i64 t2_2.N)), .own 6]), (4, .box 27 [.p (.s (.int .i64 0)), .p (.sl .nil 0 [])]), (6, rowV 51 (eI .u64) (t2_2.Words.set ((IntKind.i64.wrap (a1.tdiv 64))).toNat ((bits .or .u64 t5_2 ((IntKind.u64.wrap (1 * 2 ^ (min ((a1.tmod 64)).toNat IntKind.u64.bits))))))))], ⟨[], false⟩, []⟩ (And.intro (IxO 6 1 h5_1) (And.intro (LdO0 Tryd.prog (eI .u64) 51 h5_1) (And.intro (Shl .u64 1 ((a1.tmod 64)) c5_3) (And.intro (IxO 6 1 h5_1) (And.intro (StO0 (eI .u64) 6 51 1 1 [.s (.int .u64 ((bits .or .u64 t5_2 ((IntKind.u64.wrap (1 * 2 ^ (min ((a1.tmod 64)).toNat IntKind.u64.bits)))))))] ((bits .or .u64 t5_2 ((IntKind.u64.wrap (1 * 2 ^ (min ((a1.tmod 64)).toNat IntKind.u64.bits)))))) h5_1 rfl rfl (by decide)) (trivial)))))) (by kernel_rfl) (by kernel_rfl) (by kernel_rfl) (by kernel_rfl) ?_
    refine WX.seq ?_
    refine WC.reg (n := 27) (by assumption) [] [4] [4, 6] ⟨[(4, .ptr 4 0)], [(4, .box 27 [.p (.s (.int .i64 t2_2.N)), .own 6]), (6, rowV 51 (eI .u64) (t2_2.Words.set ((IntKind.i64.wrap (a1.tdiv 64))).toNat ((bits .or .u64 t5_2 ((IntKind.u64.wrap (1 * 2 ^ (min ((a1.tmod 64)).toNat IntKind.u64.bits))))))))], ⟨[], false⟩, []⟩ trivial (by kernel_rfl) ?_
    refine WX.ret ?_
    exact WC.outO (by rw [← Option.some.inj h]; kernel_rfl)
  · refine WC.condF c4 (by kernel_rfl) ?_
    refine WX.skip ?_
    refine WX.seq ?_
    refine WC.reg (n := 27) (by assumption) [] [4] [4, 6] ⟨[(4, .ptr 4 0)], [(4, .box 27 [.p (.s (.int .i64 t2_2.N)), .own 6]), (6, rowV 51 (eI .u64) t2_2.Words)], ⟨[], false⟩, []⟩ trivial (by kernel_rfl) ?_
    refine WX.ret ?_
    exact WC.outO (by rw [← Option.some.inj h]; kernel_rfl)
theorem bits_With_okP {a0 : api_Bits} {a1 : Int} {r : api_Bits} (h : bits_With a0 a1 = some r) : Ans Tryd.prog 21 [.agg [.s (.int .i64 a0.N), slV (eI .u64) a0.Words], .s (.int .i64 a1)] (.agg [.s (.int .i64 r.N), slV (eI .u64) r.Words]) := AnsO.ans (args := [.agg [.s (.int .i64 a0.N), slV (eI .u64) a0.Words], .s (.int .i64 a1)]) (bits_With_ok h) (by kernel_rfl)
def riddleref01_Copy (k : Nat) (a0 : api_Bits) : Option (api_Bits) :=
  (riddleref01_may k a0).bind fun t2_2 => (if okApp 8 (([] : List Int).length + t2_2.Words.length) then some ((api_Bits.mk t2_2.N (([] : List Int) ++ t2_2.Words))) else none)
theorem riddleref01_Copy_ok {k : Nat} {a0 : api_Bits} {r : api_Bits} (h : riddleref01_Copy k a0 = some r) : AnsO Tryd.prog 51 [] [.p (.agg [.s (.int .i64 a0.N), slV (eI .u64) a0.Words])] [(11, rowV 51 (eI .u64) r.Words)] (.agg [.p (.s (.int .i64 r.N)), .own 11]) := by
  refine W_fnO [11] Tryd.func51 rfl (by kernel_rfl) (by kernel_rfl) (by kernel_rfl) (by kernel_rfl) ?_
  intro X hro hn
  unfold riddleref01_Copy at h
  refine WX.seq ?_
  refine WC.reg (n := 13) (by assumption) [] [1, 2] [1, 2] ⟨[(1, .ptr 1 0), (2, .ptr 2 0)], [(1, .box 27 [.p (.s (.int .i64 a0.N)), .p (slV (eI .u64) a0.Words)]), (2, .box 27 [.p (.s (.int .i64 0)), .p (.sl .nil 0 [])])], ⟨[], false⟩, []⟩ trivial (by kernel_rfl) ?_
  refine WX.seq ?_
  obtain ⟨t2_2, h2_1, h⟩ := bind_some h
  refine WC.reg (n := 13) (by assumption) [(1, .resP (.agg [.s (.int .i64 t2_2.N), slV (eI .u64) t2_2.Words]))] [1, 2] [1, 2] ⟨[(1, .ptr 1 0), (2, .ptr 2 0)], [(1, .box 27 [.p (.s (.int .i64 t2_2.N)), .p (slV (eI .u64) t2_2.Words)]), (2, .box 27 [.p (.s (.int .i64 0)), .p (.sl .nil 0 [])])], ⟨[], false⟩, []⟩ (And.intro ((riddleref01_may_ok h2_1)) (trivial)) (by kernel_rfl) ?_
  refine WX.seq ?_
  refine WC.reg (n := 13) (by assumption) [] [1, 2, 3] [1, 2] ⟨[(1, .ptr 1 0), (2, .ptr 2 0), (3, .p (.sl .nil 0 []))], [(1, .box 27 [.p (.s (.int .i64 t2_2.N)), .p (slV (eI .u64) t2_2.Words)]), (2, .box 27 [.p (.s (.int .i64 0)), .p (.sl .nil 0 [])])], ⟨[], false⟩, []⟩ trivial (by kernel_rfl) ?_
  refine WX.seq ?_
  obtain ⟨c4_1, h⟩ := if_some h
  refine WC.drw (n := 13) (by assumption) [(5, [0, 1]), (7, [])] [11] [(5, .app none (rowV 51 (eI .u64) (([] : List Int) ++ t2_2.Words)))] [2] [2, 11] ⟨[(2, .ptr 2 0)], [(2, .box 27 [.p (.s (.int .i64 t2_2.N)), .own 11]), (11, rowV 51 (eI .u64) (([] : List Int) ++ t2_2.Words))], ⟨[], false⟩, []⟩ (And.intro (ApS (eI .u64) none 51 8 ([] : List Int) t2_2.Words c4_1) (And.intro (And.intro (Eq.refl (some (.ptr 1 0 : AV))) (And.intro (Eq.refl (some (.p (.s (.int .i64 t2_2.N)) : AV))) (trivial))) (trivial))) (by kernel_rfl) (by kernel_rfl) (by kernel_rfl) (by kernel_rfl) ?_
  refine WX.ret ?_
  exact WC.outO (by rw [← Option.some.inj h]; kernel_rfl)
theorem riddleref01_Copy_okP {k : Nat} {a0 : api_Bits} {r : api_Bits} (h : riddleref01_Copy k a0 = some r) : Ans Tryd.prog 51 [.agg [.s (.int .i64 a0.N), slV (eI .u64) a0.Words]] (.agg [.s (.int .i64 r.N), slV (eI .u64) r.Words]) := AnsO.ans (args := [.agg [.s (.int .i64 a0.N), slV (eI .u64) a0.Words]]) (riddleref01_Copy_ok h) (by kernel_rfl)
def riddleref01_With (k : Nat) (a0 : api_Bits) (a1 : Int) : Option (api_Bits) :=
  (riddleref01_Copy k a0).bind fun t2_2 => (riddleref01_put t2_2 a1).bind fun t3_2 => some ((api_Bits.mk t2_2.N t3_2))
theorem riddleref01_With_ok {k : Nat} {a0 : api_Bits} {a1 : Int} {r : api_Bits} (h : riddleref01_With k a0 a1 = some r) : AnsO Tryd.prog 22 [] [.p (.agg [.s (.int .i64 a0.N), slV (eI .u64) a0.Words]), .p (.s (.int .i64 a1))] [(7, rowV 51 (eI .u64) r.Words)] (.agg [.p (.s (.int .i64 r.N)), .own 7]) := by
  refine W_fnO [7] Tryd.func22 rfl (by kernel_rfl) (by kernel_rfl) (by kernel_rfl) (by kernel_rfl) ?_
  intro X hro hn
  unfold riddleref01_With at h
  refine WX.seq ?_
  refine WC.reg (n := 12) (by assumption) [] [1, 2, 4] [2, 4] ⟨[(1, .p (.s (.int .i64 a1))), (2, .ptr 2 0), (4, .ptr 4 0)], [(2, .box 27 [.p (.s (.int .i64 a0.N)), .p (slV (eI .u64) a0.Words)]), (4, .box 27 [.p (.s (.int .i64 0)), .p (.sl .nil 0 [])])], ⟨[], false⟩, []⟩ trivial (by kernel_rfl) ?_
  refine WX.seq ?_
  obtain ⟨t2_2, h2_1, h⟩ := bind_some h
  refine WC.reg (n := 12) (by assumption) [(1, .co [] [] [] [(7, rowV 51 (eI .u64) t2_2.Words)] (.agg [.p (.s (.int .i64 t2_2.N)), .own 7]))] [1, 4, 5] [4, 5, 7] ⟨[(1, .p (.s (.int .i64 a1))), (4, .ptr 4 0), (5, .ptr 5 0)], [(4, .box 27 [.p (.s (.int .i64 0)), .p (.sl .nil 0 [])]), (5, .box 27 [.p (.s (.int .i64 t2_2.N)), .own 7]), (7, rowV 51 (eI .u64) t2_2.Words)], ⟨[], false⟩, []⟩ (And.intro (And.intro ((riddleref01_Copy_ok h2_1).ren 11 7 (by kernel_rfl)) (trivial)) (trivial)) (by kernel_rfl) ?_
  refine WX.seq ?_
  obtain ⟨t3_2, h3_1, h⟩ := bind_some h
  refine WC.reg (n := 12) (by assumption) [(2, .co [] [7] [] [(7, rowV 51 (eI .u64) t3_2)] (.tup []))] [4, 5] [4, 5, 7] ⟨[(4, .ptr 4 0), (5, .ptr 5 0)], [(4, .box 27 [.p (.s (.int .i64 0)), .p (.sl .nil 0 [])]), (5, .box 27 [.p (.s (.int .i64 t2_2.N)), .own 7]), (7, rowV 51 (eI .u64) t3_2)], ⟨[], false⟩, []⟩ (And.intro (And.intro ((riddleref01_put_ok h3_1).ren 1000 7 (by kernel_rfl)) (trivial)) (trivial)) (by kernel_rfl) ?_
  refine WX.seq ?_
  refine WC.reg (n := 12) (by assumption) [] [4] [4, 7] ⟨[(4, .ptr 4 0)], [(4, .box 27 [.p (.s (.int .i64 t2_2.N)), .own 7]), (7, rowV 51 (eI .u64) t3_2)], ⟨[], false⟩, []⟩ trivial (by kernel_rfl) ?_
  refine WX.ret ?_
  exact WC.outO (by rw [← Option.some.inj h]; kernel_rfl)
theorem riddleref01_With_okP {k : Nat} {a0 : api_Bits} {a1 : Int} {r : api_Bits} (h : riddleref01_With k a0 a1 = some r) : Ans Tryd.prog 22 [.agg [.s (.int .i64 a0.N), slV (eI .u64) a0.Words], .s (.int .i64 a1)] (.agg [.s (.int .i64 r.N), slV (eI .u64) r.Words]) := AnsO.ans (args := [.agg [.s (.int .i64 a0.N), slV (eI .u64) a0.Words], .s (.int .i64 a1)]) (riddleref01_With_ok h) (by kernel_rfl)
def bits_Without (a0 : api_Bits) (a1 : Int) : Option (api_Bits) :=
  (bits_own a0).bind fun t2_2 => (if (((decide (a1 ≥ 0))) && ((decide (a1 < t2_2.N)))) = true then (at_ t2_2.Words ((IntKind.i64.wrap (a1.tdiv 64)))).bind fun t5_2 => (if ¬ (a1.tmod 64) < 0 then some ((api_Bits.mk t2_2.N (t2_2.Words.set ((IntKind.i64.wrap (a1.tdiv 64))).toNat ((bits .andNot .u64 t5_2 ((IntKind.u64.wrap (1 * 2 ^ (min ((a1.tmod 64)).toNat IntKind.u64.bits))))))))) else none) else some t2_2)
theorem bits_Without_ok {a0 : api_Bits} {a1 : Int} {r : api_Bits} (h : bits_Without a0 a1 = some r) : AnsO Tryd.prog 23 [] [.p (.agg [.s (.int .i64 a0.N), slV (eI .u64) a0.Words]), .p (.s (.int .i64 a1))] [(6, rowV 51 (eI .u64) r.Words)] (.agg [.p (.s (.int .i64 r.N)), .own 6]) := by
  refine W_fnO [6] Tryd.func23 rfl (by kernel_rfl) (by kernel_rfl) (by kernel_rfl) (by kernel_rfl) ?_
  intro X hro hn
  unfold bits_Without at h
  refine WX.seq ?_
  refine WC.reg (n := 27) (by assumption) [] [1, 2, 4] [2, 4] ⟨[(1, .p (.s (.int .i64 a1))), (2, .ptr 2 0), (4, .ptr 4 0)], [(2, .box 27 [.p (.s (.int .i64 a0.N)), .p (slV (eI .u64) a0.Words)]), (4, .box 27 [.p (.s (.int .i64 0)), .p (.sl .nil 0 [])])], ⟨[], false⟩, []⟩ trivial (by kernel_rfl) ?_
  refine WX.seq ?_
  obtain ⟨t2_2, h2_1, h⟩ := bind_some h
  refine WC.reg (n := 27) (by assumption) [(1, .co [] [] [] [(6, rowV 51 (eI .u64) t2_2.Words)] (.agg [.p (.s (.int .i64 t2_2.N)), .own 6]))] [1, 2, 4] [2, 4, 6] ⟨[(1, .p (.s (.int .i64 a1))), (2, .ptr 2 0), (4, .ptr 4 0)], [(2, .box 27 [.p (.s (.int .i64 t2_2.N)), .own 6]), (4, .box 27 [.p (.s (.int .i64 0)), .p (.sl .nil 0 [])]), (6, rowV 51 (eI .u64) t2_2.Words)], ⟨[], false⟩, []⟩ (And.intro (And.intro ((bits_own_ok h2_1).ren 9 6 (by kernel_rfl)) (trivial)) (trivial)) (by kernel_rfl) ?_
  refine WX.seq ?_
  refine WX.seq ?_
  refine WC.via (α := Bool) (fun v3 => ⟨[(1, .p (.s (.int .i64 a1))), (2, .ptr 2 0), (4, .ptr 4 0), (14, .p (.s (.bool v3)))], [(2, .box 27 [.p (.s (.int .i64 t2_2.N)), .own 6]), (4, .box 27 [.p (.s (.int .i64 0)), .p (.sl .nil 0 [])]), (6, rowV 51 (eI .u64) t2_2.Words)], ⟨[], false⟩, []⟩) ((((decide (a1 ≥ 0))) && ((decide (a1 < t2_2.N))))) (fun hk => ?_) ?_
  · rcases Bool.eq_false_or_eq_true ((decide (a1 ≥ 0))) with b3_2 | b3_2
    · exact WC.reg (n := 27) (by assumption) [(2, .val (.p (.s (.bool true))))] [1, 2, 4, 14] [2, 4, 6] ⟨[(1, .p (.s (.int .i64 a1))), (2, .ptr 2 0), (4, .ptr 4 0), (14, .p (.s (.bool ((decide (a1 < t2_2.N))))))], [(2, .box 27 [.p (.s (.int .i64 t2_2.N)), .own 6]), (4, .box 27 [.p (.s (.int .i64 0)), .p (.sl .nil 0 [])]), (6, rowV 51 (eI .u64) t2_2.Words)], ⟨[], false⟩, []⟩ (And.intro (Bl b3_2) (trivial)) (by kernel_rfl) (hk ((decide (a1 < t2_2.N))) (by first | (rw [b3_2]; rfl) | simp [b3_2]))
    · exact WC.reg (n := 27) (by assumption) [(2, .val (.p (.s (.bool false))))] [1, 2, 4, 14] [2, 4, 6] ⟨[(1, .p (.s (.int .i64 a1))), (2, .ptr 2 0), (4, .ptr 4 0), (14, .p (.s (.bool false)))], [(2, .box 27 [.p (.s (.int .i64 t2_2.N)), .own 6]), (4, .box 27 [.p (.s (.int .i64 0)), .p (.sl .nil 0 [])]), (6, rowV 51 (eI .u64) t2_2.Words)], ⟨[], false⟩, []⟩ (And.intro (Bl b3_2) (trivial)) (by kernel_rfl) (hk false (by first | (rw [b3_2]; rfl) | simp [b3_2]))
  rcases if_or h with ⟨c4, h⟩ | ⟨c4, h⟩
  · refine WC.condT c4 (by kernel_rfl) ?_
    obtain ⟨t5_2, h5_1, h⟩ := bind_some h
    obtain ⟨c5_3, h⟩ := if_some h
    refine WC.drw (n := 27) (by assumption) [(11, [])] [] [(4, .val (.ptr 6 (((IntKind.i64.wrap (a1.tdiv 64))).toNat * 1))), (5, .val (.p (.s (.int .u64 t5_2)))), (8, .val (.p (.s (.int .u64 (IntKind.u64.wrap (1 * 2 ^ (min ((a1.tmod 64)).toNat IntKind.u64.bits))))))), (10, .val (.ptr 6 (((IntKind.i64.wrap (a1.tdiv 64))).toNat * 1))), (11, .sto 6 (rowV 51 (eI .u64) (t2_2.Words.set ((IntKind.i64.wrap (a1.tdiv 64))).toNat ((bits .andNot .u64 t5_2 ((IntKind.u64.wrap (1 * 2 ^ (min ((a1.tmod 64)).toNat IntKind.u64.bits)))))))))] [2, 4] [2, 4, 6] ⟨[(2, .ptr 2 0), (4, .ptr 4 0)], [(2, .box 27 [.p (.s (.int .i64 t2_2.N)), .own 6]), (4, .box 27 [.p (.s (.int .i64 0)), .p (.sl .nil 0 [])]), (6, rowV 51 (eI .u64) (t2_2.Words.set ((IntKind.i64.wrap (a1.tdiv 64))).toNat ((bits .andNot .u64 t5_2 ((IntKind.u64.wrap (1 * 2 ^ (min ((a1.tmod 64)).toNat IntKind.u64.bits))))))))], ⟨[], false⟩, []⟩ (And.intro (IxO 6 1 h5_1) (And.intro (LdO0 Tryd.prog (eI .u64) 51 h5_1) (And.intro (Shl .u64 1 ((a1.tmod 64)) c5_3) (And.intro (IxO 6 1 h5_1) (And.intro (StO0 (eI .u64) 6 51 1 1 [.s (.int .u64 ((bits .andNot .u64 t5_2 ((IntKind.u64.wrap (1 * 2 ^ (min ((a1.tmod 64)).toNat IntKind.u64.bits)))))))] ((bits .andNot .u64 t5_2 ((IntKind.u64.wrap (1 * 2 ^ (min ((a1.tmod 64)).toNat IntKind.u64.bits)))))) h5_1 rfl rfl (by decide)) (trivial)))))) (by kernel_rfl) (by kernel_rfl) (by kernel_rfl) (by kernel_rfl) ?_
    refine WX.seq ?_
    refine WC.reg (n := 27) (by assumption) [] [4] [4, 6] ⟨[(4, .ptr 4 0)], [(4, .box 27 [.p (.s (.int .i64 t2_2.N)), .own 6]), (6, rowV 51 (eI .u64) (t2_2.Words.set ((IntKind.i64.wrap (a1.tdiv 64))).toNat ((bits .andNot .u64 t5_2 ((IntKind.u64.wrap (1 * 2 ^ (min ((a1.tmod 64)).toNat IntKind.u64.bits))))))))], ⟨[], false⟩, []⟩ trivial (by kernel_rfl) ?_
    refine WX.ret ?_
    exact WC.outO (by rw [← Option.some.inj h]; kernel_rfl)
  · refine WC.condF c4 (by kernel_rfl) ?_
    refine WX.skip ?_
    refine WX.seq ?_
    refine WC.reg (n := 27) (by assumption) [] [4] [4, 6] ⟨[(4, .ptr 4 0)], [(4, .box 27 [.p (.s (.int .i64 t2_2.N)), .own 6]), (6, rowV 51 (eI .u64) t2_2.Words)], ⟨[], false⟩, []⟩ trivial (by kernel_rfl) ?_
    refine WX.ret ?_
    exact WC.outO (by rw [← Option.some.inj h]; kernel_rfl)
theorem bits_Without_okP {a0 : api_Bits} {a1 : Int} {r : api_Bits} (h : bits_Without a0 a1 = some r) : Ans Tryd.prog 23 [.agg [.s (.int .i64 a0.N), slV (eI .u64) a0.Words], .s (.int .i64 a1)] (.agg [.s (.int .i64 r.N), slV (eI .u64) r.Words]) := AnsO.ans (args := [.agg [.s (.int .i64 a0.N), slV (eI .u64) a0.Words], .s (.int .i64 a1)]) (bits_Without_ok h) (by kernel_rfl)
def riddleref01_pick_l0 (a0 : api_Bits) (a1 : api_Bits) (a2 : Bool) (t2_4 : api_Bits) (J4 : List Int → Option (api_Bits)) : Nat → (Int × List Int) → Option (api_Bits)
  | 0, _ => none
  | k + 1, (x21_1_1, x21_1_2) => (if (decide (x21_1_1 < t2_4.N)) = true then (riddleref01_Has k a0 x21_1_1).bind fun t38_2 => ((if t38_2 = true then (riddleref01_Has k a1 x21_1_1).bind fun t38_4 => some ((t38_4 == a2)) else some false) : Option (Bool)).bind fun v38 => (if v38 = true then (riddleref01_put ((api_Bits.mk t2_4.N x21_1_2)) x21_1_1).bind fun t40_2 => riddleref01_pick_l0 a0 a1 a2 t2_4 J4 k ((IntKind.i64.wrap (x21_1_1 + 1)), t40_2) else riddleref01_pick_l0 a0 a1 a2 t2_4 J4 k ((IntKind.i64.wrap (x21_1_1 + 1)), x21_1_2)) else J4 x21_1_2)
def riddleref01_pick (k : Nat) (a0 : api_Bits) (a1 : api_Bits) (a2 : Bool) : Option (api_Bits) :=
  (riddleref01_may k a0).bind fun t2_2 => (riddleref01_Zero t2_2.N).bind fun t2_4 => jn (fun (v4 : List Int) => some ((api_Bits.mk t2_4.N v4))) fun J4 => riddleref01_pick_l0 a0 a1 a2 t2_4 J4 k (0, t2_4.Words)
theorem riddleref01_pick_ok {k : Nat} {a0 : api_Bits} {a1 : api_Bits} {a2 : Bool} {r : api_Bits} (h : riddleref01_pick k a0 a1 a2 = some r) : AnsO Tryd.prog 52 [] [.p (.agg [.s (.int .i64 a0.N), slV (eI .u64) a0.Words]), .p (.agg [.s (.int .i64 a1.N), slV (eI .u64) a1.Words]), .p (.s (.bool a2))] [(12, rowV 51 (eI .u64) r.Words)] (.agg [.p (.s (.int .i64 r.N)), .own 12]) := by
  refine W_fnO [12] Tryd.func52 rfl (by kernel_rfl) (by kernel_rfl) (by kernel_rfl) (by kernel_rfl) ?_
  intro X hro hn
  unfold riddleref01_pick at h
  refine WX.seq ?_
  refine WC.reg (n := 33) (by assumption) [] [2, 3, 4, 6] [3, 4, 6] ⟨[(2, .p (.s (.bool a2))), (3, .ptr 3 0), (4, .ptr 4 0), (6, .ptr 6 0)], [(3, .box 27 [.p (.s (.int .i64 a0.N)), .p (slV (eI .u64) a0.Words)]), (4, .box 27 [.p (.s (.int .i64 a1.N)), .p (slV (eI .u64) a1.Words)]), (6, .box 27 [.p (.s (.int .i64 0)), .p (.sl .nil 0 [])])], ⟨[], false⟩, []⟩ trivial (by kernel_rfl) ?_
  refine WX.seq ?_
  obtain ⟨t2_2, h2_1, h⟩ := bind_some h
  obtain ⟨t2_4, h2_3, h⟩ := bind_some h
  refine WC.reg (n := 33) (by assumption) [(1, .resP (.agg [.s (.int .i64 t2_2.N), slV (eI .u64) t2_2.Words])), (3, .co [] [] [] [(12, rowV 51 (eI .u64) t2_4.Words)] (.agg [.p (.s (.int .i64 t2_4.N)), .own 12]))] [2, 3, 4, 6, 7] [3, 4, 6, 7, 12] ⟨[(2, .p (.s (.bool a2))), (3, .ptr 3 0), (4, .ptr 4 0), (6, .ptr 6 0), (7, .ptr 7 0)], [(3, .box 27 [.p (.s (.int .i64 a0.N)), .p (slV (eI .u64) a0.Words)]), (4, .box 27 [.p (.s (.int .i64 a1.N)), .p (slV (eI .u64) a1.Words)]), (6, .box 27 [.p (.s (.int .i64 0)), .p (.sl .nil 0 [])]), (7, .box 27 [.p (.s (.int .i64 t2_4.N)), .own 12]), (12, rowV 51 (eI .u64) t2_4.Words)], ⟨[], false⟩, []⟩ (And.intro ((riddleref01_may_ok h2_1)) (And.intro (And.intro ((riddleref01_Zero_ok h2_3).ren 7 12 (by kernel_rfl)) (trivial)) (trivial))) (by kernel_rfl) ?_
  refine WX.seq ?_
  refine WX.seq ?_
  refine WC.reg (n := 33) (by assumption) [] [2, 3, 4, 6, 7, 8] [3, 4, 6, 7, 12] ⟨[(2, .p (.s (.bool a2))), (3, .ptr 3 0), (4, .ptr 4 0), (6, .ptr 6 0), (7, .ptr 7 0), (8, .p (.s (.int .i64 0)))], [(3, .box 27 [.p (.s (.int .i64 a0.N)), .p (slV (eI .u64) a0.Words)]), (4, .box 27 [.p (.s (.int .i64 a1.N)), .p (slV (eI .u64) a1.Words)]), (6, .box 27 [.p (.s (.int .i64 0)), .p (.sl .nil 0 [])]), (7, .box 27 [.p (.s (.int .i64 t2_4.N)), .own 12]), (12, rowV 51 (eI .u64) t2_4.Words)], ⟨[], false⟩, []⟩ trivial (by kernel_rfl) ?_
  obtain ⟨J4, eJ4, h⟩ := jn_some h
  try dsimp only at h
  refine WC.join (α := List Int) (fun v4 => ⟨[(6, .ptr 6 0), (7, .ptr 7 0)], [(6, .box 27 [.p (.s (.int .i64 0)), .p (.sl .nil 0 [])]), (7, .box 27 [.p (.s (.int .i64 t2_4.N)), .own 12]), (12, rowV 51 (eI .u64) v4)], ⟨[], false⟩, []⟩) (fun v4 => J4 v4 = some r) ?_ (fun hJ4 => ?_)
  · rintro y4_1 h
    rw [eJ4] at h
    try dsimp only at h
    refine WX.seq ?_
    refine WC.reg (n := 33) (by assumption) [] [6] [6, 12] ⟨[(6, .ptr 6 0)], [(6, .box 27 [.p (.s (.int .i64 t2_4.N)), .own 12]), (12, rowV 51 (eI .u64) y4_1)], ⟨[], false⟩, []⟩ trivial (by kernel_rfl) ?_
    refine WX.ret ?_
    exact WC.outO (by rw [← Option.some.inj h]; kernel_rfl)
  · replace hJ4 := fun y4_1 => hJ4 y4_1
    refine WX.block ?_
    refine WC.loop (V := Int × List Int) (riddleref01_pick_l0 a0 a1 a2 t2_4 J4) r (fun v21 => ⟨[(2, .p (.s (.bool a2))), (3, .ptr 3 0), (4, .ptr 4 0), (6, .ptr 6 0), (7, .ptr 7 0), (8, .p (.s (.int .i64 v21.1)))], [(3, .box 27 [.p (.s (.int .i64 a0.N)), .p (slV (eI .u64) a0.Words)]), (4, .box 27 [.p (.s (.int .i64 a1.N)), .p (slV (eI .u64) a1.Words)]), (6, .box 27 [.p (.s (.int .i64 0)), .p (.sl .nil 0 [])]), (7, .box 27 [.p (.s (.int .i64 t2_4.N)), .own 12]), (12, rowV 51 (eI .u64) v21.2)], ⟨[], false⟩, []⟩) _ (0, t2_4.Words) h (fun _ => rfl) [2, 3, 4, 6, 7, 8] [3, 4, 6, 7, 12] (by kernel_rfl) ?_
    clear h; rintro k ⟨x21_1_1, x21_1_2⟩ h K21 hnext21 hexit21
    rw [riddleref01_pick_l0] at h
    refine WX.seq ?_
    refine WX.seq ?_
    refine WC.reg (n := 33) (by assumption) [] [2, 3, 4, 6, 7, 8, 16] [3, 4, 6, 7, 12] ⟨[(2, .p (.s (.bool a2))), (3, .ptr 3 0), (4, .ptr 4 0), (6, .ptr 6 0), (7, .ptr 7 0), (8, .p (.s (.int .i64 x21_1_1))), (16, .p (.s (.bool ((decide (x21_1_1 < t2_4.N))))))], [(3, .box 27 [.p (.s (.int .i64 a0.N)), .p (slV (eI .u64) a0.Words)]), (4, .box 27 [.p (.s (.int .i64 a1.N)), .p (slV (eI .u64) a1.Words)]), (6, .box 27 [.p (.s (.int .i64 0)), .p (.sl .nil 0 [])]), (7, .box 27 [.p (.s (.int .i64 t2_4.N)), .own 12]), (12, rowV 51 (eI .u64) x21_1_2)], ⟨[], false⟩, []⟩ trivial (by kernel_rfl) ?_
    rcases if_or h with ⟨c37, h⟩ | ⟨c37, h⟩
    · refine WC.condT c37 (by kernel_rfl) ?_
      refine WX.skip ?_
      refine WX.seq ?_
      refine WX.block ?_
      refine WX.seq ?_
      obtain ⟨t38_2, h38_1, h⟩ := bind_some h
      obtain ⟨m38_1, g38, h⟩ := bind_some h
      refine WC.via (α := Bool) (fun v38 => ⟨[(2, .p (.s (.bool a2))), (3, .ptr 3 0), (4, .ptr 4 0), (6, .ptr 6 0), (7, .ptr 7 0), (8, .p (.s (.int .i64 x21_1_1))), (28, .p (.s (.bool v38)))], [(3, .box 27 [.p (.s (.int .i64 a0.N)), .p (slV (eI .u64) a0.Words)]), (4, .box 27 [.p (.s (.int .i64 a1.N)), .p (slV (eI .u64) a1.Words)]), (6, .box 27 [.p (.s (.int .i64 0)), .p (.sl .nil 0 [])]), (7, .box 27 [.p (.s (.int .i64 t2_4.N)), .own 12]), (12, rowV 51 (eI .u64) x21_1_2)], ⟨[], false⟩, []⟩) m38_1 (fun hk => ?_) ?_
      · rcases if_or g38 with ⟨b38_3, g38⟩ | ⟨b38_3, g38⟩
        · obtain ⟨t38_4, h38_3, g38⟩ := bind_some g38
          exact WC.reg (n := 33) (by assumption) [(2, .resP (.s (.bool t38_2))), (3, .val (.p (.s (.bool true)))), (6, .resP (.s (.bool t38_4)))] [2, 3, 4, 6, 7, 8, 28] [3, 4, 6, 7, 12] ⟨[(2, .p (.s (.bool a2))), (3, .ptr 3 0), (4, .ptr 4 0), (6, .ptr 6 0), (7, .ptr 7 0), (8, .p (.s (.int .i64 x21_1_1))), (28, .p (.s (.bool ((t38_4 == a2)))))], [(3, .box 27 [.p (.s (.int .i64 a0.N)), .p (slV (eI .u64) a0.Words)]), (4, .box 27 [.p (.s (.int .i64 a1.N)), .p (slV (eI .u64) a1.Words)]), (6, .box 27 [.p (.s (.int .i64 0)), .p (.sl .nil 0 [])]), (7, .box 27 [.p (.s (.int .i64 t2_4.N)), .own 12]), (12, rowV 51 (eI .u64) x21_1_2)], ⟨[], false⟩, []⟩ (And.intro ((riddleref01_Has_ok h38_1)) (And.intro (Bl b38_3) (And.intro ((riddleref01_Has_ok h38_3)) (trivial)))) (by kernel_rfl) (hk ((t38_4 == a2)) (Option.some.inj g38))
        · exact WC.reg (n := 33) (by assumption) [(2, .resP (.s (.bool t38_2))), (3, .val (.p (.s (.bool false))))] [2, 3, 4, 6, 7, 8, 28] [3, 4, 6, 7, 12] ⟨[(2, .p (.s (.bool a2))), (3, .ptr 3 0), (4, .ptr 4 0), (6, .ptr 6 0), (7, .ptr 7 0), (8, .p (.s (.int .i64 x21_1_1))), (28, .p (.s (.bool false)))], [(3, .box 27 [.p (.s (.int .i64 a0.N)), .p (slV (eI .u64) a0.Words)]), (4, .box 27 [.p (.s (.int .i64 a1.N)), .p (slV (eI .u64) a1.Words)]), (6, .box 27 [.p (.s (.int .i64 0)), .p (.sl .nil 0 [])]), (7, .box 27 [.p (.s (.int .i64 t2_4.N)), .own 12]), (12, rowV 51 (eI .u64) x21_1_2)], ⟨[], false⟩, []⟩ (And.intro ((riddleref01_Has_ok h38_1)) (And.intro (Bl b38_3) (trivial))) (by kernel_rfl) (hk false (Option.some.inj g38))
      rcases if_or h with ⟨c39, h⟩ | ⟨c39, h⟩
      · refine WC.condT c39 (by kernel_rfl) ?_
        obtain ⟨t40_2, h40_1, h⟩ := bind_some h
        refine WC.reg (n := 33) (by assumption) [(2, .co [] [12] [] [(12, rowV 51 (eI .u64) t40_2)] (.tup []))] [2, 3, 4, 6, 7, 8] [3, 4, 6, 7, 12] ⟨[(2, .p (.s (.bool a2))), (3, .ptr 3 0), (4, .ptr 4 0), (6, .ptr 6 0), (7, .ptr 7 0), (8, .p (.s (.int .i64 x21_1_1)))], [(3, .box 27 [.p (.s (.int .i64 a0.N)), .p (slV (eI .u64) a0.Words)]), (4, .box 27 [.p (.s (.int .i64 a1.N)), .p (slV (eI .u64) a1.Words)]), (6, .box 27 [.p (.s (.int .i64 0)), .p (.sl .nil 0 [])]), (7, .box 27 [.p (.s (.int .i64 t2_4.N)), .own 12]), (12, rowV 51 (eI .u64) t40_2)], ⟨[], false⟩, []⟩ (And.intro (And.intro ((riddleref01_put_ok h40_1).ren 1000 12 (by kernel_rfl)) (trivial)) (trivial)) (by kernel_rfl) ?_
        refine WX.popBlk ?_
        refine WC.reg (n := 33) (by assumption) [] [2, 3, 4, 6, 7, 8] [3, 4, 6, 7, 12] ⟨[(2, .p (.s (.bool a2))), (3, .ptr 3 0), (4, .ptr 4 0), (6, .ptr 6 0), (7, .ptr 7 0), (8, .p (.s (.int .i64 ((IntKind.i64.wrap (x21_1_1 + 1))))))], [(3, .box 27 [.p (.s (.int .i64 a0.N)), .p (slV (eI .u64) a0.Words)]), (4, .box 27 [.p (.s (.int .i64 a1.N)), .p (slV (eI .u64) a1.Words)]), (6, .box 27 [.p (.s (.int .i64 0)), .p (.sl .nil 0 [])]), (7, .box 27 [.p (.s (.int .i64 t2_4.N)), .own 12]), (12, rowV 51 (eI .u64) t40_2)], ⟨[], false⟩, []⟩ trivial (by kernel_rfl) ?_
        exact WC.next [2, 3, 4, 6, 7, 8] [3, 4, 6, 7, 12] (by kernel_rfl) (hnext21 ((IntKind.i64.wrap (x21_1_1 + 1)), t40_2) h)
      · refine WC.condF c39 (by kernel_rfl) ?_
        refine WX.skip ?_
        refine WX.popBlk ?_
        refine WC.reg (n := 33) (by assumption) [] [2, 3, 4, 6, 7, 8] [3, 4, 6, 7, 12] ⟨[(2, .p (.s (.bool a2))), (3, .ptr 3 0), (4, .ptr 4 0), (6, .ptr 6 0), (7, .ptr 7 0), (8, .p (.s (.int .i64 ((IntKind.i64.wrap (x21_1_1 + 1))))))], [(3, .box 27 [.p (.s (.int .i64 a0.N)), .p (slV (eI .u64) a0.Words)]), (4, .box 27 [.p (.s (.int .i64 a1.N)), .p (slV (eI .u64) a1.Words)]), (6, .box 27 [.p (.s (.int .i64 0)), .p (.sl .nil 0 [])]), (7, .box 27 [.p (.s (.int .i64 t2_4.N)), .own 12]), (12, rowV 51 (eI .u64) x21_1_2)], ⟨[], false⟩, []⟩ trivial (by kernel_rfl) ?_
        exact WC.next [2, 3, 4, 6, 7, 8] [3, 4, 6, 7, 12] (by kernel_rfl) (hnext21 ((IntKind.i64.wrap (x21_1_1 + 1)), x21_1_2) h)
    · refine WC.condF c37 (by kernel_rfl) ?_
      refine WX.exit ?_
      refine WX.popCodeExit ?_
      refine WC.exit_nil (hexit21 _ _ (by simp) ?_)
      refine WX.popBlkHit ?_
      exact WC.keep [6, 7] [6, 7, 12] (by kernel_rfl) (hJ4 x21_1_2 h)
theorem riddleref01_pick_okP {k : Nat} {a0 : api_Bits} {a1 : api_Bits} {a2 : Bool} {r : api_Bits} (h : riddleref01_pick k a0 a1 a2 = some r) : Ans Tryd.prog 52 [.agg [.s (.int .i64 a0.N), slV (eI .u64) a0.Words], .agg [.s (.int .i64 a1.N), slV (eI .u64) a1.Words], .s (.bool a2)] (.agg [.s (.int .i64 r.N), slV (eI .u64) r.Words]) := AnsO.ans (args := [.agg [.s (.int .i64 a0.N), slV (eI .u64) a0.Words], .agg [.s (.int .i64 a1.N), slV (eI .u64) a1.Words], .s (.bool a2)]) (riddleref01_pick_ok h) (by kernel_rfl)
def riddleref01_Without (k : Nat) (a0 : api_Bits) (a1 : Int) : Option (api_Bits) :=
  (riddleref01_may k a0).bind fun t2_2 => (riddleref01_Zero t2_2.N).bind fun t2_4 => (riddleref01_With k t2_4 a1).bind fun t2_6 => (riddleref01_pick k a0 t2_6 false).bind fun t2_8 => some t2_8
theorem riddleref01_Without_ok {k : Nat} {a0 : api_Bits} {a1 : Int} {r : api_Bits} (h : riddleref01_Without k a0 a1 = some r) : Ans Tryd.prog 24 [.agg [.s (.int .i64 a0.N), slV (eI .u64) a0.Words], .s (.int .i64 a1)] (.agg [.s (.int .i64 r.N), slV (eI .u64) r.Words]) := by
  refine W_fn Tryd.func24 rfl (by kernel_rfl) (by kernel_rfl) ?_
  intro X hro hn
  unfold riddleref01_Without at h
  refine WX.seq ?_
  refine WC.reg (n := 13) (by assumption) [] [1, 2, 4] [2, 4] ⟨[(1, .p (.s (.int .i64 a1))), (2, .ptr 2 0), (4, .ptr 4 0)], [(2, .box 27 [.p (.s (.int .i64 a0.N)), .p (slV (eI .u64) a0.Words)]), (4, .box 27 [.p (.s (.int .i64 0)), .p (.sl .nil 0 [])])], ⟨[], false⟩, []⟩ trivial (by kernel_rfl) ?_
  refine WX.seq ?_
  obtain ⟨t2_2, h2_1, h⟩ := bind_some h
  obtain ⟨t2_4, h2_3, h⟩ := bind_some h
  obtain ⟨t2_6, h2_5, h⟩ := bind_some h
  obtain ⟨t2_8, h2_7, h⟩ := bind_some h
  refine WC.drw (n := 13) (by assumption) [(8, [])] [] [(2, .resP (.agg [.s (.int .i64 t2_2.N), slV (eI .u64) t2_2.Words])), (4, .resP (.agg [.s (.int .i64 t2_4.N), slV (eI .u64) t2_4.Words])), (6, .resP (.agg [.s (.int .i64 t2_6.N), slV (eI .u64) t2_6.Words])), (7, .resP (.agg [.s (.int .i64 t2_8.N), slV (eI .u64) t2_8.Words]))] [4] [4] ⟨[(4, .ptr 4 0)], [(4, .box 27 [.p (.s (.int .i64 t2_8.N)), .p (slV (eI .u64) t2_8.Words)])], ⟨[], false⟩, []⟩ (And.intro ((riddleref01_may_ok h2_1)) (And.intro ((riddleref01_Zero_okP h2_3)) (And.intro ((riddleref01_With_okP h2_5)) (And.intro ((riddleref01_pick_okP h2_7)) (trivial))))) (by kernel_rfl) (by kernel_rfl) (by kernel_rfl) (by kernel_rfl) ?_
  refine WX.ret ?_
  exact WC.outP (by rw [← Option.some.inj h]; kernel_rfl)
def riddlelaw01_BitsNew (k : Nat) (a0 : riddlelaw01_Some) : Option (Bool) :=
  (riddlelaw01_live k).bind fun t3_2 => (if (!t3_2) = true then some false else (bits_New k a0.N a0.L).bind fun t6_2 => (riddleref01_New k a0.N a0.L).bind fun t7_2 => (riddleref01_Exact k t6_2.1 t7_2.1).bind fun t8_2 => ((if t8_2 = true then (if (t6_2.2 == t7_2.2) = true then (bits_Check a0.B).bind fun t8_4 => (riddleref01_Check k a0.B).bind fun t8_6 => (if (t8_4 == t8_6) = true then (bits_Has a0.B a0.X).bind fun t8_8 => (riddleref01_Has k a0.B a0.X).bind fun t8_10 => (if (t8_8 == t8_10) = true then (bits_With a0.B a0.X).bind fun t8_12 => (riddleref01_With k a0.B a0.X).bind fun t8_14 => (riddleref01_Exact k t8_12 t8_14).bind fun t8_16 => (if t8_16 = true then (bits_Without a0.B a0.X).bind fun t8_18 => (riddleref01_Without k a0.B a0.X).bind fun t8_20 => (riddleref01_Exact k t8_18 t8_20).bind fun t8_22 => some t8_22 else some false) else some false) else some false) else some false) else some false) : Option (Bool)).bind fun v8 => some v8)
theorem riddlelaw01_BitsNew_ok {k : Nat} {a0 : riddlelaw01_Some} {r : Bool} (h : riddlelaw01_BitsNew k a0 = some r) : Ans Tryd.prog 4 [.agg [.s (.int .i64 a0.N), slV (eI .i64) a0.L, .s (.int .i64 a0.B.N), slV (eI .u64) a0.B.Words, .s (.int .i64 a0.X)]] (.s (.bool r)) := by
  refine W_fn Tryd.func4 rfl (by kernel_rfl) (by kernel_rfl) ?_
  intro X hro hn
  unfold riddlelaw01_BitsNew at h
  refine WX.seq ?_
  refine WC.reg (n := 75) (by assumption) [] [1] [1] ⟨[(1, .ptr 1 0)], [(1, .box 38 [.p (.s (.int .i64 a0.N)), .p (slV (eI .i64) a0.L), .p (.s (.int .i64 a0.B.N)), .p (slV (eI .u64) a0.B.Words), .p (.s (.int .i64 a0.X))])], ⟨[], false⟩, []⟩ trivial (by kernel_rfl) ?_
  refine WX.seq ?_
  refine WC.drw (n := 75) (by assumption) [(11, [6, 7])] [5] [] [3, 4, 5, 6] [5] ⟨[(3, .p (.s (.int .i64 a0.N))), (4, .p (slV (eI .i64) a0.L)), (5, .ptr 5 0), (6, .p (.s (.int .i64 a0.X)))], [(5, .box 27 [.p (.s (.int .i64 a0.B.N)), .p (slV (eI .u64) a0.B.Words)])], ⟨[], false⟩, []⟩ (And.intro (And.intro (Eq.refl (some (.ptr 1 4 : AV))) (And.intro (Eq.refl (some (.p (.s (.int .i64 a0.X)) : AV))) (trivial))) (trivial)) (by kernel_rfl) (by kernel_rfl) (by kernel_rfl) (by kernel_rfl) ?_
  refine WX.seq ?_
  refine WX.seq ?_
  obtain ⟨t3_2, h3_1, h⟩ := bind_some h
  refine WC.reg (n := 75) (by assumption) [(0, .resP (.s (.bool t3_2)))] [3, 4, 5, 6, 20] [5] ⟨[(3, .p (.s (.int .i64 a0.N))), (4, .p (slV (eI .i64) a0.L)), (5, .ptr 5 0), (6, .p (.s (.int .i64 a0.X))), (20, .p (.s (.bool ((!t3_2)))))], [(5, .box 27 [.p (.s (.int .i64 a0.B.N)), .p (slV (eI .u64) a0.B.Words)])], ⟨[], false⟩, []⟩ (And.intro ((riddlelaw01_live_ok h3_1)) (trivial)) (by kernel_rfl) ?_
  rcases if_or h with ⟨c4, h⟩ | ⟨c4, h⟩
  · refine WC.condT c4 (by kernel_rfl) ?_
    refine WX.seq ?_
    refine WC.reg (n := 75) (by assumption) [] [2] [] ⟨[(2, .p (.s (.bool false)))], [], ⟨[], false⟩, []⟩ trivial (by kernel_rfl) ?_
    refine WX.ret ?_
    exact WC.outP (by rw [← Option.some.inj h]; kernel_rfl)
  · refine WC.condF c4 (by kernel_rfl) ?_
    refine WX.skip ?_
    refine WX.seq ?_
    obtain ⟨t6_2, h6_1, h⟩ := bind_some h
    refine WC.reg (n := 75) (by assumption) [(2, .co [] [] [] [(24, rowV 51 (eI .u64) t6_2.1.Words)] (.tup [.agg [.p (.s (.int .i64 t6_2.1.N)), .own 24], .p (.s (.int .i64 t6_2.2))]))] [3, 4, 5, 6, 7, 8] [5, 7, 24] ⟨[(3, .p (.s (.int .i64 a0.N))), (4, .p (slV (eI .i64) a0.L)), (5, .ptr 5 0), (6, .p (.s (.int .i64 a0.X))), (7, .ptr 7 0), (8, .p (.s (.int .i64 t6_2.2)))], [(5, .box 27 [.p (.s (.int .i64 a0.B.N)), .p (slV (eI .u64) a0.B.Words)]), (7, .box 27 [.p (.s (.int .i64 t6_2.1.N)), .own 24]), (24, rowV 51 (eI .u64) t6_2.1.Words)], ⟨[], false⟩, []⟩ (And.intro (And.intro ((bits_New_ok h6_1).ren 17 24 (by kernel_rfl)) (trivial)) (trivial)) (by kernel_rfl) ?_
    refine WX.seq ?_
    obtain ⟨t7_2, h7_1, h⟩ := bind_some h
    refine WC.reg (n := 75) (by assumption) [(2, .co [] [] [] [(30, rowV 51 (eI .u64) t7_2.1.Words)] (.tup [.agg [.p (.s (.int .i64 t7_2.1.N)), .own 30], .p (.s (.int .i64 t7_2.2))]))] [5, 6, 7, 8, 9, 10] [5, 7, 9, 24, 30] ⟨[(5, .ptr 5 0), (6, .p (.s (.int .i64 a0.X))), (7, .ptr 7 0), (8, .p (.s (.int .i64 t6_2.2))), (9, .ptr 9 0), (10, .p (.s (.int .i64 t7_2.2)))], [(5, .box 27 [.p (.s (.int .i64 a0.B.N)), .p (slV (eI .u64) a0.B.Words)]), (7, .box 27 [.p (.s (.int .i64 t6_2.1.N)), .own 24]), (9, .box 27 [.p (.s (.int .i64 t7_2.1.N)), .own 30]), (24, rowV 51 (eI .u64) t6_2.1.Words), (30, rowV 51 (eI .u64) t7_2.1.Words)], ⟨[], false⟩, []⟩ (And.intro (And.intro ((riddleref01_New_ok h7_1).ren 16 30 (by kernel_rfl)) (trivial)) (trivial)) (by kernel_rfl) ?_
    refine WX.seq ?_
    obtain ⟨t8_2, h8_1, h⟩ := bind_some h
    obtain ⟨m8_1, g8, h⟩ := bind_some h
    refine WC.via (α := Bool) (fun v8 => ⟨[(2, .p (.s (.bool v8)))], [], ⟨[], false⟩, []⟩) m8_1 (fun hk => ?_) ?_
    · rcases if_or g8 with ⟨b8_3, g8⟩ | ⟨b8_3, g8⟩
      · rcases if_or g8 with ⟨b8_8, g8⟩ | ⟨b8_8, g8⟩
        · obtain ⟨t8_4, h8_3, g8⟩ := bind_some g8
          obtain ⟨t8_6, h8_5, g8⟩ := bind_some g8
          rcases if_or g8 with ⟨b8_15, g8⟩ | ⟨b8_15, g8⟩
          · obtain ⟨t8_8, h8_7, g8⟩ := bind_some g8
            obtain ⟨t8_10, h8_9, g8⟩ := bind_some g8
            rcases if_or g8 with ⟨b8_24, g8⟩ | ⟨b8_24, g8⟩
            · obtain ⟨t8_12, h8_11, g8⟩ := bind_some g8
              obtain ⟨t8_14, h8_13, g8⟩ := bind_some g8
              obtain ⟨t8_16, h8_15, g8⟩ := bind_some g8
              rcases if_or g8 with ⟨b8_33, g8⟩ | ⟨b8_33, g8⟩
              · obtain ⟨t8_18, h8_17, g8⟩ := bind_some g8
                obtain ⟨t8_20, h8_19, g8⟩ := bind_some g8
                obtain ⟨t8_22, h8_21, g8⟩ := bind_some g8
                exact WC.drw (n := 75) (by assumption) [] [] [(2, .res (.s (.bool t8_2))), (3, .val (.p (.s (.bool true)))), (8, .val (.p (.s (.bool true)))), (10, .resP (.s (.int .i64 t8_4))), (12, .resP (.s (.int .i64 t8_6))), (15, .val (.p (.s (.bool true)))), (18, .resP (.s (.bool t8_8))), (21, .resP (.s (.bool t8_10))), (24, .val (.p (.s (.bool true)))), (27, .resP (.agg [.s (.int .i64 t8_12.N), slV (eI .u64) t8_12.Words])), (30, .resP (.agg [.s (.int .i64 t8_14.N), slV (eI .u64) t8_14.Words])), (31, .resP (.s (.bool t8_16))), (33, .val (.p (.s (.bool true)))), (36, .resP (.agg [.s (.int .i64 t8_18.N), slV (eI .u64) t8_18.Words])), (39, .resP (.agg [.s (.int .i64 t8_20.N), slV (eI .u64) t8_20.Words])), (40, .resP (.s (.bool t8_22)))] [2] [] ⟨[(2, .p (.s (.bool t8_22)))], [], ⟨[], false⟩, []⟩ (And.intro (And.intro (riddleref01_Exact_ok h8_1) (rfl : (.s (.bool t8_2) : PV).flat = true)) (And.intro (Bl b8_3) (And.intro (Bl b8_8) (And.intro ((bits_Check_ok h8_3)) (And.intro ((riddleref01_Check_ok h8_5)) (And.intro (Bl b8_15) (And.intro ((bits_Has_ok h8_7)) (And.intro ((riddleref01_Has_ok h8_9)) (And.intro (Bl b8_24) (And.intro ((bits_With_okP h8_11)) (And.intro ((riddleref01_With_okP h8_13)) (And.intro ((riddleref01_Exact_ok h8_15)) (And.intro (Bl b8_33) (And.intro ((bits_Without_okP h8_17)) (And.intro ((riddleref01_Without_ok h8_19)) (And.intro ((riddleref01_Exact_ok h8_21)) (trivial))))))))))))))))) (by kernel_rfl) (by kernel_rfl) (by kernel_rfl) (by kernel_rfl) (hk t8_22 (Option.some.inj g8))
              · exact WC.drw (n := 75) (by assumption) [] [] [(2, .res (.s (.bool t8_2))), (3, .val (.p (.s (.bool true)))), (8, .val (.p (.s (.bool true)))), (10, .resP (.s (.int .i64 t8_4))), (12, .resP (.s (.int .i64 t8_6))), (15, .val (.p (.s (.bool true)))), (18, .resP (.s (.bool t8_8))), (21, .resP (.s (.bool t8_10))), (24, .val (.p (.s (.bool true)))), (27, .resP (.agg [.s (.int .i64 t8_12.N), slV (eI .u64) t8_12.Words])), (30, .resP (.agg [.s (.int .i64 t8_14.N), slV (eI .u64) t8_14.Words])), (31, .resP (.s (.bool t8_16))), (33, .val (.p (.s (.bool false))))] [2] [] ⟨[(2, .p (.s (.bool false)))], [], ⟨[], false⟩, []⟩ (And.intro (And.intro (riddleref01_Exact_ok h8_1) (rfl : (.s (.bool t8_2) : PV).flat = true)) (And.intro (Bl b8_3) (And.intro (Bl b8_8) (And.intro ((bits_Check_ok h8_3)) (And.intro ((riddleref01_Check_ok h8_5)) (And.intro (Bl b8_15) (And.intro ((bits_Has_ok h8_7)) (And.intro ((riddleref01_Has_ok h8_9)) (And.intro (Bl b8_24) (And.intro ((bits_With_okP h8_11)) (And.intro ((riddleref01_With_okP h8_13)) (And.intro ((riddleref01_Exact_ok h8_15)) (And.intro (Bl b8_33) (trivial)))))))))))))) (by kernel_rfl) (by kernel_rfl) (by kernel_rfl) (by kernel_rfl) (hk false (Option.some.inj g8))
            · exact WC.drw (n := 75) (by assumption) [] [] [(2, .res (.s (.bool t8_2))), (3, .val (.p (.s (.bool true)))), (8, .val (.p (.s (.bool true)))), (10, .resP (.s (.int .i64 t8_4))), (12, .resP (.s (.int .i64 t8_6))), (15, .val (.p (.s (.bool true)))), (18, .resP (.s (.bool t8_8))), (21, .resP (.s (.bool t8_10))), (24, .val (.p (.s (.bool false))))] [2] [] ⟨[(2, .p (.s (.bool false)))], [], ⟨[], false⟩, []⟩ (And.intro (And.intro (riddleref01_Exact_ok h8_1) (rfl : (.s (.bool t8_2) : PV).flat = true)) (And.intro (Bl b8_3) (And.intro (Bl b8_8) (And.intro ((bits_Check_ok h8_3)) (And.intro ((riddleref01_Check_ok h8_5)) (And.intro (Bl b8_15) (And.intro ((bits_Has_ok h8_7)) (And.intro ((riddleref01_Has_ok h8_9)) (And.intro (Bl b8_24) (trivial)))))))))) (by kernel_rfl) (by kernel_rfl) (by kernel_rfl) (by kernel_rfl) (hk false (Option.some.inj g8))
          · exact WC.drw (n := 75) (by assumption) [] [] [(2, .res (.s (.bool t8_2))), (3, .val (.p (.s (.bool true)))), (8, .val (.p (.s (.bool true)))), (10, .resP (.s (.int .i64 t8_4))), (12, .resP (.s (.int .i64 t8_6))), (15, .val (.p (.s (.bool false))))] [2] [] ⟨[(2, .p (.s (.bool false)))], [], ⟨[], false⟩, []⟩ (And.intro (And.intro (riddleref01_Exact_ok h8_1) (rfl : (.s (.bool t8_2) : PV).flat = true)) (And.intro (Bl b8_3) (And.intro (Bl b8_8) (And.intro ((bits_Check_ok h8_3)) (And.intro ((riddleref01_Check_ok h8_5)) (And.intro (Bl b8_15) (trivial))))))) (by kernel_rfl) (by kernel_rfl) (by kernel_rfl) (by kernel_rfl) (hk false (Option.some.inj g8))
        · exact WC.drw (n := 75) (by assumption) [] [] [(2, .res (.s (.bool t8_2))), (3, .val (.p (.s (.bool true)))), (8, .val (.p (.s (.bool false))))] [2] [] ⟨[(2, .p (.s (.bool false)))], [], ⟨[], false⟩, []⟩ (And.intro (And.intro (riddleref01_Exact_ok h8_1) (rfl : (.s (.bool t8_2) : PV).flat = true)) (And.intro (Bl b8_3) (And.intro (Bl b8_8) (trivial)))) (by kernel_rfl) (by kernel_rfl) (by kernel_rfl) (by kernel_rfl) (hk false (Option.some.inj g8))
      · exact WC.drw (n := 75) (by assumption) [] [] [(2, .res (.s (.bool t8_2))), (3, .val (.p (.s (.bool false))))] [2] [] ⟨[(2, .p (.s (.bool false)))], [], ⟨[], false⟩, []⟩ (And.intro (And.intro (riddleref01_Exact_ok h8_1) (rfl : (.s (.bool t8_2) : PV).flat = true)) (And.intro (Bl b8_3) (trivial))) (by kernel_rfl) (by kernel_rfl) (by kernel_rfl) (by kernel_rfl) (hk false (Option.some.inj g8))
    refine WX.ret ?_
    exact WC.outP (by rw [← Option.some.inj h]; kernel_rfl)
def riddleref01_List_l0 (a0 : api_Bits) (J4 : List Int → Option ((List Int))) : Nat → (List Int × Int) → Option ((List Int))
  | 0, _ => none
  | k + 1, (x21_1_1, x21_1_2) => (riddleref01_may k a0).bind fun t36_2 => (if (decide (x21_1_2 < t36_2.N)) = true then (riddleref01_Has k a0 x21_1_2).bind fun t38_2 => (if t38_2 = true then (if okApp 8 (x21_1_1.length + ([x21_1_2]).length) then riddleref01_List_l0 a0 J4 k (x21_1_1 ++ ([x21_1_2]), (IntKind.i64.wrap (x21_1_2 + 1))) else none) else riddleref01_List_l0 a0 J4 k (x21_1_1, (IntKind.i64.wrap (x21_1_2 + 1)))) else J4 x21_1_1)
def riddleref01_List (k : Nat) (a0 : api_Bits) : Option ((List Int)) :=
  jn (fun (v4 : List Int) => some v4) fun J4 => riddleref01_List_l0 a0 J4 k (([] : List Int), 0)
theorem riddleref01_List_ok {k : Nat} {a0 : api_Bits} {r : (List Int)} (h : riddleref01_List k a0 = some r) : AnsO Tryd.prog 25 [] [.p (.agg [.s (.int .i64 a0.N), slV (eI .u64) a0.Words])] [(18, rowV 3 (eI .i64) r)] (.own 18) := by
  refine W_fnO [18] Tryd.func25 rfl (by kernel_rfl) (by kernel_rfl) (by kernel_rfl) (by kernel_rfl) ?_
  intro X hro hn
  unfold riddleref01_List at h
  refine WX.seq ?_
  refine WC.reg (n := 20) (by assumption) [] [1] [1] ⟨[(1, .ptr 1 0)], [(1, .box 27 [.p (.s (.int .i64 a0.N)), .p (slV (eI .u64) a0.Words)])], ⟨[], false⟩, []⟩ trivial (by kernel_rfl) ?_
  refine WX.seq ?_
  refine WC.reg (n := 20) (by assumption) [] [1, 3] [1] ⟨[(1, .ptr 1 0), (3, .p (.sl .nil 0 []))], [(1, .box 27 [.p (.s (.int .i64 a0.N)), .p (slV (eI .u64) a0.Words)])], ⟨[], false⟩, []⟩ trivial (by kernel_rfl) ?_
  refine WX.seq ?_
  refine WX.seq ?_
  refine WC.reg (n := 20) (by assumption) [] [1, 3, 4] [1] ⟨[(1, .ptr 1 0), (3, .p (.sl .nil 0 [])), (4, .p (.s (.int .i64 0)))], [(1, .box 27 [.p (.s (.int .i64 a0.N)), .p (slV (eI .u64) a0.Words)])], ⟨[], false⟩, []⟩ trivial (by kernel_rfl) ?_
  obtain ⟨J4, eJ4, h⟩ := jn_some h
  try dsimp only at h
  refine WC.join (α := List Int) (fun v4 => ⟨[(3, .own 18)], [(18, rowV 3 (eI .i64) v4)], ⟨[], false⟩, []⟩) (fun v4 => J4 v4 = some r) ?_ (fun hJ4 => ?_)
  · rintro y4_1 h
    rw [eJ4] at h
    try dsimp only at h
    refine WX.seq ?_
    refine WC.reg (n := 20) (by assumption) [] [2] [18] ⟨[(2, .own 18)], [(18, rowV 3 (eI .i64) y4_1)], ⟨[], false⟩, []⟩ trivial (by kernel_rfl) ?_
    refine WX.ret ?_
    exact WC.outO (by rw [← Option.some.inj h]; kernel_rfl)
  · replace hJ4 := fun y4_1 => hJ4 y4_1
    refine WX.block ?_
    refine WC.nil (n := 20) (by assumption) [3] none 18 3 1 (by kernel_rfl) [1, 3, 4] [1, 18] (st' := ⟨[(1, .ptr 1 0), (3, .own 18), (4, .p (.s (.int .i64 0)))], [(1, .box 27 [.p (.s (.int .i64 a0.N)), .p (slV (eI .u64) a0.Words)]), (18, rowV 3 (eI .i64) (([] : List Int)))], ⟨[], false⟩, []⟩) (by kernel_rfl) ?_
    refine WC.loop (V := List Int × Int) (riddleref01_List_l0 a0 J4) r (fun v21 => ⟨[(1, .ptr 1 0), (3, .own 18), (4, .p (.s (.int .i64 v21.2)))], [(1, .box 27 [.p (.s (.int .i64 a0.N)), .p (slV (eI .u64) a0.Words)]), (18, rowV 3 (eI .i64) v21.1)], ⟨[], false⟩, []⟩) _ (([] : List Int), 0) h (fun _ => rfl) [1, 3, 4] [1, 18] (by kernel_rfl) ?_
    clear h; rintro k ⟨x21_1_1, x21_1_2⟩ h K21 hnext21 hexit21
    rw [riddleref01_List_l0] at h
    refine WX.seq ?_
    refine WX.seq ?_
    obtain ⟨t36_2, h36_1, h⟩ := bind_some h
    refine WC.reg (n := 20) (by assumption) [(2, .resP (.agg [.s (.int .i64 t36_2.N), slV (eI .u64) t36_2.Words]))] [1, 3, 4, 9] [1, 18] ⟨[(1, .ptr 1 0), (3, .own 18), (4, .p (.s (.int .i64 x21_1_2))), (9, .p (.s (.bool ((decide (x21_1_2 < t36_2.N))))))], [(1, .box 27 [.p (.s (.int .i64 a0.N)), .p (slV (eI .u64) a0.Words)]), (18, rowV 3 (eI .i64) x21_1_1)], ⟨[], false⟩, []⟩ (And.intro ((riddleref01_may_ok h36_1)) (trivial)) (by kernel_rfl) ?_
    rcases if_or h with ⟨c37, h⟩ | ⟨c37, h⟩
    · refine WC.condT c37 (by kernel_rfl) ?_
      refine WX.skip ?_
      refine WX.seq ?_
      refine WX.block ?_
      refine WX.seq ?_
      obtain ⟨t38_2, h38_1, h⟩ := bind_some h
      refine WC.reg (n := 20) (by assumption) [(2, .resP (.s (.bool t38_2)))] [1, 3, 4, 14] [1, 18] ⟨[(1, .ptr 1 0), (3, .own 18), (4, .p (.s (.int .i64 x21_1_2))), (14, .p (.s (.bool t38_2)))], [(1, .box 27 [.p (.s (.int .i64 a0.N)), .p (slV (eI .u64) a0.Words)]), (18, rowV 3 (eI .i64) x21_1_1)], ⟨[], false⟩, []⟩ (And.intro ((riddleref01_Has_ok h38_1)) (trivial)) (by kernel_rfl) ?_
      rcases if_or h with ⟨c39, h⟩ | ⟨c39, h⟩
      · refine WC.condT c39 (by kernel_rfl) ?_
        obtain ⟨c40_1, h⟩ := if_some h
        refine WC.reg (n := 20) (by assumption) [(3, .app (some 18) (rowV 3 (eI .i64) (x21_1_1 ++ ([x21_1_2]))))] [1, 3, 4] [1, 18] ⟨[(1, .ptr 1 0), (3, .own 18), (4, .p (.s (.int .i64 x21_1_2)))], [(1, .box 27 [.p (.s (.int .i64 a0.N)), .p (slV (eI .u64) a0.Words)]), (18, rowV 3 (eI .i64) (x21_1_1 ++ ([x21_1_2])))], ⟨[], false⟩, []⟩ (And.intro (Ap (eI .i64) (some 18) 3 8 1 x21_1_1 ([x21_1_2]) c40_1) (trivial)) (by kernel_rfl) ?_
        refine WX.popBlk ?_
        refine WC.reg (n := 20) (by assumption) [] [1, 3, 4] [1, 18] ⟨[(1, .ptr 1 0), (3, .own 18), (4, .p (.s (.int .i64 ((IntKind.i64.wrap (x21_1_2 + 1))))))], [(1, .box 27 [.p (.s (.int .i64 a0.N)), .p (slV (eI .u64) a0.Words)]), (18, rowV 3 (eI .i64) (x21_1_1 ++ ([x21_1_2])))], ⟨[], false⟩, []⟩ trivial (by kernel_rfl) ?_
        exact WC.next [1, 3, 4] [1, 18] (by kernel_rfl) (hnext21 (x21_1_1 ++ ([x21_1_2]), (IntKind.i64.wrap (x21_1_2 + 1))) h)
      · refine WC.condF c39 (by kernel_rfl) ?_
        refine WX.skip ?_
        refine WX.popBlk ?_
        refine WC.reg (n := 20) (by assumption) [] [1, 3, 4] [1, 18] ⟨[(1, .ptr 1 0), (3, .own 18), (4, .p (.s (.int .i64 ((IntKind.i64.wrap (x21_1_2 + 1))))))], [(1, .box 27 [.p (.s (.int .i64 a0.N)), .p (slV (eI .u64) a0.Words)]), (18, rowV 3 (eI .i64) x21_1_1)], ⟨[], false⟩, []⟩ trivial (by kernel_rfl) ?_
        exact WC.next [1, 3, 4] [1, 18] (by kernel_rfl) (hnext21 (x21_1_1, (IntKind.i64.wrap (x21_1_2 + 1))) h)
    · refine WC.condF c37 (by kernel_rfl) ?_
      refine WX.exit ?_
      refine WX.popCodeExit ?_
      refine WC.exit_nil (hexit21 _ _ (by simp) ?_)
      refine WX.popBlkHit ?_
      exact WC.keep [3] [18] (by kernel_rfl) (hJ4 x21_1_1 h)
theorem riddleref01_List_okP {k : Nat} {a0 : api_Bits} {r : (List Int)} (h : riddleref01_List k a0 = some r) : Ans Tryd.prog 25 [.agg [.s (.int .i64 a0.N), slV (eI .u64) a0.Words]] (slV (eI .i64) r) := AnsO.ans (args := [.agg [.s (.int .i64 a0.N), slV (eI .u64) a0.Words]]) (riddleref01_List_ok h) (by kernel_rfl)
def riddleref01_And (k : Nat) (a0 : api_Bits) (a1 : api_Bits) : Option (api_Bits) :=
  (riddleref01_pick k a0 a1 true).bind fun t2_2 => some t2_2
theorem riddleref01_And_ok {k : Nat} {a0 : api_Bits} {a1 : api_Bits} {r : api_Bits} (h : riddleref01_And k a0 a1 = some r) : AnsO Tryd.prog 26 [] [.p (.agg [.s (.int .i64 a0.N), slV (eI .u64) a0.Words]), .p (.agg [.s (.int .i64 a1.N), slV (eI .u64) a1.Words])] [(7, rowV 51 (eI .u64) r.Words)] (.agg [.p (.s (.int .i64 r.N)), .own 7]) := by
  refine W_fnO [7] Tryd.func26 rfl (by kernel_rfl) (by kernel_rfl) (by kernel_rfl) (by kernel_rfl) ?_
  intro X hro hn
  unfold riddleref01_And at h
  refine WX.seq ?_
  refine WC.reg (n := 8) (by assumption) [] [2, 3, 4] [2, 3, 4] ⟨[(2, .ptr 2 0), (3, .ptr 3 0), (4, .ptr 4 0)], [(2, .box 27 [.p (.s (.int .i64 a0.N)), .p (slV (eI .u64) a0.Words)]), (3, .box 27 [.p (.s (.int .i64 a1.N)), .p (slV (eI .u64) a1.Words)]), (4, .box 27 [.p (.s (.int .i64 0)), .p (.sl .nil 0 [])])], ⟨[], false⟩, []⟩ trivial (by kernel_rfl) ?_
  refine WX.seq ?_
  obtain ⟨t2_2, h2_1, h⟩ := bind_some h
  refine WC.reg (n := 8) (by assumption) [(2, .co [] [] [] [(7, rowV 51 (eI .u64) t2_2.Words)] (.agg [.p (.s (.int .i64 t2_2.N)), .own 7]))] [4] [4, 7] ⟨[(4, .ptr 4 0)], [(4, .box 27 [.p (.s (.int .i64 t2_2.N)), .own 7]), (7, rowV 51 (eI .u64) t2_2.Words)], ⟨[], false⟩, []⟩ (And.intro (And.intro ((riddleref01_pick_ok h2_1).ren 12 7 (by kernel_rfl)) (trivial)) (trivial)) (by kernel_rfl) ?_
  refine WX.ret ?_
  exact WC.outO (by rw [← Option.some.inj h]; kernel_rfl)
theorem riddleref01_And_okP {k : Nat} {a0 : api_Bits} {a1 : api_Bits} {r : api_Bits} (h : riddleref01_And k a0 a1 = some r) : Ans Tryd.prog 26 [.agg [.s (.int .i64 a0.N), slV (eI .u64) a0.Words], .agg [.s (.int .i64 a1.N), slV (eI .u64) a1.Words]] (.agg [.s (.int .i64 r.N), slV (eI .u64) r.Words]) := AnsO.ans (args := [.agg [.s (.int .i64 a0.N), slV (eI .u64) a0.Words], .agg [.s (.int .i64 a1.N), slV (eI .u64) a1.Words]]) (riddleref01_And_ok h) (by kernel_rfl)
def bits_fit (a0 : api_Bits) (a1 : Int) : Option (api_Bits) :=
  (bits_empty a1).bind fun t2_2 => (if (decide ((a1.tmod 64) > 0)) = true then (at_ (cpy t2_2.Words a0.Words) ((IntKind.i64.wrap (((cpy t2_2.Words a0.Words).length : Int) - 1)))).bind fun t7_2 => (if ¬ (a1.tmod 64) < 0 then some ((api_Bits.mk t2_2.N ((cpy t2_2.Words a0.Words).set ((IntKind.i64.wrap (((cpy t2_2.Words a0.Words).length : Int) - 1))).toNat ((bits .and .u64 t7_2 ((IntKind.u64.wrap ((IntKind.u64.wrap (1 * 2 ^ (min ((a1.tmod 64)).toNat IntKind.u64.bits))) - 1)))))))) else none) else some ((api_Bits.mk t2_2.N (cpy t2_2.Words a0.Words))))
theorem bits_fit_ok {a0 : api_Bits} {a1 : Int} {r : api_Bits} (h : bits_fit a0 a1 = some r) : AnsO Tryd.prog 61 [] [.p (.agg [.s (.int .i64 a0.N), slV (eI .u64) a0.Words]), .p (.s (.int .i64 a1))] [(8, rowV 51 (eI .u64) r.Words)] (.agg [.p (.s (.int .i64 r.N)), .own 8]) := by
  refine W_fnO [8] Tryd.func61 rfl (by kernel_rfl) (by kernel_rfl) (by kernel_rfl) (by kernel_rfl) ?_
  intro X hro hn
  unfold bits_fit at h
  refine WX.seq ?_
  refine WC.reg (n := 32) (by assumption) [] [1, 2, 4] [2, 4] ⟨[(1, .p (.s (.int .i64 a1))), (2, .ptr 2 0), (4, .ptr 4 0)], [(2, .box 27 [.p (.s (.int .i64 a0.N)), .p (slV (eI .u64) a0.Words)]), (4, .box 27 [.p (.s (.int .i64 0)), .p (.sl .nil 0 [])])], ⟨[], false⟩, []⟩ trivial (by kernel_rfl) ?_
  refine WX.seq ?_
  obtain ⟨t2_2, h2_1, h⟩ := bind_some h
  refine WC.reg (n := 32) (by assumption) [(1, .co [] [] [] [(8, rowV 51 (eI .u64) t2_2.Words)] (.agg [.p (.s (.int .i64 t2_2.N)), .own 8]))] [1, 2, 4, 5] [2, 4, 5, 8] ⟨[(1, .p (.s (.int .i64 a1))), (2, .ptr 2 0), (4, .ptr 4 0), (5, .ptr 5 0)], [(2, .box 27 [.p (.s (.int .i64 a0.N)), .p (slV (eI .u64) a0.Words)]), (4, .box 27 [.p (.s (.int .i64 0)), .p (.sl .nil 0 [])]), (5, .box 27 [.p (.s (.int .i64 t2_2.N)), .own 8]), (8, rowV 51 (eI .u64) t2_2.Words)], ⟨[], false⟩, []⟩ (And.intro (And.intro ((bits_empty_ok h2_1).ren 6 8 (by kernel_rfl)) (trivial)) (trivial)) (by kernel_rfl) ?_
  refine WX.seq ?_
  refine WC.reg (n := 32) (by assumption) [(4, .cpy 8 (rowV 51 (eI .u64) (cpy t2_2.Words a0.Words)) (min a0.Words.length t2_2.Words.length))] [1, 4, 5] [4, 5, 8] ⟨[(1, .p (.s (.int .i64 a1))), (4, .ptr 4 0), (5, .ptr 5 0)], [(4, .box 27 [.p (.s (.int .i64 0)), .p (.sl .nil 0 [])]), (5, .box 27 [.p (.s (.int .i64 t2_2.N)), .own 8]), (8, rowV 51 (eI .u64) (cpy t2_2.Words a0.Words))], ⟨[], false⟩, []⟩ (And.intro (Cp (eI .u64) 8 51 t2_2.Words a0.Words) (trivial)) (by kernel_rfl) ?_
  refine WX.seq ?_
  refine WX.seq ?_
  refine WC.reg (n := 32) (by assumption) [] [4, 5, 6] [4, 5, 8] ⟨[(4, .ptr 4 0), (5, .ptr 5 0), (6, .p (.s (.int .i64 ((a1.tmod 64)))))], [(4, .box 27 [.p (.s (.int .i64 0)), .p (.sl .nil 0 [])]), (5, .box 27 [.p (.s (.int .i64 t2_2.N)), .own 8]), (8, rowV 51 (eI .u64) (cpy t2_2.Words a0.Words))], ⟨[], false⟩, []⟩ trivial (by kernel_rfl) ?_
  refine WX.seq ?_
  refine WC.reg (n := 32) (by assumption) [] [4, 5, 6, 17] [4, 5, 8] ⟨[(4, .ptr 4 0), (5, .ptr 5 0), (6, .p (.s (.int .i64 ((a1.tmod 64))))), (17, .p (.s (.bool ((decide ((a1.tmod 64) > 0))))))], [(4, .box 27 [.p (.s (.int .i64 0)), .p (.sl .nil 0 [])]), (5, .box 27 [.p (.s (.int .i64 t2_2.N)), .own 8]), (8, rowV 51 (eI .u64) (cpy t2_2.Words a0.Words))], ⟨[], false⟩, []⟩ trivial (by kernel_rfl) ?_
  rcases if_or h with ⟨c6, h⟩ | ⟨c6, h⟩
  · refine WC.condT c6 (by kernel_rfl) ?_
    obtain ⟨t7_2, h7_1, h⟩ := bind_some h
    obtain ⟨c7_3, h⟩ := if_some h
    refine WC.drw (n := 32) (by assumption) [(13, [])] [] [(6, .val (.ptr 8 (((IntKind.i64.wrap (((cpy t2_2.Words a0.Words).length : Int) - 1))).toNat * 1))), (7, .val (.p (.s (.int .u64 t7_2)))), (9, .val (.p (.s (.int .u64 (IntKind.u64.wrap (1 * 2 ^ (min ((a1.tmod 64)).toNat IntKind.u64.bits))))))), (12, .val (.ptr 8 (((IntKind.i64.wrap (((cpy t2_2.Words a0.Words).length : Int) - 1))).toNat * 1))), (13, .sto 8 (rowV 51 (eI .u64) ((cpy t2_2.Words a0.Words).set ((IntKind.i64.wrap (((cpy t2_2.Words a0.Words).length : Int) - 1))).toNat ((bits .and .u64 t7_2 ((IntKind.u64.wrap ((IntKind.u64.wrap (1 * 2 ^ (min ((a1.tmod 64)).toNat IntKind.u64.bits))) - 1))))))))] [4, 5] [4, 5, 8] ⟨[(4, .ptr 4 0), (5, .ptr 5 0)], [(4, .box 27 [.p (.s (.int .i64 0)), .p (.sl .nil 0 [])]), (5, .box 27 [.p (.s (.int .i64 t2_2.N)), .own 8]), (8, rowV 51 (eI .u64) ((cpy t2_2.Words a0.Words).set ((IntKind.i64.wrap (((cpy t2_2.Words a0.Words).length : Int) - 1))).toNat ((bits .and .u64 t7_2 ((IntKind.u64.wrap ((IntKind.u64.wrap (1 * 2 ^ (min ((a1.tmod 64)).toNat IntKind.u64.bits))) - 1)))))))], ⟨[], false⟩, []⟩ (And.intro (IxO 8 1 h7_1) (And.intro (LdO0 Tryd.prog (eI .u64) 51 h7_1) (And.intro (Shl .u64 1 ((a1.tmod 64)) c7_3) (And.intro (IxO 8 1 h7_1) (And.intro (StO0 (eI .u64) 8 51 1 1 [.s (.int .u64 ((bits .and .u64 t7_2 ((IntKind.u64.wrap ((IntKind.u64.wrap (1 * 2 ^ (min ((a1.tmod 64)).toNat IntKind.u64.bits))) - 1))))))] ((bits .and .u64 t7_2 ((IntKind.u64.wrap ((IntKind.u64.wrap (1 * 2 ^ (min ((a1.tmod 64)).toNat IntKind.u64.bits))) - 1))))) h7_1 rfl rfl (by decide)) (trivial)))))) (by kernel_rfl) (by kernel_rfl) (by kernel_rfl) (by kernel_rfl) ?_
    refine WX.seq ?_
    refine WC.reg (n := 32) (by assumption) [] [4] [4, 8] ⟨[(4, .ptr 4 0)], [(4, .box 27 [.p (.s (.int .i64 t2_2.N)), .own 8]), (8, rowV 51 (eI .u64) ((cpy t2_2.Words a0.Words).set ((IntKind.i64.wrap (((cpy t2_2.Words a0.Words).length : Int) - 1))).toNat ((bits .and .u64 t7_2 ((IntKind.u64.wrap ((IntKind.u64.wrap (1 * 2 ^ (min ((a1.tmod 64)).toNat IntKind.u64.bits))) - 1)))))))], ⟨[], false⟩, []⟩ trivial (by kernel_rfl) ?_
    refine WX.ret ?_
    exact WC.outO (by rw [← Option.some.inj h]; kernel_rfl)
  · refine WC.condF c6 (by kernel_rfl) ?_
    refine WX.skip ?_
    refine WX.seq ?_
    refine WC.reg (n := 32) (by assumption) [] [4] [4, 8] ⟨[(4, .ptr 4 0)], [(4, .box 27 [.p (.s (.int .i64 t2_2.N)), .own 8]), (8, rowV 51 (eI .u64) (cpy t2_2.Words a0.Words))], ⟨[], false⟩, []⟩ trivial (by kernel_rfl) ?_
    refine WX.ret ?_
    exact WC.outO (by rw [← Option.some.inj h]; kernel_rfl)
theorem bits_fit_okP {a0 : api_Bits} {a1 : Int} {r : api_Bits} (h : bits_fit a0 a1 = some r) : Ans Tryd.prog 61 [.agg [.s (.int .i64 a0.N), slV (eI .u64) a0.Words], .s (.int .i64 a1)] (.agg [.s (.int .i64 r.N), slV (eI .u64) r.Words]) := AnsO.ans (args := [.agg [.s (.int .i64 a0.N), slV (eI .u64) a0.Words], .s (.int .i64 a1)]) (bits_fit_ok h) (by kernel_rfl)
def bits_Or_1 (a0 : Int) (a1 : Int) : Option (Int) :=
  some ((bits .or .u64 a0 a1))
theorem bits_Or_1_ok {a0 : Int} {a1 : Int} {r : Int} (h : bits_Or_1 a0 a1 = some r) : Ans Tryd.prog 54 [.s (.int .u64 a0), .s (.int .u64 a1)] (.s (.int .u64 r)) := by
  refine W_fn Tryd.func54 rfl (by kernel_rfl) (by kernel_rfl) ?_
  intro X hro hn
  unfold bits_Or_1 at h
  refine WX.seq ?_
  refine WC.reg (n := 8) (by assumption) [] [0, 1] [] ⟨[(0, .p (.s (.int .u64 a0))), (1, .p (.s (.int .u64 a1)))], [], ⟨[], false⟩, []⟩ trivial (by kernel_rfl) ?_
  refine WX.seq ?_
  refine WC.reg (n := 8) (by assumption) [] [4] [] ⟨[(4, .p (.s (.int .u64 ((bits .or .u64 a0 a1)))))], [], ⟨[], false⟩, []⟩ trivial (by kernel_rfl) ?_
  refine WX.ret ?_
  exact WC.outP (by rw [← Option.some.inj h]; kernel_rfl)
def bits_join_v1_l0 (t2_2 : api_Bits) (t3_4 : api_Bits) (J5 : List Int → Option (api_Bits)) : Nat → (Int × List Int) → Option (api_Bits)
  | 0, _ => none
  | k + 1, (x18_1_1, x18_1_2) => (if (decide (x18_1_1 < (t2_2.Words.length : Int))) = true then (at_ x18_1_2 x18_1_1).bind fun t32_2 => (at_ t3_4.Words x18_1_1).bind fun t32_4 => (bits_Or_1 t32_2 t32_4).bind fun t32_6 => bits_join_v1_l0 t2_2 t3_4 J5 k ((IntKind.i64.wrap (x18_1_1 + 1)), x18_1_2.set x18_1_1.toNat t32_6) else J5 x18_1_2)
def bits_join_v1 (k : Nat) (a0 : api_Bits) (a1 : api_Bits) (a2 : (Unit)) : Option (api_Bits) :=
  (bits_own a0).bind fun t2_2 => (bits_own a1).bind fun t3_2 => (bits_fit t3_2 t2_2.N).bind fun t3_4 => jn (fun (v5 : List Int) => some ((api_Bits.mk t2_2.N v5))) fun J5 => bits_join_v1_l0 t2_2 t3_4 J5 k (0, t2_2.Words)
theorem bits_join_v1_ok {k : Nat} {a0 : api_Bits} {a1 : api_Bits} {a2 : (Unit)} {r : api_Bits} (h : bits_join_v1 k a0 a1 a2 = some r) : AnsO Tryd.prog 53 [] [.p (.agg [.s (.int .i64 a0.N), slV (eI .u64) a0.Words]), .p (.agg [.s (.int .i64 a1.N), slV (eI .u64) a1.Words]), .p (.fn 54 [])] [(10, rowV 51 (eI .u64) r.Words)] (.agg [.p (.s (.int .i64 r.N)), .own 10]) := by
  refine W_fnO [10] Tryd.func53 rfl (by kernel_rfl) (by kernel_rfl) (by kernel_rfl) (by kernel_rfl) ?_
  intro X hro hn
  unfold bits_join_v1 at h
  refine WX.seq ?_
  refine WC.reg (n := 40) (by assumption) [] [2, 3, 4, 6] [3, 4, 6] ⟨[(2, .p (.fn 54 [])), (3, .ptr 3 0), (4, .ptr 4 0), (6, .ptr 6 0)], [(3, .box 27 [.p (.s (.int .i64 a0.N)), .p (slV (eI .u64) a0.Words)]), (4, .box 27 [.p (.s (.int .i64 a1.N)), .p (slV (eI .u64) a1.Words)]), (6, .box 27 [.p (.s (.int .i64 0)), .p (.sl .nil 0 [])])], ⟨[], false⟩, []⟩ trivial (by kernel_rfl) ?_
  refine WX.seq ?_
  obtain ⟨t2_2, h2_1, h⟩ := bind_some h
  refine WC.reg (n := 40) (by assumption) [(1, .co [] [] [] [(10, rowV 51 (eI .u64) t2_2.Words)] (.agg [.p (.s (.int .i64 t2_2.N)), .own 10]))] [2, 3, 4, 6] [3, 4, 6, 10] ⟨[(2, .p (.fn 54 [])), (3, .ptr 3 0), (4, .ptr 4 0), (6, .ptr 6 0)], [(3, .box 27 [.p (.s (.int .i64 t2_2.N)), .own 10]), (4, .box 27 [.p (.s (.int .i64 a1.N)), .p (slV (eI .u64) a1.Words)]), (6, .box 27 [.p (.s (.int .i64 0)), .p (.sl .nil 0 [])]), (10, rowV 51 (eI .u64) t2_2.Words)], ⟨[], false⟩, []⟩ (And.intro (And.intro ((bits_own_ok h2_1).ren 9 10 (by kernel_rfl)) (trivial)) (trivial)) (by kernel_rfl) ?_
  refine WX.seq ?_
  obtain ⟨t3_2, h3_1, h⟩ := bind_some h
  obtain ⟨t3_4, h3_3, h⟩ := bind_some h
  refine WC.drw (n := 40) (by assumption) [(6, [])] [7] [(1, .resP (.agg [.s (.int .i64 t3_2.N), slV (eI .u64) t3_2.Words])), (4, .resP (.agg [.s (.int .i64 t3_4.N), slV (eI .u64) t3_4.Words]))] [2, 3, 6, 7] [3, 6, 7, 10] ⟨[(2, .p (.fn 54 [])), (3, .ptr 3 0), (6, .ptr 6 0), (7, .ptr 7 0)], [(3, .box 27 [.p (.s (.int .i64 t2_2.N)), .own 10]), (6, .box 27 [.p (.s (.int .i64 0)), .p (.sl .nil 0 [])]), (7, .box 27 [.p (.s (.int .i64 t3_4.N)), .p (slV (eI .u64) t3_4.Words)]), (10, rowV 51 (eI .u64) t2_2.Words)], ⟨[], false⟩, []⟩ (And.intro ((bits_own_okP h3_1)) (And.intro ((bits_fit_okP h3_3)) (trivial))) (by kernel_rfl) (by kernel_rfl) (by kernel_rfl) (by kernel_rfl) ?_
  refine WX.seq ?_
  refine WX.seq ?_
  refine WC.reg (n := 40) (by assumption) [] [2, 3, 6, 7, 18, 19] [3, 6, 7, 10] ⟨[(2, .p (.fn 54 [])), (3, .ptr 3 0), (6, .ptr 6 0), (7, .ptr 7 0), (18, .p (.s (.int .i64 ((t2_2.Words.length : Int))))), (19, .p (.s (.int .i64 0)))], [(3, .box 27 [.p (.s (.int .i64 t2_2.N)), .own 10]), (6, .box 27 [.p (.s (.int .i64 0)), .p (.sl .nil 0 [])]), (7, .box 27 [.p (.s (.int .i64 t3_4.N)), .p (slV (eI .u64) t3_4.Words)]), (10, rowV 51 (eI .u64) t2_2.Words)], ⟨[], false⟩, []⟩ trivial (by kernel_rfl) ?_
  obtain ⟨J5, eJ5, h⟩ := jn_some h
  try dsimp only at h
  refine WC.join (α := List Int) (fun v5 => ⟨[(3, .ptr 3 0), (6, .ptr 6 0)], [(3, .box 27 [.p (.s (.int .i64 t2_2.N)), .own 10]), (6, .box 27 [.p (.s (.int .i64 0)), .p (.sl .nil 0 [])]), (10, rowV 51 (eI .u64) v5)], ⟨[], false⟩, []⟩) (fun v5 => J5 v5 = some r) ?_ (fun hJ5 => ?_)
  · rintro y5_1 h
    rw [eJ5] at h
    try dsimp only at h
    refine WX.seq ?_
    refine WC.reg (n := 40) (by assumption) [] [6] [6, 10] ⟨[(6, .ptr 6 0)], [(6, .box 27 [.p (.s (.int .i64 t2_2.N)), .own 10]), (10, rowV 51 (eI .u64) y5_1)], ⟨[], false⟩, []⟩ trivial (by kernel_rfl) ?_
    refine WX.ret ?_
    exact WC.outO (by rw [← Option.some.inj h]; kernel_rfl)
  · replace hJ5 := fun y5_1 => hJ5 y5_1
    refine WX.block ?_
    refine WC.loop (V := Int × List Int) (bits_join_v1_l0 t2_2 t3_4 J5) r (fun v18 => ⟨[(2, .p (.fn 54 [])), (3, .ptr 3 0), (6, .ptr 6 0), (7, .ptr 7 0), (18, .p (.s (.int .i64 ((t2_2.Words.length : Int))))), (19, .p (.s (.int .i64 v18.1)))], [(3, .box 27 [.p (.s (.int .i64 t2_2.N)), .own 10]), (6, .box 27 [.p (.s (.int .i64 0)), .p (.sl .nil 0 [])]), (7, .box 27 [.p (.s (.int .i64 t3_4.N)), .p (slV (eI .u64) t3_4.Words)]), (10, rowV 51 (eI .u64) v18.2)], ⟨[], false⟩, []⟩) _ (0, t2_2.Words) h (fun _ => rfl) [2, 3, 6, 7, 18, 19] [3, 6, 7, 10] (by kernel_rfl) ?_
    clear h; rintro k ⟨x18_1_1, x18_1_2⟩ h K18 hnext18 hexit18
    rw [bits_join_v1_l0] at h
    refine WX.seq ?_
    refine WC.reg (n := 40) (by assumption) [] [2, 3, 6, 7, 18, 19, 20] [3, 6, 7, 10] ⟨[(2, .p (.fn 54 [])), (3, .ptr 3 0), (6, .ptr 6 0), (7, .ptr 7 0), (18, .p (.s (.int .i64 ((t2_2.Words.length : Int))))), (19, .p (.s (.int .i64 x18_1_1))), (20, .p (.s (.bool ((decide (x18_1_1 < (t2_2.Words.length : Int)))))))], [(3, .box 27 [.p (.s (.int .i64 t2_2.N)), .own 10]), (6, .box 27 [.p (.s (.int .i64 0)), .p (.sl .nil 0 [])]), (7, .box 27 [.p (.s (.int .i64 t3_4.N)), .p (slV (eI .u64) t3_4.Words)]), (10, rowV 51 (eI .u64) x18_1_2)], ⟨[], false⟩, []⟩ trivial (by kernel_rfl) ?_
    refine WX.seq ?_
    rcases if_or h with ⟨c30, h⟩ | ⟨c30, h⟩
    · refine WC.condT c30 (by kernel_rfl) ?_
      refine WX.skip ?_
      refine WX.seq ?_
      refine WX.block ?_
      refine WX.seq ?_
      refine WC.reg (n := 40) (by assumption) [] [2, 3, 6, 7, 8, 18, 19] [3, 6, 7, 10] ⟨[(2, .p (.fn 54 [])), (3, .ptr 3 0), (6, .ptr 6 0), (7, .ptr 7 0), (8, .p (.s (.int .i64 x18_1_1))), (18, .p (.s (.int .i64 ((t2_2.Words.length : Int))))), (19, .p (.s (.int .i64 x18_1_1)))], [(3, .box 27 [.p (.s (.int .i64 t2_2.N)), .own 10]), (6, .box 27 [.p (.s (.int .i64 0)), .p (.sl .nil 0 [])]), (7, .box 27 [.p (.s (.int .i64 t3_4.N)), .p (slV (eI .u64) t3_4.Words)]), (10, rowV 51 (eI .u64) x18_1_2)], ⟨[], false⟩, []⟩ trivial (by kernel_rfl) ?_
      obtain ⟨t32_2, h32_1, h⟩ := bind_some h
      obtain ⟨t32_4, h32_3, h⟩ := bind_some h
      obtain ⟨t32_6, h32_5, h⟩ := bind_some h
      refine WC.drw (n := 40) (by assumption) [(16, [])] [] [(7, .val (.ptr 10 (x18_1_1.toNat * 1))), (8, .val (.p (.s (.int .u64 t32_2)))), (12, .val (.p (.rop ((eI .u64).cells t32_4 ++ encL (eI .u64) (t3_4.Words.drop (x18_1_1.toNat + 1)))))), (14, .resP (.s (.int .u64 t32_6))), (15, .val (.ptr 10 (x18_1_1.toNat * 1))), (16, .sto 10 (rowV 51 (eI .u64) (x18_1_2.set x18_1_1.toNat t32_6)))] [2, 3, 6, 7, 18, 19] [3, 6, 7, 10] ⟨[(2, .p (.fn 54 [])), (3, .ptr 3 0), (6, .ptr 6 0), (7, .ptr 7 0), (18, .p (.s (.int .i64 ((t2_2.Words.length : Int))))), (19, .p (.s (.int .i64 x18_1_1)))], [(3, .box 27 [.p (.s (.int .i64 t2_2.N)), .own 10]), (6, .box 27 [.p (.s (.int .i64 0)), .p (.sl .nil 0 [])]), (7, .box 27 [.p (.s (.int .i64 t3_4.N)), .p (slV (eI .u64) t3_4.Words)]), (10, rowV 51 (eI .u64) (x18_1_2.set x18_1_1.toNat t32_6))], ⟨[], false⟩, []⟩ (And.intro (IxO 10 1 h32_1) (And.intro (LdO0 Tryd.prog (eI .u64) 51 h32_1) (And.intro (Ix (eI .u64) h32_3) (And.intro ((bits_Or_1_ok h32_5)) (And.intro (IxO 10 1 h32_1) (And.intro (StO0 (eI .u64) 10 51 1 1 [.s (.int .u64 t32_6)] t32_6 h32_1 rfl rfl (by decide)) (trivial))))))) (by kernel_rfl) (by kernel_rfl) (by kernel_rfl) (by kernel_rfl) ?_
      refine WX.popBlk ?_
      refine WC.reg (n := 40) (by assumption) [] [2, 3, 6, 7, 18, 19] [3, 6, 7, 10] ⟨[(2, .p (.fn 54 [])), (3, .ptr 3 0), (6, .ptr 6 0), (7, .ptr 7 0), (18, .p (.s (.int .i64 ((t2_2.Words.length : Int))))), (19, .p (.s (.int .i64 ((IntKind.i64.wrap (x18_1_1 + 1))))))], [(3, .box 27 [.p (.s (.int .i64 t2_2.N)), .own 10]), (6, .box 27 [.p (.s (.int .i64 0)), .p (.sl .nil 0 [])]), (7, .box 27 [.p (.s (.int .i64 t3_4.N)), .p (slV (eI .u64) t3_4.Words)]), (10, rowV 51 (eI .u64) (x18_1_2.set x18_1_1.toNat t32_6))], ⟨[], false⟩, []⟩ trivial (by kernel_rfl) ?_
      exact WC.next [2, 3, 6, 7, 18, 19] [3, 6, 7, 10] (by kernel_rfl) (hnext18 ((IntKind.i64.wrap (x18_1_1 + 1)), x18_1_2.set x18_1_1.toNat t32_6) h)
    · refine WC.condF c30 (by kernel_rfl) ?_
      refine WX.exit ?_
      refine WX.popCodeExit ?_
      refine WC.exit_nil (hexit18 _ _ (by simp) ?_)
      refine WX.popBlkHit ?_
      exact WC.keep [3, 6] [3, 6, 10] (by kernel_rfl) (hJ5 x18_1_2 h)
theorem bits_join_v1_okP {k : Nat} {a0 : api_Bits} {a1 : api_Bits} {a2 : (Unit)} {r : api_Bits} (h : bits_join_v1 k a0 a1 a2 = some r) : Ans Tryd.prog 53 [.agg [.s (.int .i64 a0.N), slV (eI .u64) a0.Words], .agg [.s (.int .i64 a1.N), slV (eI .u64) a1.Words], .fn 54 []] (.agg [.s (.int .i64 r.N), slV (eI .u64) r.Words]) := AnsO.ans (args := [.agg [.s (.int .i64 a0.N), slV (eI .u64) a0.Words], .agg [.s (.int .i64 a1.N), slV (eI .u64) a1.Words], .fn 54 []]) (bits_join_v1_ok h) (by kernel_rfl)
def bits_Or (k : Nat) (a0 : api_Bits) (a1 : api_Bits) : Option (api_Bits) :=
  (bits_join_v1 k a0 a1 (())).bind fun t2_2 => some t2_2
theorem bits_Or_ok {k : Nat} {a0 : api_Bits} {a1 : api_Bits} {r : api_Bits} (h : bits_Or k a0 a1 = some r) : AnsO Tryd.prog 27 [] [.p (.agg [.s (.int .i64 a0.N), slV (eI .u64) a0.Words]), .p (.agg [.s (.int .i64 a1.N), slV (eI .u64) a1.Words])] [(7, rowV 51 (eI .u64) r.Words)] (.agg [.p (.s (.int .i64 r.N)), .own 7]) := by
  refine W_fnO [7] Tryd.func27 rfl (by kernel_rfl) (by kernel_rfl) (by kernel_rfl) (by kernel_rfl) ?_
  intro X hro hn
  unfold bits_Or at h
  refine WX.seq ?_
  refine WC.reg (n := 8) (by assumption) [] [2, 3, 4] [2, 3, 4] ⟨[(2, .ptr 2 0), (3, .ptr 3 0), (4, .ptr 4 0)], [(2, .box 27 [.p (.s (.int .i64 a0.N)), .p (slV (eI .u64) a0.Words)]), (3, .box 27 [.p (.s (.int .i64 a1.N)), .p (slV (eI .u64) a1.Words)]), (4, .box 27 [.p (.s (.int .i64 0)), .p (.sl .nil 0 [])])], ⟨[], false⟩, []⟩ trivial (by kernel_rfl) ?_
  refine WX.seq ?_
  obtain ⟨t2_2, h2_1, h⟩ := bind_some h
  refine WC.reg (n := 8) (by assumption) [(2, .co [] [] [] [(7, rowV 51 (eI .u64) t2_2.Words)] (.agg [.p (.s (.int .i64 t2_2.N)), .own 7]))] [4] [4, 7] ⟨[(4, .ptr 4 0)], [(4, .box 27 [.p (.s (.int .i64 t2_2.N)), .own 7]), (7, rowV 51 (eI .u64) t2_2.Words)], ⟨[], false⟩, []⟩ (And.intro (And.intro ((bits_join_v1_ok h2_1).ren 10 7 (by kernel_rfl)) (trivial)) (trivial)) (by kernel_rfl) ?_
  refine WX.ret ?_
  exact WC.outO (by rw [← Option.some.inj h]; kernel_rfl)
theorem bits_Or_okP {k : Nat} {a0 : api_Bits} {a1 : api_Bits} {r : api_Bits} (h : bits_Or k a0 a1 = some r) : Ans Tryd.prog 27 [.agg [.s (.int .i64 a0.N), slV (eI .u64) a0.Words], .agg [.s (.int .i64 a1.N), slV (eI .u64) a1.Words]] (.agg [.s (.int .i64 r.N), slV (eI .u64) r.Words]) := AnsO.ans (args := [.agg [.s (.int .i64 a0.N), slV (eI .u64) a0.Words], .agg [.s (.int .i64 a1.N), slV (eI .u64) a1.Words]]) (bits_Or_ok h) (by kernel_rfl)
def riddleref01_Or_l0 (a1 : api_Bits) (t2_2 : api_Bits) (J4 : List Int → Option (api_Bits)) : Nat → (Int × List Int) → Option (api_Bits)
  | 0, _ => none
  | k + 1, (x21_1_1, x21_1_2) => (if (decide (x21_1_1 < t2_2.N)) = true then (riddleref01_Has k a1 x21_1_1).bind fun t38_2 => (if t38_2 = true then (riddleref01_put ((api_Bits.mk t2_2.N x21_1_2)) x21_1_1).bind fun t40_2 => riddleref01_Or_l0 a1 t2_2 J4 k ((IntKind.i64.wrap (x21_1_1 + 1)), t40_2) else riddleref01_Or_l0 a1 t2_2 J4 k ((IntKind.i64.wrap (x21_1_1 + 1)), x21_1_2)) else J4 x21_1_2)
def riddleref01_Or (k : Nat) (a0 : api_Bits) (a1 : api_Bits) : Option (api_Bits) :=
  (riddleref01_Copy k a0).bind fun t2_2 => jn (fun (v4 : List Int) => some ((api_Bits.mk t2_2.N v4))) fun J4 => riddleref01_Or_l0 a1 t2_2 J4 k (0, t2_2.Words)
theorem riddleref01_Or_ok {k : Nat} {a0 : api_Bits} {a1 : api_Bits} {r : api_Bits} (h : riddleref01_Or k a0 a1 = some r) : AnsO Tryd.prog 28 [] [.p (.agg [.s (.int .i64 a0.N), slV (eI .u64) a0.Words]), .p (.agg [.s (.int .i64 a1.N), slV (eI .u64) a1.Words])] [(8, rowV 51 (eI .u64) r.Words)] (.agg [.p (.s (.int .i64 r.N)), .own 8]) := by
  refine W_fnO [8] Tryd.func28 rfl (by kernel_rfl) (by kernel_rfl) (by kernel_rfl) (by kernel_rfl) ?_
  intro X hro hn
  unfold riddleref01_Or at h
  refine WX.seq ?_
  refine WC.reg (n := 22) (by assumption) [] [2, 3, 4] [2, 3, 4] ⟨[(2, .ptr 2 0), (3, .ptr 3 0), (4, .ptr 4 0)], [(2, .box 27 [.p (.s (.int .i64 a0.N)), .p (slV (eI .u64) a0.Words)]), (3, .box 27 [.p (.s (.int .i64 a1.N)), .p (slV (eI .u64) a1.Words)]), (4, .box 27 [.p (.s (.int .i64 0)), .p (.sl .nil 0 [])])], ⟨[], false⟩, []⟩ trivial (by kernel_rfl) ?_
  refine WX.seq ?_
  obtain ⟨t2_2, h2_1, h⟩ := bind_some h
  refine WC.reg (n := 22) (by assumption) [(1, .co [] [] [] [(8, rowV 51 (eI .u64) t2_2.Words)] (.agg [.p (.s (.int .i64 t2_2.N)), .own 8]))] [3, 4, 5] [3, 4, 5, 8] ⟨[(3, .ptr 3 0), (4, .ptr 4 0), (5, .ptr 5 0)], [(3, .box 27 [.p (.s (.int .i64 a1.N)), .p (slV (eI .u64) a1.Words)]), (4, .box 27 [.p (.s (.int .i64 0)), .p (.sl .nil 0 [])]), (5, .box 27 [.p (.s (.int .i64 t2_2.N)), .own 8]), (8, rowV 51 (eI .u64) t2_2.Words)], ⟨[], false⟩, []⟩ (And.intro (And.intro ((riddleref01_Copy_ok h2_1).ren 11 8 (by kernel_rfl)) (trivial)) (trivial)) (by kernel_rfl) ?_
  refine WX.seq ?_
  refine WX.seq ?_
  refine WC.reg (n := 22) (by assumption) [] [3, 4, 5, 6] [3, 4, 5, 8] ⟨[(3, .ptr 3 0), (4, .ptr 4 0), (5, .ptr 5 0), (6, .p (.s (.int .i64 0)))], [(3, .box 27 [.p (.s (.int .i64 a1.N)), .p (slV (eI .u64) a1.Words)]), (4, .box 27 [.p (.s (.int .i64 0)), .p (.sl .nil 0 [])]), (5, .box 27 [.p (.s (.int .i64 t2_2.N)), .own 8]), (8, rowV 51 (eI .u64) t2_2.Words)], ⟨[], false⟩, []⟩ trivial (by kernel_rfl) ?_
  obtain ⟨J4, eJ4, h⟩ := jn_some h
  try dsimp only at h
  refine WC.join (α := List Int) (fun v4 => ⟨[(4, .ptr 4 0), (5, .ptr 5 0)], [(4, .box 27 [.p (.s (.int .i64 0)), .p (.sl .nil 0 [])]), (5, .box 27 [.p (.s (.int .i64 t2_2.N)), .own 8]), (8, rowV 51 (eI .u64) v4)], ⟨[], false⟩, []⟩) (fun v4 => J4 v4 = some r) ?_ (fun hJ4 => ?_)
  · rintro y4_1 h
    rw [eJ4] at h
    try dsimp only at h
    refine WX.seq ?_
    refine WC.reg (n := 22) (by assumption) [] [4] [4, 8] ⟨[(4, .ptr 4 0)], [(4, .box 27 [.p (.s (.int .i64 t2_2.N)), .own 8]), (8, rowV 51 (eI .u64) y4_1)], ⟨[], false⟩, []⟩ trivial (by kernel_rfl) ?_
    refine WX.ret ?_
    exact WC.outO (by rw [← Option.some.inj h]; kernel_rfl)
  · replace hJ4 := fun y4_1 => hJ4 y4_1
    refine WX.block ?_
    refine WC.loop (V := Int × List Int) (riddleref01_Or_l0 a1 t2_2 J4) r (fun v21 => ⟨[(3, .ptr 3 0), (4, .ptr 4 0), (5, .ptr 5 0), (6, .p (.s (.int .i64 v21.1)))], [(3, .box 27 [.p (.s (.int .i64 a1.N)), .p (slV (eI .u64) a1.Words)]), (4, .box 27 [.p (.s (.int .i64 0)), .p (.sl .nil 0 [])]), (5, .box 27 [.p (.s (.int .i64 t2_2.N)), .own 8]), (8, rowV 51 (eI .u64) v21.2)], ⟨[], false⟩, []⟩) _ (0, t2_2.Words) h (fun _ => rfl) [3, 4, 5, 6] [3, 4, 5, 8] (by kernel_rfl) ?_
    clear h; rintro k ⟨x21_1_1, x21_1_2⟩ h K21 hnext21 hexit21
    rw [riddleref01_Or_l0] at h
    refine WX.seq ?_
    refine WX.seq ?_
    refine WC.reg (n := 22) (by assumption) [] [3, 4, 5, 6, 12] [3, 4, 5, 8] ⟨[(3, .ptr 3 0), (4, .ptr 4 0), (5, .ptr 5 0), (6, .p (.s (.int .i64 x21_1_1))), (12, .p (.s (.bool ((decide (x21_1_1 < t2_2.N))))))], [(3, .box 27 [.p (.s (.int .i64 a1.N)), .p (slV (eI .u64) a1.Words)]), (4, .box 27 [.p (.s (.int .i64 0)), .p (.sl .nil 0 [])]), (5, .box 27 [.p (.s (.int .i64 t2_2.N)), .own 8]), (8, rowV 51 (eI .u64) x21_1_2)], ⟨[], false⟩, []⟩ trivial (by kernel_rfl) ?_
    rcases if_or h with ⟨c37, h⟩ | ⟨c37, h⟩
    · refine WC.condT c37 (by kernel_rfl) ?_
      refine WX.skip ?_
      refine WX.seq ?_
      refine WX.block ?_
      refine WX.seq ?_
      obtain ⟨t38_2, h38_1, h⟩ := bind_some h
      refine WC.reg (n := 22) (by assumption) [(2, .resP (.s (.bool t38_2)))] [3, 4, 5, 6, 17] [3, 4, 5, 8] ⟨[(3, .ptr 3 0), (4, .ptr 4 0), (5, .ptr 5 0), (6, .p (.s (.int .i64 x21_1_1))), (17, .p (.s (.bool t38_2)))], [(3, .box 27 [.p (.s (.int .i64 a1.N)), .p (slV (eI .u64) a1.Words)]), (4, .box 27 [.p (.s (.int .i64 0)), .p (.sl .nil 0 [])]), (5, .box 27 [.p (.s (.int .i64 t2_2.N)), .own 8]), (8, rowV 51 (eI .u64) x21_1_2)], ⟨[], false⟩, []⟩ (And.intro ((riddleref01_Has_ok h38_1)) (trivial)) (by kernel_rfl) ?_
      rcases if_or h with ⟨c39, h⟩ | ⟨c39, h⟩
      · refine WC.condT c39 (by kernel_rfl) ?_
        obtain ⟨t40_2, h40_1, h⟩ := bind_some h
        refine WC.reg (n := 22) (by assumption) [(2, .co [] [8] [] [(8, rowV 51 (eI .u64) t40_2)] (.tup []))] [3, 4, 5, 6] [3, 4, 5, 8] ⟨[(3, .ptr 3 0), (4, .ptr 4 0), (5, .ptr 5 0), (6, .p (.s (.int .i64 x21_1_1)))], [(3, .box 27 [.p (.s (.int .i64 a1.N)), .p (slV (eI .u64) a1.Words)]), (4, .box 27 [.p (.s (.int .i64 0)), .p (.sl .nil 0 [])]), (5, .box 27 [.p (.s (.int .i64 t2_2.N)), .own 8]), (8, rowV 51 (eI .u64) t40_2)], ⟨[], false⟩, []⟩ (And.intro (And.intro ((riddleref01_put_ok h40_1).ren 1000 8 (by kernel_rfl)) (trivial)) (trivial)) (by kernel_rfl) ?_
        refine WX.popBlk ?_
        refine WC.reg (n := 22) (by assumption) [] [3, 4, 5, 6] [3, 4, 5, 8] ⟨[(3, .ptr 3 0), (4, .ptr 4 0), (5, .ptr 5 0), (6, .p (.s (.int .i64 ((IntKind.i64.wrap (x21_1_1 + 1))))))], [(3, .box 27 [.p (.s (.int .i64 a1.N)), .p (slV (eI .u64) a1.Words)]), (4, .box 27 [.p (.s (.int .i64 0)), .p (.sl .nil 0 [])]), (5, .box 27 [.p (.s (.int .i64 t2_2.N)), .own 8]), (8, rowV 51 (eI .u64) t40_2)], ⟨[], false⟩, []⟩ trivial (by kernel_rfl) ?_
        exact WC.next [3, 4, 5, 6] [3, 4, 5, 8] (by kernel_rfl) (hnext21 ((IntKind.i64.wrap (x21_1_1 + 1)), t40_2) h)
      · refine WC.condF c39 (by kernel_rfl) ?_
        refine WX.skip ?_
        refine WX.popBlk ?_
        refine WC.reg (n := 22) (by assumption) [] [3, 4, 5, 6] [3, 4, 5, 8] ⟨[(3, .ptr 3 0), (4, .ptr 4 0), (5, .ptr 5 0), (6, .p (.s (.int .i64 ((IntKind.i64.wrap (x21_1_1 + 1))))))], [(3, .box 27 [.p (.s (.int .i64 a1.N)), .p (slV (eI .u64) a1.Words)]), (4, .box 27 [.p (.s (.int .i64 0)), .p (.sl .nil 0 [])]), (5, .box 27 [.p (.s (.int .i64 t2_2.N)), .own 8]), (8, rowV 51 (eI .u64) x21_1_2)], ⟨[], false⟩, []⟩ trivial (by kernel_rfl) ?_
        exact WC.next [3, 4, 5, 6] [3, 4, 5, 8] (by kernel_rfl) (hnext21 ((IntKind.i64.wrap (x21_1_1 + 1)), x21_1_2) h)
    · refine WC.condF c37 (by kernel_rfl) ?_
      refine WX.exit ?_
      refine WX.popCodeExit ?_
      refine WC.exit_nil (hexit21 _ _ (by simp) ?_)
      refine WX.popBlkHit ?_
      exact WC.keep [4, 5] [4, 5, 8] (by kernel_rfl) (hJ4 x21_1_2 h)
theorem riddleref01_Or_okP {k : Nat} {a0 : api_Bits} {a1 : api_Bits} {r : api_Bits} (h : riddleref01_Or k a0 a1 = some r) : Ans Tryd.prog 28 [.agg [.s (.int .i64 a0.N), slV (eI .u64) a0.Words], .agg [.s (.int .i64 a1.N), slV (eI .u64) a1.Words]] (.agg [.s (.int .i64 r.N), slV (eI .u64) r.Words]) := AnsO.ans (args := [.agg [.s (.int .i64 a0.N), slV (eI .u64) a0.Words], .agg [.s (.int .i64 a1.N), slV (eI .u64) a1.Words]]) (riddleref01_Or_ok h) (by kernel_rfl)
def bits_And_1 (a0 : Int) (a1 : Int) : Option (Int) :=
  some ((bits .and .u64 a0 a1))
theorem bits_And_1_ok {a0 : Int} {a1 : Int} {r : Int} (h : bits_And_1 a0 a1 = some r) : Ans Tryd.prog 55 [.s (.int .u64 a0), .s (.int .u64 a1)] (.s (.int .u64 r)) := by
  refine W_fn Tryd.func55 rfl (by kernel_rfl) (by kernel_rfl) ?_
  intro X hro hn
  unfold bits_And_1 at h
  refine WX.seq ?_
  refine WC.reg (n := 8) (by assumption) [] [0, 1] [] ⟨[(0, .p (.s (.int .u64 a0))), (1, .p (.s (.int .u64 a1)))], [], ⟨[], false⟩, []⟩ trivial (by kernel_rfl) ?_
  refine WX.seq ?_
  refine WC.reg (n := 8) (by assumption) [] [4] [] ⟨[(4, .p (.s (.int .u64 ((bits .and .u64 a0 a1)))))], [], ⟨[], false⟩, []⟩ trivial (by kernel_rfl) ?_
  refine WX.ret ?_
  exact WC.outP (by rw [← Option.some.inj h]; kernel_rfl)
end Go.Proofs.YthjncgigdkdepaaDoor
