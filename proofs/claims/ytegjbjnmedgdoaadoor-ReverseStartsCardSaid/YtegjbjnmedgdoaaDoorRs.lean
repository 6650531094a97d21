/- The Go law riddlelaw12.ReverseStarts answers true of every input, and its arguments read behind the call as they read before; the listed table math/bits.deBruijn64tab is tied to the program text (the card). No conditions. -/
import Derived.Test.YtegjbjnmedgdoaaDoorRows
import Derived.Test.YtegjbjnmedgdoaaDoorChecked
import Derived.Test.YtegjbjnmedgdoaaDoorPn
import Derived.Test.YtegjbjnmedgdoaaDoorTie
import Derived.Test.YtegjbjnmedgdoaaDoorCards
import Derived.SevenTiedAt
import Derived.WalkKit
import Derived.LaidMore
import Derived.ProofKit
import Derived.OpenShut
import Derived.ShutString
import Derived.ChangeOld
import Derived.Below
import Derived.SizedLaws
set_option maxRecDepth 100000
set_option linter.unusedVariables false
set_option linter.unusedSimpArgs false
namespace Go.Proofs.YtegjbjnmedgdoaaDoor
open Go.AE Go.ChangeShapes Go.WideShapes Go.ChangeAt Go.RowKit

theorem reverseStarts_own : ownKnob Tryd.prog.godebug = none := by kernel_rfl
theorem reverseStarts_laidOut : laidOutB Tryd.prog = true := by kernel_rfl
theorem reverseStarts_lifted (os : Os) (started : os.Started) (H : Type) (enc : TypeId × Value → H) :
    ReturnsInHanded {} Tryd.checked os 3 .any (fun w args => (Rows.reverseStartsSpec.pre enc Tryd.prog Tryd.f3 Rows.reverseStartsRow.domain false w args ∧ laidMetH Tryd.prog Rows.reverseStartsRow.laid w) ∧ sizedMet enc Tryd.prog Tryd.f3 (OpenSpec.ofChange Rows.reverseStartsSpec) false w args) (Rows.reverseStartsSpec.post enc Tryd.prog Tryd.f3 false true false false) := by
  refine returnsInHanded_of_change_and (C := Tryd.checked) (X := fun w _ => laidMetH Tryd.prog Rows.reverseStartsRow.laid w) (fun _ _ _ hh h => h.of_heap hh) reverseStarts_own started (by kernel_rfl) Tryd.func3
    (ChangeSpec.witness_shaped (enc := enc) (C := Tryd.checked) (os := os) (X := fun w _ => laidMetH Tryd.prog Rows.reverseStartsRow.laid w) false (World.doorLaid Tryd.prog 400 os) #[.agg #[.slice none 0 0, .int .i64 0, .slice none 0 0, .int .i64 0, .slice none 0 0, .slice none 0 0, .bool false], .slice none 0 0, .int .i64 0, .int .u8 0, .bool false, .bool false] 8 rfl (World.shaped_of_RefB (by kernel_rfl) (by kernel_rfl)) (by kernel_rfl) (by kernel_rfl) (by kernel_rfl) (laidMetH_of_parts3 (fuel := 8) (laidMet_of_run' 8 (by kernel_rfl) (by kernel_rfl)) (by kernel_rfl) (by kernel_rfl))) ?_
  intro W base args ds gs before hval0 hW hcnd hsz0 hL _
  have hval : ∀ (j : Nat) t v, Tryd.f3.params[j]? = some t → args[j]? = some v → Value.okWide Tryd.prog W .any base t v := hval0
  have hW' := hW
  obtain ⟨p, q, hA0, hV, rfl, hfz, hnd⟩ := hW
  have hA : DataW.TrodAll enc Tryd.prog W 0 (fun _ => true) true Tryd.f3.params.toList args.toList ds p := hA0
  obtain ⟨rfl, rfl⟩ := trodVars_none hV
  obtain ⟨xs, hx, hp⟩ := Trods_PT (f := 12) Tryd.f3.params.toList args.toList ds p (by kernel_rfl) (fun j t v ht hv => hval j t v (by simpa using ht) (by simpa using hv)) hA (wts_of hsz0 rfl)
  rw [Tryd.params3] at hp
  obtain ⟨a0, x0, w0, hp0, q0⟩ := PTs_cons (Rd.row rd28 Tryd.underlying28 rfl) hp
  obtain ⟨a1, x1, w1, hp1, q1⟩ := PTs_cons (Rd.one (fun x => slV (eI .u8) x) (fun _ => rfl) rd29 Tryd.underlying29 rfl) hp0
  obtain ⟨a2, x2, w2, hp2, q2⟩ := PTs_cons (Rd.one (fun x => .s (.int .i64 x)) (fun _ => rfl) rd3 Tryd.underlying3 rfl) hp1
  obtain ⟨a3, x3, w3, hp3, q3⟩ := PTs_cons (Rd.one (fun x => .s (.int .u8 x)) (fun _ => rfl) rd5 Tryd.underlying5 rfl) hp2
  obtain ⟨a4, x4, w4, hp4, q4⟩ := PTs_cons (Rd.one (fun x => .s (.bool x)) (fun _ => rfl) rd4 Tryd.underlying4 rfl) hp3
  obtain ⟨a5, x5, w5, hp5, q5⟩ := PTs_cons (Rd.one (fun x => .s (.bool x)) (fun _ => rfl) rd4 Tryd.underlying4 rfl) hp4
  cases PTs_nil hp5
  obtain ⟨k, hk⟩ := reverseStarts_w a0 a1 a2 a3 a4 a5 w0 w1 w2 w3 w4 w5
  have hx2 : RPs W No [.agg [slV (e4 (eI .u64)) a0.Classes, .s (.int .i64 a0.First.N), slV (eI .u64) a0.First.Words, .s (.int .i64 a0.Last.N), slV (eI .u64) a0.Last.Words, slV e_api_Bits a0.Follow, .s (.bool a0.Null)], slV (eI .u8) a1, .s (.int .i64 a2), .s (.int .u8 a3), .s (.bool a4), .s (.bool a5)] args.toList := (q0 _ (q1 _ (q2 _ (q3 _ (q4 _ (q5 _ (Wks.refl _))))))) W No args.toList hx
  have hlaw := (riddlelaw12_ReverseStarts_ok hk).2 W No args.toList (fun _ h => h.elim) (seatGl hL) hx2
  rw [Array.toArray_toList] at hlaw
  have hA2 := hA
  rw [Tryd.params3] at hA2
  obtain ⟨v0, vs0, d0, ds0, p0, g0, _, rfl, _, _, r0⟩ := trodAll_cons hA2
  obtain ⟨v1, vs1, d1, ds1, p1, g1, _, rfl, _, _, r1⟩ := trodAll_cons r0
  obtain ⟨v2, vs2, d2, ds2, p2, g2, _, rfl, _, _, r2⟩ := trodAll_cons r1
  obtain ⟨v3, vs3, d3, ds3, p3, g3, _, rfl, _, _, r3⟩ := trodAll_cons r2
  obtain ⟨v4, vs4, d4, ds4, p4, g4, _, rfl, _, _, r4⟩ := trodAll_cons r3
  obtain ⟨v5, vs5, d5, ds5, p5, g5, _, rfl, _, _, r5⟩ := trodAll_cons r4
  obtain ⟨_, rfl, _⟩ := trodAll_nil r5
  refine hlaw.mono fun e W' ⟨v, he, bel, hv⟩ => ?_
  simp only [RP] at hv
  subst he hv
  exact ⟨_, rfl, _, _, _, [], _, [], hW', trodAll_mk1 (shut_bool Tryd.underlying4 _), Go.AE.Below.trods reverseStarts_laidOut bel _ _ _ _ (by kernel_rfl) hA, rfl, bel.frame _, fun h => by cases h⟩
theorem reverseStarts_over : Rows.reverseStartsRow.holds Tryd.pinned (OpenSpec.ofChange Rows.reverseStartsSpec) :=
  OpenClaim.holds_of_wide 3 Tryd.f3 rfl rfl rfl rfl rfl rfl rfl ⟨rfl, rfl, rfl, rfl, rfl⟩ rfl rfl rfl rfl rfl (by kernel_rfl) Tryd.func3 (by kernel_rfl)
    (of_decide_eq_true (by kernel_rfl)) (by unfold Func.isWrapper; first | (rw [if_pos (by decide +kernel)]; kernel_rfl) | (rw [if_neg (by decide +kernel)]; exact ⟨rfl, rfl⟩))
    (fun os started H enc _ => reverseStarts_lifted os started H enc)
theorem reverseStarts_holds : Rows.ReverseStartsSaid := reverseStarts_over
theorem reverseStarts_card : Rows.ReverseStartsCardSaid :=
  Claim7.holds_tied_plain_at .later [] [.data] true (true, "f88287c7a421f8b272f433e829e640886f8ac0b9b0dd6f6157a038dea8210974") false reverseStarts_holds (fun _ h => by cases h) (by kernel_rfl) (fun _ h => by cases h) reverseStarts_row_tie rfl ⟨rfl, rfl⟩ (by kernel_rfl) rfl
    (fun f fn hf hfn => by
      obtain rfl : f = 3 := Option.some.inj ((show Tryd.prog.funcNamed Rows.reverseStartsRow.func = some 3 by kernel_rfl).symm.trans hf) |>.symm
      obtain rfl : fn = Tryd.f3 := (Option.some.inj (Tryd.func3.symm.trans hfn)).symm
      have hall : (Tryd.f3.params.toList.all fun t => !Tryd.prog.wantsStandIn t) = true := by kernel_rfl
      exact ⟨by kernel_rfl, fun j t ht => by
        have := List.all_eq_true.1 hall t (List.mem_of_getElem? (i := j) (by simpa using ht))
        have h2 : Tryd.prog.wantsStandIn t = false := by simpa using this
        exact h2⟩)
    (by kernel_rfl)
end Go.Proofs.YtegjbjnmedgdoaaDoor
