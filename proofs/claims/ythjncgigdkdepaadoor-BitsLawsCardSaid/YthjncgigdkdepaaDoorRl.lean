/- The Go law riddlelaw01.BitsLaws answers true of every input, and its argument reads behind the call as it read before; the listed table math/bits.deBruijn64tab is tied to the program text (the card). No conditions. -/
import Derived.Test.YthjncgigdkdepaaDoorRows
import Derived.Test.YthjncgigdkdepaaDoorChecked
import Derived.Test.YthjncgigdkdepaaDoorPf
import Derived.Test.YthjncgigdkdepaaDoorTie
import Derived.Test.YthjncgigdkdepaaDoorCards
import Derived.SevenTiedAt
import Derived.WalkKit
import Derived.LaidMore
import Derived.ProofKit
import Derived.OpenShut
import Derived.ShutString
import Derived.ChangeOld
import Derived.Below
import Derived.SizedLaws
set_option maxRecDepth 100000
set_option linter.unusedVariables false
set_option linter.unusedSimpArgs false
namespace Go.Proofs.YthjncgigdkdepaaDoor
open Go.AE Go.ChangeShapes Go.WideShapes Go.ChangeAt Go.RowKit

theorem bitsLaws_own : ownKnob Tryd.prog.godebug = none := by kernel_rfl
theorem bitsLaws_laidOut : laidOutB Tryd.prog = true := by kernel_rfl
theorem bitsLaws_lifted (os : Os) (started : os.Started) (H : Type) (enc : TypeId × Value → H) :
    ReturnsInHanded {} Tryd.checked os 6 .any (fun w args => (Rows.bitsLawsSpec.pre enc Tryd.prog Tryd.f6 Rows.bitsLawsRow.domain false w args ∧ laidMetH Tryd.prog Rows.bitsLawsRow.laid w) ∧ sizedMet enc Tryd.prog Tryd.f6 (OpenSpec.ofChange Rows.bitsLawsSpec) false w args) (Rows.bitsLawsSpec.post enc Tryd.prog Tryd.f6 false true false false) := by
  refine returnsInHanded_of_change_and (C := Tryd.checked) (X := fun w _ => laidMetH Tryd.prog Rows.bitsLawsRow.laid w) (fun _ _ _ hh h => h.of_heap hh) bitsLaws_own started (by kernel_rfl) Tryd.func6
    (ChangeSpec.witness_shaped (enc := enc) (C := Tryd.checked) (os := os) (X := fun w _ => laidMetH Tryd.prog Rows.bitsLawsRow.laid w) false (World.doorLaid Tryd.prog 400 os) #[.agg #[.int .u8 0, .slice none 0 0, .slice none 0 0, .slice none 0 0]] 8 rfl (World.shaped_of_RefB (by kernel_rfl) (by kernel_rfl)) (by kernel_rfl) (by kernel_rfl) (by kernel_rfl) (laidMetH_of_parts3 (fuel := 8) (laidMet_of_run' 8 (by kernel_rfl) (by kernel_rfl)) (by kernel_rfl) (by kernel_rfl))) ?_
  intro W base args ds gs before hval0 hW hcnd hsz0 hL _
  have hval : ∀ (j : Nat) t v, Tryd.f6.params[j]? = some t → args[j]? = some v → Value.okWide Tryd.prog W .any base t v := hval0
  have hW' := hW
  obtain ⟨p, q, hA0, hV, rfl, hfz, hnd⟩ := hW
  have hA : DataW.TrodAll enc Tryd.prog W 0 (fun _ => true) true Tryd.f6.params.toList args.toList ds p := hA0
  obtain ⟨rfl, rfl⟩ := trodVars_none hV
  obtain ⟨xs, hx, hp⟩ := Trods_PT (f := 12) Tryd.f6.params.toList args.toList ds p (by kernel_rfl) (fun j t v ht hv => hval j t v (by simpa using ht) (by simpa using hv)) hA
  rw [Tryd.params6] at hp
  obtain ⟨a0, x0, w0, hp0, q0⟩ := PTs_cons (Rd.row rd46 Tryd.underlying46 rfl) hp
  cases PTs_nil hp0
  obtain ⟨k, hk⟩ := bitsLaws_w a0 w0
  have hx2 : RPs W No [.agg [.s (.int .u8 a0.N), slV (eI .i64) a0.A, slV (eI .i64) a0.B, slV (eI .i64) a0.C]] args.toList := (q0 _ (Wks.refl _)) W No args.toList hx
  have hlaw := (riddlelaw01_BitsLaws_ok hk).2 W No args.toList (fun _ h => h.elim) (seatGl hL) hx2
  rw [Array.toArray_toList] at hlaw
  have hA2 := hA
  rw [Tryd.params6] at hA2
  obtain ⟨v0, vs0, d0, ds0, p0, g0, _, rfl, _, _, r0⟩ := trodAll_cons hA2
  obtain ⟨_, rfl, _⟩ := trodAll_nil r0
  refine hlaw.mono fun e W' ⟨v, he, bel, hv⟩ => ?_
  simp only [RP] at hv
  subst he hv
  exact ⟨_, rfl, _, _, _, [], _, [], hW', trodAll_mk1 (shut_bool Tryd.underlying4 _), Go.AE.Below.trods bitsLaws_laidOut bel _ _ _ _ (by kernel_rfl) hA, rfl, bel.frame _, fun h => by cases h⟩
theorem bitsLaws_over : Rows.bitsLawsRow.holds Tryd.pinned (OpenSpec.ofChange Rows.bitsLawsSpec) :=
  OpenClaim.holds_of_wide 6 Tryd.f6 rfl rfl rfl rfl rfl rfl rfl ⟨rfl, rfl, rfl, rfl, rfl⟩ rfl rfl rfl rfl rfl (by kernel_rfl) Tryd.func6 (by kernel_rfl)
    (of_decide_eq_true (by kernel_rfl)) (by unfold Func.isWrapper; first | (rw [if_pos (by decide +kernel)]; kernel_rfl) | (rw [if_neg (by decide +kernel)]; exact ⟨rfl, rfl⟩))
    (fun os started H enc _ => bitsLaws_lifted os started H enc)
theorem bitsLaws_holds : Rows.BitsLawsSaid := bitsLaws_over
theorem bitsLaws_card : Rows.BitsLawsCardSaid :=
  Claim7.holds_tied_plain_at .later [] [.data] true (true, "91d30c8b36ee5fa0e9257ec5364e6d0dd8476104cea232ad6d4fa295d40f76cb") false bitsLaws_holds (fun _ h => by cases h) (by kernel_rfl) (fun _ h => by cases h) bitsLaws_row_tie rfl ⟨rfl, rfl⟩ (by kernel_rfl) rfl
    (fun f fn hf hfn => by
      obtain rfl : f = 6 := Option.some.inj ((show Tryd.prog.funcNamed Rows.bitsLawsRow.func = some 6 by kernel_rfl).symm.trans hf) |>.symm
      obtain rfl : fn = Tryd.f6 := (Option.some.inj (Tryd.func6.symm.trans hfn)).symm
      have hall : (Tryd.f6.params.toList.all fun t => !Tryd.prog.wantsStandIn t) = true := by kernel_rfl
      exact ⟨by kernel_rfl, fun j t ht => by
        have := List.all_eq_true.1 hall t (List.mem_of_getElem? (i := j) (by simpa using ht))
        have h2 : Tryd.prog.wantsStandIn t = false := by simpa using this
        exact h2⟩)
    (by kernel_rfl)
end Go.Proofs.YthjncgigdkdepaaDoor
