/- The Go law riddlelaw01.BitsTell answers true of every input, and its arguments read behind the call as they read before; the listed table math/bits.deBruijn64tab is tied to the program text (the card). No conditions. -/
import Derived.Test.YthjncgigdkdepaaDoorRows
import Derived.Test.YthjncgigdkdepaaDoorChecked
import Derived.Test.YthjncgigdkdepaaDoorPh
import Derived.Test.YthjncgigdkdepaaDoorTie
import Derived.Test.YthjncgigdkdepaaDoorCards
import Derived.SevenTiedAt
import Derived.WalkKit
import Derived.LaidMore
import Derived.ProofKit
import Derived.OpenShut
import Derived.ShutString
import Derived.ChangeOld
import Derived.Below
import Derived.SizedLaws
set_option maxRecDepth 100000
set_option linter.unusedVariables false
set_option linter.unusedSimpArgs false
namespace Go.Proofs.YthjncgigdkdepaaDoor
open Go.AE Go.ChangeShapes Go.WideShapes Go.ChangeAt Go.RowKit

theorem bitsTell_own : ownKnob Tryd.prog.godebug = none := by kernel_rfl
theorem bitsTell_laidOut : laidOutB Tryd.prog = true := by kernel_rfl
theorem bitsTell_lifted (os : Os) (started : os.Started) (H : Type) (enc : TypeId × Value → H) :
    ReturnsInHanded {} Tryd.checked os 8 .any (fun w args => (Rows.bitsTellSpec.pre enc Tryd.prog Tryd.f8 Rows.bitsTellRow.domain false w args ∧ laidMetH Tryd.prog Rows.bitsTellRow.laid w) ∧ sizedMet enc Tryd.prog Tryd.f8 (OpenSpec.ofChange Rows.bitsTellSpec) false w args) (Rows.bitsTellSpec.post enc Tryd.prog Tryd.f8 false true false false) := by
  refine returnsInHanded_of_change_and (C := Tryd.checked) (X := fun w _ => laidMetH Tryd.prog Rows.bitsTellRow.laid w) (fun _ _ _ hh h => h.of_heap hh) bitsTell_own started (by kernel_rfl) Tryd.func8
    (ChangeSpec.witness_shaped (enc := enc) (C := Tryd.checked) (os := os) (X := fun w _ => laidMetH Tryd.prog Rows.bitsTellRow.laid w) false (World.doorLaid Tryd.prog 400 os) #[.agg #[.int .i64 0, .slice none 0 0], .int .i64 0] 8 rfl (World.shaped_of_RefB (by kernel_rfl) (by kernel_rfl)) (by kernel_rfl) (by kernel_rfl) (by kernel_rfl) (laidMetH_of_parts3 (fuel := 8) (laidMet_of_run' 8 (by kernel_rfl) (by kernel_rfl)) (by kernel_rfl) (by kernel_rfl))) ?_
  intro W base args ds gs before hval0 hW hcnd hsz0 hL _
  have hval : ∀ (j : Nat) t v, Tryd.f8.params[j]? = some t → args[j]? = some v → Value.okWide Tryd.prog W .any base t v := hval0
  have hW' := hW
  obtain ⟨p, q, hA0, hV, rfl, hfz, hnd⟩ := hW
  have hA : DataW.TrodAll enc Tryd.prog W 0 (fun _ => true) true Tryd.f8.params.toList args.toList ds p := hA0
  obtain ⟨rfl, rfl⟩ := trodVars_none hV
  obtain ⟨xs, hx, hp⟩ := Trods_PT (f := 12) Tryd.f8.params.toList args.toList ds p (by kernel_rfl) (fun j t v ht hv => hval j t v (by simpa using ht) (by simpa using hv)) hA
  rw [Tryd.params8] at hp
  obtain ⟨a0, x0, w0, hp0, q0⟩ := PTs_cons (Rd.row rd27 Tryd.underlying27 rfl) hp
  obtain ⟨a1, x1, w1, hp1, q1⟩ := PTs_cons (Rd.one (fun x => .s (.int .i64 x)) (fun _ => rfl) rd3 Tryd.underlying3 rfl) hp0
  cases PTs_nil hp1
  obtain ⟨k, hk⟩ := bitsTell_w a0 a1 w0 w1
  have hx2 : RPs W No [.agg [.s (.int .i64 a0.N), slV (eI .u64) a0.Words], .s (.int .i64 a1)] args.toList := (q0 _ (q1 _ (Wks.refl _))) W No args.toList hx
  have hlaw := (riddlelaw01_BitsTell_ok hk).2 W No args.toList (fun _ h => h.elim) (seatGl hL) hx2
  rw [Array.toArray_toList] at hlaw
  have hA2 := hA
  rw [Tryd.params8] at hA2
  obtain ⟨v0, vs0, d0, ds0, p0, g0, _, rfl, _, _, r0⟩ := trodAll_cons hA2
  obtain ⟨v1, vs1, d1, ds1, p1, g1, _, rfl, _, _, r1⟩ := trodAll_cons r0
  obtain ⟨_, rfl, _⟩ := trodAll_nil r1
  refine hlaw.mono fun e W' ⟨v, he, bel, hv⟩ => ?_
  simp only [RP] at hv
  subst he hv
  exact ⟨_, rfl, _, _, _, [], _, [], hW', trodAll_mk1 (shut_bool Tryd.underlying4 _), Go.AE.Below.trods bitsTell_laidOut bel _ _ _ _ (by kernel_rfl) hA, rfl, bel.frame _, fun h => by cases h⟩
theorem bitsTell_over : Rows.bitsTellRow.holds Tryd.pinned (OpenSpec.ofChange Rows.bitsTellSpec) :=
  OpenClaim.holds_of_wide 8 Tryd.f8 rfl rfl rfl rfl rfl rfl rfl ⟨rfl, rfl, rfl, rfl, rfl⟩ rfl rfl rfl rfl rfl (by kernel_rfl) Tryd.func8 (by kernel_rfl)
    (of_decide_eq_true (by kernel_rfl)) (by unfold Func.isWrapper; first | (rw [if_pos (by decide +kernel)]; kernel_rfl) | (rw [if_neg (by decide +kernel)]; exact ⟨rfl, rfl⟩))
    (fun os started H enc _ => bitsTell_lifted os started H enc)
theorem bitsTell_holds : Rows.BitsTellSaid := bitsTell_over
theorem bitsTell_card : Rows.BitsTellCardSaid :=
  Claim7.holds_tied_plain_at .later [] [.data] true (true, "91d30c8b36ee5fa0e9257ec5364e6d0dd8476104cea232ad6d4fa295d40f76cb") false bitsTell_holds (fun _ h => by cases h) (by kernel_rfl) (fun _ h => by cases h) bitsTell_row_tie rfl ⟨rfl, rfl⟩ (by kernel_rfl) rfl
    (fun f fn hf hfn => by
      obtain rfl : f = 8 := Option.some.inj ((show Tryd.prog.funcNamed Rows.bitsTellRow.func = some 8 by kernel_rfl).symm.trans hf) |>.symm
      obtain rfl : fn = Tryd.f8 := (Option.some.inj (Tryd.func8.symm.trans hfn)).symm
      have hall : (Tryd.f8.params.toList.all fun t => !Tryd.prog.wantsStandIn t) = true := by kernel_rfl
      exact ⟨by kernel_rfl, fun j t ht => by
        have := List.all_eq_true.1 hall t (List.mem_of_getElem? (i := j) (by simpa using ht))
        have h2 : Tryd.prog.wantsStandIn t = false := by simpa using this
        exact h2⟩)
    (by kernel_rfl)
end Go.Proofs.YthjncgigdkdepaaDoor
