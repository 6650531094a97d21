/- The law TideSteps of layer 14 answers true at every input, and its arguments read afterwards as they read before. Conditions: those of its row, and no others. -/
import Derived.Test.YtombondekjflaaaRows
import Derived.Test.YtombondekjflaaaChecked
import Derived.Test.YtombondekjflaaaTide10
import Derived.WalkKit
import Derived.ProofKit
import Derived.OpenShut
import Derived.ShutString
import Derived.ChangeOld
import Derived.Below
import Derived.SizedLaws
set_option linter.unusedSimpArgs false
set_option linter.unusedVariables false
namespace Go.Proofs.Ytombondekjflaaa
open Go.AE Go.ChangeShapes Go.WideShapes Go.ChangeAt Go.RowKit

theorem own : ownKnob Try.prog.godebug = none := by kernel_rfl
theorem laidOut : laidOutB Try.prog = true := by kernel_rfl

theorem PTs3 {xs : List PV} (h : PTs Try.prog 8 [26, 28, 5] xs) : ∃ a b c d l s x, xs = [tideV a b c d l, ageV s, .s (.int .u8 x)] ∧ U64 a ∧ U64 b ∧ U64 c ∧ U64 d ∧ 0 ≤ x ∧ x < 256 := by
  simp only [PTs, PT, CT, Parts, Try.underlying26, Try.underlying28, Try.underlying5, Try.underlying24, Try.underlying22, Try.underlying3, List.map_cons, List.map_nil, List.replicate_succ, List.replicate_zero] at h
  obtain ⟨_, _, rfl, ⟨_, rfl, _, _, rfl, ⟨_, _, rfl, ⟨a, rfl, ha⟩, _, _, rfl, ⟨b, rfl, hb⟩, _, _, rfl, ⟨c, rfl, hc⟩, _, _, rfl, ⟨d, rfl, hd⟩, rfl⟩, _, _, rfl, ⟨l, rfl, hl⟩, rfl⟩, _, _, rfl, ⟨_, rfl, _, _, rfl, ⟨s, rfl, hs⟩, rfl⟩, _, _, rfl, ⟨x, hx, hxw⟩, rfl⟩ := h
  simp only [List.cons.injEq, and_true] at hx
  subst hx
  have u : ∀ n : Int, (Lit.int .u64 n).wf = true → U64 n := fun n hn => by
    simp [Lit.wf, IntKind.min, IntKind.max, IntKind.signed, IntKind.bits] at hn
    exact ⟨by omega, by omega⟩
  simp [Lit.wf, IntKind.min, IntKind.max, IntKind.signed, IntKind.bits] at hxw
  exact ⟨a, b, c, d, l, s, x, rfl, u a ha, u b hb, u c hc, u d hd, by omega, by omega⟩

set_option maxRecDepth 100000 in
theorem tideSteps_lifted (os : Os) (started : os.Started) (H : Type) (enc : TypeId × Value → H) :
    ReturnsInHanded {} Try.checked os 3 .any (Rows.tideStepsSpec.pre6 enc Try.prog Try.f3 Rows.tideStepsRow.domain false) (Rows.tideStepsSpec.post enc Try.prog Try.f3 false true false false) := by
  refine returnsInHanded_of_change_sized (C := Try.checked) own started (by kernel_rfl) Try.func3
    (ChangeSpec.witness6 (enc := enc) (C := Try.checked) false ⟨#[], #[.agg #[.int .u64 0, .int .u64 0, .int .u64 0, .int .u64 0, .int .i64 0], .agg #[.int .i64 0], .int .u8 0], []⟩ 8 (by kernel_rfl) (by kernel_rfl) (by kernel_rfl) (by kernel_rfl)) ?_
  intro W base args ds gs before hval0 hW hcnd hsz0 _
  have hval : ∀ (j : Nat) t v, Try.f3.params[j]? = some t → args[j]? = some v → Value.okWide Try.prog W .any base t v := hval0
  have hW' := hW
  obtain ⟨p, q, hA0, hV, rfl, hfz, hnd⟩ := hW
  have hA : DataW.TrodAll enc Try.prog W 0 (fun _ => true) true Try.f3.params.toList args.toList ds p := hA0
  obtain ⟨rfl, rfl⟩ := trodVars_none hV
  obtain ⟨xs, hx, hp⟩ := Trods_PT (f := 8) Try.f3.params.toList args.toList ds p (by kernel_rfl) (fun j t v ht hv => hval j t v (by simpa using ht) (by simpa using hv)) hA
  rw [Try.params3] at hp
  obtain ⟨a, b, c, d, l, s, x, rfl, ha, hb, hc, hd, h0, h1⟩ := PTs3 hp
  have hlaw := (f3_ans a b c d l s x ha hb hc hd h0 h1).2 W No args.toList (fun _ h => h.elim) hx
  rw [Array.toArray_toList] at hlaw
  have hA2 := hA
  rw [Try.params3] at hA2
  obtain ⟨v0, vs0, d0, ds0, p0, q0, _, rfl, _, _, r0⟩ := trodAll_cons hA2
  obtain ⟨v1, vs1, d1, ds1, p1, q1, _, rfl, _, _, r1⟩ := trodAll_cons r0
  obtain ⟨v2, vs2, d2, ds2, p2, q2, _, rfl, _, _, r2⟩ := trodAll_cons r1
  obtain ⟨_, rfl, _⟩ := trodAll_nil r2
  refine hlaw.mono fun e W' ⟨v, he, bel, hv⟩ => ?_
  simp only [RP] at hv
  subst he hv
  exact ⟨_, rfl, _, _, _, [], _, [], hW', trodAll_mk1 (shut_bool Try.underlying4 _), Go.AE.Below.trods laidOut bel _ _ _ _ (by kernel_rfl) hA, rfl, bel.frame _, fun h => by cases h⟩
theorem tideSteps_over : Rows.tideStepsRow.holds Try.pinned (OpenSpec.ofChange Rows.tideStepsSpec) :=
  OpenClaim.holds_of_wide 3 Try.f3 rfl rfl rfl rfl rfl rfl rfl ⟨rfl, rfl, rfl, rfl, rfl⟩ rfl rfl rfl rfl rfl (by kernel_rfl) Try.func3 (by kernel_rfl)
    (of_decide_eq_true (by kernel_rfl)) (by unfold Func.isWrapper; first | (rw [if_pos (by decide +kernel)]; kernel_rfl) | (rw [if_neg (by decide +kernel)]; exact ⟨rfl, rfl⟩))
    (fun os started H enc _ => tideSteps_lifted os started H enc)
theorem tideSteps_holds : Rows.TideStepsSaid := tideSteps_over
end Go.Proofs.Ytombondekjflaaa
