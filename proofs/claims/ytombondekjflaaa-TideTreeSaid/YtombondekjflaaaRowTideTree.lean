/- TideTree holds for every input: the law returns true and the input reads as it did. No conditions. -/
import Derived.Test.YtombondekjflaaaRows
import Derived.Test.YtombondekjflaaaChecked
import Derived.Test.YtombondekjflaaaGgR
import Derived.Test.YtombondekjflaaaPgD
import Derived.WalkKit
import Derived.ProofKit
import Derived.OpenShut
import Derived.ShutString
import Derived.ChangeOld
import Derived.Below
import Derived.SizedLaws
set_option maxRecDepth 100000
set_option linter.unusedVariables false
set_option linter.unusedSimpArgs false
namespace Go.Proofs.Ytombondekjflaaa
open Go.AE Go.ChangeShapes Go.WideShapes Go.ChangeAt Go.RowKit

theorem tideTree_own : ownKnob Try.prog.godebug = none := by kernel_rfl
theorem tideTree_laidOut : laidOutB Try.prog = true := by kernel_rfl
theorem tideTree_lifted (os : Os) (started : os.Started) (H : Type) (enc : TypeId × Value → H) :
    ReturnsInHanded {} Try.checked os 7 .any (Rows.tideTreeSpec.pre6 enc Try.prog Try.f7 Rows.tideTreeRow.domain false) (Rows.tideTreeSpec.post enc Try.prog Try.f7 false true false false) := by
  refine returnsInHanded_of_change_sized (C := Try.checked) tideTree_own started (by kernel_rfl) Try.func7
    (ChangeSpec.witness6 (enc := enc) (C := Try.checked) false ⟨#[], #[.agg #[.int .u64 0, .int .u64 0, .int .u64 0, .int .u64 0, .int .i64 0], .agg #[.slice none 0 0]], []⟩ 8 (by kernel_rfl) (by kernel_rfl) (by kernel_rfl) (by kernel_rfl)) ?_
  intro W base args ds gs before hval0 hW hcnd hsz0 _
  have hval : ∀ (j : Nat) t v, Try.f7.params[j]? = some t → args[j]? = some v → Value.okWide Try.prog W .any base t v := hval0
  have hW' := hW
  obtain ⟨p, q, hA0, hV, rfl, hfz, hnd⟩ := hW
  have hA : DataW.TrodAll enc Try.prog W 0 (fun _ => true) true Try.f7.params.toList args.toList ds p := hA0
  obtain ⟨rfl, rfl⟩ := trodVars_none hV
  obtain ⟨xs, hx, hp⟩ := Trods_PT (f := 12) Try.f7.params.toList args.toList ds p (by kernel_rfl) (fun j t v ht hv => hval j t v (by simpa using ht) (by simpa using hv)) hA
  rw [Try.params7] at hp
  obtain ⟨a0, x0, w0, hp0, q0⟩ := PTs_cons (Rd.row rd26 Try.underlying26 rfl) hp
  obtain ⟨a1, x1, w1, hp1, q1⟩ := PTs_cons (Rd.row rd47 Try.underlying47 rfl) hp0
  cases PTs_nil hp1
  obtain ⟨k, hk⟩ := tideTree_w a0 a1 w0 w1
  have hx2 : RPs W No [.agg [.s (.int .u64 a0.Class.a0), .s (.int .u64 a0.Class.a1), .s (.int .u64 a0.Class.a2), .s (.int .u64 a0.Class.a3), .s (.int .i64 a0.Least)], .agg [slV e_api_Node a1.Nodes]] args.toList := (q0 _ (q1 _ (Wks.refl _))) W No args.toList hx
  have hlaw := (riddlelaw14_TideTree_ok hk).2 W No args.toList (fun _ h => h.elim) hx2
  rw [Array.toArray_toList] at hlaw
  have hA2 := hA
  rw [Try.params7] at hA2
  obtain ⟨v0, vs0, d0, ds0, p0, g0, _, rfl, _, _, r0⟩ := trodAll_cons hA2
  obtain ⟨v1, vs1, d1, ds1, p1, g1, _, rfl, _, _, r1⟩ := trodAll_cons r0
  obtain ⟨_, rfl, _⟩ := trodAll_nil r1
  refine hlaw.mono fun e W' ⟨v, he, bel, hv⟩ => ?_
  simp only [RP] at hv
  subst he hv
  exact ⟨_, rfl, _, _, _, [], _, [], hW', trodAll_mk1 (shut_bool Try.underlying4 _), Go.AE.Below.trods tideTree_laidOut bel _ _ _ _ (by kernel_rfl) hA, rfl, bel.frame _, fun h => by cases h⟩
theorem tideTree_over : Rows.tideTreeRow.holds Try.pinned (OpenSpec.ofChange Rows.tideTreeSpec) :=
  OpenClaim.holds_of_wide 7 Try.f7 rfl rfl rfl rfl rfl rfl rfl ⟨rfl, rfl, rfl, rfl, rfl⟩ rfl rfl rfl rfl rfl (by kernel_rfl) Try.func7 (by kernel_rfl)
    (of_decide_eq_true (by kernel_rfl)) (by unfold Func.isWrapper; first | (rw [if_pos (by decide +kernel)]; kernel_rfl) | (rw [if_neg (by decide +kernel)]; exact ⟨rfl, rfl⟩))
    (fun os started H enc _ => tideTree_lifted os started H enc)
theorem tideTree_holds : Rows.TideTreeSaid := tideTree_over
end Go.Proofs.Ytombondekjflaaa
