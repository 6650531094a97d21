/- The Go law riddlelaw14.TideParts answers true of every input, and its arguments read behind the call as they read before. No conditions. -/
import Derived.Test.YtombondekjflaaaRows
import Derived.Test.YtombondekjflaaaChecked
import Derived.Test.YtombondekjflaaaHr
import Derived.Test.YtombondekjflaaaPg
import Derived.WalkKit
import Derived.ProofKit
import Derived.OpenShut
import Derived.ShutString
import Derived.ChangeOld
import Derived.Below
import Derived.SizedLaws
set_option maxRecDepth 100000
set_option linter.unusedVariables false
set_option linter.unusedSimpArgs false
namespace Go.Proofs.Ytombondekjflaaa
open Go.AE Go.ChangeShapes Go.WideShapes Go.ChangeAt Go.RowKit

theorem tideParts_own : ownKnob Try.prog.godebug = none := by kernel_rfl
theorem tideParts_laidOut : laidOutB Try.prog = true := by kernel_rfl
theorem tideParts_lifted (os : Os) (started : os.Started) (H : Type) (enc : TypeId × Value → H) :
    ReturnsInHanded {} Try.checked os 8 .any (Rows.tidePartsSpec.pre6 enc Try.prog Try.f8 Rows.tidePartsRow.domain false) (Rows.tidePartsSpec.post enc Try.prog Try.f8 false true false false) := by
  refine returnsInHanded_of_change_sized (C := Try.checked) tideParts_own started (by kernel_rfl) Try.func8
    (ChangeSpec.witness6 (enc := enc) (C := Try.checked) false ⟨#[], #[.agg #[.int .u64 0, .int .u64 0, .int .u64 0, .int .u64 0, .int .i64 0], .agg #[.int .i64 0], .slice none 0 0, .slice none 0 0, .slice none 0 0], []⟩ 8 (by kernel_rfl) (by kernel_rfl) (by kernel_rfl) (by kernel_rfl)) ?_
  intro W base args ds gs before hval0 hW hcnd hsz0 _
  have hval : ∀ (j : Nat) t v, Try.f8.params[j]? = some t → args[j]? = some v → Value.okWide Try.prog W .any base t v := hval0
  have hW' := hW
  obtain ⟨p, q, hA0, hV, rfl, hfz, hnd⟩ := hW
  have hA : DataW.TrodAll enc Try.prog W 0 (fun _ => true) true Try.f8.params.toList args.toList ds p := hA0
  obtain ⟨rfl, rfl⟩ := trodVars_none hV
  obtain ⟨xs, hx, hp⟩ := Trods_PT (f := 12) Try.f8.params.toList args.toList ds p (by kernel_rfl) (fun j t v ht hv => hval j t v (by simpa using ht) (by simpa using hv)) hA (wts_of hsz0 rfl)
  rw [Try.params8] at hp
  obtain ⟨a0, x0, w0, hp0, q0⟩ := PTs_cons (Rd.row rd26 Try.underlying26 rfl) hp
  obtain ⟨a1, x1, w1, hp1, q1⟩ := PTs_cons (Rd.row rd28 Try.underlying28 rfl) hp0
  obtain ⟨a2, x2, w2, hp2, q2⟩ := PTs_cons (Rd.one (fun x => slV (eI .u8) x) (fun _ => rfl) rd38 Try.underlying38 rfl) hp1
  obtain ⟨a3, x3, w3, hp3, q3⟩ := PTs_cons (Rd.one (fun x => slV (eI .u8) x) (fun _ => rfl) rd38 Try.underlying38 rfl) hp2
  obtain ⟨a4, x4, w4, hp4, q4⟩ := PTs_cons (Rd.one (fun x => slV (eI .i64) x) (fun _ => rfl) rd39 Try.underlying39 rfl) hp3
  cases PTs_nil hp4
  obtain ⟨k, hk⟩ := tideParts_w a0 a1 a2 a3 a4 w0 w1 w2 w3 w4
  have hx2 : RPs W No [.agg [.s (.int .u64 a0.Class.a0), .s (.int .u64 a0.Class.a1), .s (.int .u64 a0.Class.a2), .s (.int .u64 a0.Class.a3), .s (.int .i64 a0.Least)], .agg [.s (.int .i64 a1.Age)], slV (eI .u8) a2, slV (eI .u8) a3, slV (eI .i64) a4] args.toList := (q0 _ (q1 _ (q2 _ (q3 _ (q4 _ (Wks.refl _)))))) W No args.toList hx
  have hlaw := (riddlelaw14_TideParts_ok hk).2 W No args.toList (fun _ h => h.elim) (fun _ _ _ h => by cases h) hx2
  rw [Array.toArray_toList] at hlaw
  have hA2 := hA
  rw [Try.params8] at hA2
  obtain ⟨v0, vs0, d0, ds0, p0, g0, _, rfl, _, _, r0⟩ := trodAll_cons hA2
  obtain ⟨v1, vs1, d1, ds1, p1, g1, _, rfl, _, _, r1⟩ := trodAll_cons r0
  obtain ⟨v2, vs2, d2, ds2, p2, g2, _, rfl, _, _, r2⟩ := trodAll_cons r1
  obtain ⟨v3, vs3, d3, ds3, p3, g3, _, rfl, _, _, r3⟩ := trodAll_cons r2
  obtain ⟨v4, vs4, d4, ds4, p4, g4, _, rfl, _, _, r4⟩ := trodAll_cons r3
  obtain ⟨_, rfl, _⟩ := trodAll_nil r4
  refine hlaw.mono fun e W' ⟨v, he, bel, hv⟩ => ?_
  simp only [RP] at hv
  subst he hv
  exact ⟨_, rfl, _, _, _, [], _, [], hW', trodAll_mk1 (shut_bool Try.underlying4 _), Go.AE.Below.trods tideParts_laidOut bel _ _ _ _ (by kernel_rfl) hA, rfl, bel.frame _, fun h => by cases h⟩
theorem tideParts_over : Rows.tidePartsRow.holds Try.pinned (OpenSpec.ofChange Rows.tidePartsSpec) :=
  OpenClaim.holds_of_wide 8 Try.f8 rfl rfl rfl rfl rfl rfl rfl ⟨rfl, rfl, rfl, rfl, rfl⟩ rfl rfl rfl rfl rfl (by kernel_rfl) Try.func8 (by kernel_rfl)
    (of_decide_eq_true (by kernel_rfl)) (by unfold Func.isWrapper; first | (rw [if_pos (by decide +kernel)]; kernel_rfl) | (rw [if_neg (by decide +kernel)]; exact ⟨rfl, rfl⟩))
    (fun os started H enc _ => tideParts_lifted os started H enc)
theorem tideParts_holds : Rows.TidePartsSaid := tideParts_over
end Go.Proofs.Ytombondekjflaaa
