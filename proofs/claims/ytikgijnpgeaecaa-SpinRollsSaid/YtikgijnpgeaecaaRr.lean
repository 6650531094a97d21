/- The Go law riddlelaw16.SpinRolls answers true of every input, and its arguments read behind the call as they read before. No conditions. -/
import Derived.Test.YtikgijnpgeaecaaRows
import Derived.Test.YtikgijnpgeaecaaChecked
import Derived.Test.YtikgijnpgeaecaaPn
import Derived.WalkKit
import Derived.ProofKit
import Derived.OpenShut
import Derived.ShutString
import Derived.ChangeOld
import Derived.Below
import Derived.SizedLaws
set_option maxRecDepth 100000
set_option linter.unusedVariables false
set_option linter.unusedSimpArgs false
namespace Go.Proofs.Ytikgijnpgeaecaa
open Go.AE Go.ChangeShapes Go.WideShapes Go.ChangeAt Go.RowKit

theorem spinRolls_own : ownKnob Try.prog.godebug = none := by kernel_rfl
theorem spinRolls_laidOut : laidOutB Try.prog = true := by kernel_rfl
theorem spinRolls_lifted (os : Os) (started : os.Started) (H : Type) (enc : TypeId × Value → H) :
    ReturnsInHanded {} Try.checked os 5 .any (Rows.spinRollsSpec.pre6 enc Try.prog Try.f5 Rows.spinRollsRow.domain false) (Rows.spinRollsSpec.post enc Try.prog Try.f5 false true false false) := by
  refine returnsInHanded_of_change_sized (C := Try.checked) spinRolls_own started (by kernel_rfl) Try.func5
    (ChangeSpec.witness6 (enc := enc) (C := Try.checked) false ⟨#[], #[.slice none 0 0, .slice none 0 0], []⟩ 8 (by kernel_rfl) (by kernel_rfl) (by kernel_rfl) (by kernel_rfl)) ?_
  intro W base args ds gs before hval0 hW hcnd hsz0 _
  have hval : ∀ (j : Nat) t v, Try.f5.params[j]? = some t → args[j]? = some v → Value.okWide Try.prog W .any base t v := hval0
  have hW' := hW
  obtain ⟨p, q, hA0, hV, rfl, hfz, hnd⟩ := hW
  have hA : DataW.TrodAll enc Try.prog W 0 (fun _ => true) true Try.f5.params.toList args.toList ds p := hA0
  obtain ⟨rfl, rfl⟩ := trodVars_none hV
  obtain ⟨xs, hx, hp⟩ := Trods_PT (f := 12) Try.f5.params.toList args.toList ds p (by kernel_rfl) (fun j t v ht hv => hval j t v (by simpa using ht) (by simpa using hv)) hA (wts_of hsz0 rfl)
  rw [Try.params5] at hp
  obtain ⟨a0, x0, w0, hp0, q0⟩ := PTs_cons (Rd.one (fun x => slV (eI .u8) x) (fun _ => rfl) rd22 Try.underlying22 rfl) hp
  obtain ⟨a1, x1, w1, hp1, q1⟩ := PTs_cons (Rd.one (fun x => slV (eI .u8) x) (fun _ => rfl) rd22 Try.underlying22 rfl) hp0
  cases PTs_nil hp1
  obtain ⟨k, hk⟩ := spinRolls_w a0 a1 w0 w1
  have hx2 : RPs W No [slV (eI .u8) a0, slV (eI .u8) a1] args.toList := (q0 _ (q1 _ (Wks.refl _))) W No args.toList hx
  have hlaw := (riddlelaw16_SpinRolls_ok hk).2 W No args.toList (fun _ h => h.elim) (fun _ _ _ h => by cases h) hx2
  rw [Array.toArray_toList] at hlaw
  have hA2 := hA
  rw [Try.params5] at hA2
  obtain ⟨v0, vs0, d0, ds0, p0, g0, _, rfl, _, _, r0⟩ := trodAll_cons hA2
  obtain ⟨v1, vs1, d1, ds1, p1, g1, _, rfl, _, _, r1⟩ := trodAll_cons r0
  obtain ⟨_, rfl, _⟩ := trodAll_nil r1
  refine hlaw.mono fun e W' ⟨v, he, bel, hv⟩ => ?_
  simp only [RP] at hv
  subst he hv
  exact ⟨_, rfl, _, _, _, [], _, [], hW', trodAll_mk1 (shut_bool Try.underlying4 _), Go.AE.Below.trods spinRolls_laidOut bel _ _ _ _ (by kernel_rfl) hA, rfl, bel.frame _, fun h => by cases h⟩
theorem spinRolls_over : Rows.spinRollsRow.holds Try.pinned (OpenSpec.ofChange Rows.spinRollsSpec) :=
  OpenClaim.holds_of_wide 5 Try.f5 rfl rfl rfl rfl rfl rfl rfl ⟨rfl, rfl, rfl, rfl, rfl⟩ rfl rfl rfl rfl rfl (by kernel_rfl) Try.func5 (by kernel_rfl)
    (of_decide_eq_true (by kernel_rfl)) (by unfold Func.isWrapper; first | (rw [if_pos (by decide +kernel)]; kernel_rfl) | (rw [if_neg (by decide +kernel)]; exact ⟨rfl, rfl⟩))
    (fun os started H enc _ => spinRolls_lifted os started H enc)
theorem spinRolls_holds : Rows.SpinRollsSaid := spinRolls_over
end Go.Proofs.Ytikgijnpgeaecaa
