/- The Go law riddlelaw16.SpinTells answers true of every input, and its arguments read behind the call as they read before. No conditions. -/
import Derived.Test.YtikgijnpgeaecaaRows
import Derived.Test.YtikgijnpgeaecaaChecked
import Derived.Test.YtikgijnpgeaecaaPn
import Derived.WalkKit
import Derived.ProofKit
import Derived.OpenShut
import Derived.ShutString
import Derived.ChangeOld
import Derived.Below
import Derived.SizedLaws
set_option maxRecDepth 100000
set_option linter.unusedVariables false
set_option linter.unusedSimpArgs false
namespace Go.Proofs.Ytikgijnpgeaecaa
open Go.AE Go.ChangeShapes Go.WideShapes Go.ChangeAt Go.RowKit

theorem spinTells_own : ownKnob Try.prog.godebug = none := by kernel_rfl
theorem spinTells_laidOut : laidOutB Try.prog = true := by kernel_rfl
theorem spinTells_lifted (os : Os) (started : os.Started) (H : Type) (enc : TypeId × Value → H) :
    ReturnsInHanded {} Try.checked os 7 .any (Rows.spinTellsSpec.pre6 enc Try.prog Try.f7 Rows.spinTellsRow.domain false) (Rows.spinTellsSpec.post enc Try.prog Try.f7 false true false false) := by
  refine returnsInHanded_of_change_sized (C := Try.checked) spinTells_own started (by kernel_rfl) Try.func7
    (ChangeSpec.witness6 (enc := enc) (C := Try.checked) false ⟨#[], #[.slice none 0 0, .int .i64 0, .int .u8 0], []⟩ 8 (by kernel_rfl) (by kernel_rfl) (by kernel_rfl) (by kernel_rfl)) ?_
  intro W base args ds gs before hval0 hW hcnd hsz0 _
  have hval : ∀ (j : Nat) t v, Try.f7.params[j]? = some t → args[j]? = some v → Value.okWide Try.prog W .any base t v := hval0
  have hW' := hW
  obtain ⟨p, q, hA0, hV, rfl, hfz, hnd⟩ := hW
  have hA : DataW.TrodAll enc Try.prog W 0 (fun _ => true) true Try.f7.params.toList args.toList ds p := hA0
  obtain ⟨rfl, rfl⟩ := trodVars_none hV
  obtain ⟨xs, hx, hp⟩ := Trods_PT (f := 12) Try.f7.params.toList args.toList ds p (by kernel_rfl) (fun j t v ht hv => hval j t v (by simpa using ht) (by simpa using hv)) hA (wts_of hsz0 rfl)
  rw [Try.params7] at hp
  obtain ⟨a0, x0, w0, hp0, q0⟩ := PTs_cons (Rd.one (fun x => slV (eI .u8) x) (fun _ => rfl) rd22 Try.underlying22 rfl) hp
  obtain ⟨a1, x1, w1, hp1, q1⟩ := PTs_cons (Rd.one (fun x => .s (.int .i64 x)) (fun _ => rfl) rd3 Try.underlying3 rfl) hp0
  obtain ⟨a2, x2, w2, hp2, q2⟩ := PTs_cons (Rd.one (fun x => .s (.int .u8 x)) (fun _ => rfl) rd5 Try.underlying5 rfl) hp1
  cases PTs_nil hp2
  obtain ⟨k, hk⟩ := spinTells_w a0 a1 a2 w0 w1 w2
  have hx2 : RPs W No [slV (eI .u8) a0, .s (.int .i64 a1), .s (.int .u8 a2)] args.toList := (q0 _ (q1 _ (q2 _ (Wks.refl _)))) W No args.toList hx
  have hlaw := (riddlelaw16_SpinTells_ok hk).2 W No args.toList (fun _ h => h.elim) (fun _ _ _ h => by cases h) hx2
  rw [Array.toArray_toList] at hlaw
  have hA2 := hA
  rw [Try.params7] at hA2
  obtain ⟨v0, vs0, d0, ds0, p0, g0, _, rfl, _, _, r0⟩ := trodAll_cons hA2
  obtain ⟨v1, vs1, d1, ds1, p1, g1, _, rfl, _, _, r1⟩ := trodAll_cons r0
  obtain ⟨v2, vs2, d2, ds2, p2, g2, _, rfl, _, _, r2⟩ := trodAll_cons r1
  obtain ⟨_, rfl, _⟩ := trodAll_nil r2
  refine hlaw.mono fun e W' ⟨v, he, bel, hv⟩ => ?_
  simp only [RP] at hv
  subst he hv
  exact ⟨_, rfl, _, _, _, [], _, [], hW', trodAll_mk1 (shut_bool Try.underlying4 _), Go.AE.Below.trods spinTells_laidOut bel _ _ _ _ (by kernel_rfl) hA, rfl, bel.frame _, fun h => by cases h⟩
theorem spinTells_over : Rows.spinTellsRow.holds Try.pinned (OpenSpec.ofChange Rows.spinTellsSpec) :=
  OpenClaim.holds_of_wide 7 Try.f7 rfl rfl rfl rfl rfl rfl rfl ⟨rfl, rfl, rfl, rfl, rfl⟩ rfl rfl rfl rfl rfl (by kernel_rfl) Try.func7 (by kernel_rfl)
    (of_decide_eq_true (by kernel_rfl)) (by unfold Func.isWrapper; first | (rw [if_pos (by decide +kernel)]; kernel_rfl) | (rw [if_neg (by decide +kernel)]; exact ⟨rfl, rfl⟩))
    (fun os started H enc _ => spinTells_lifted os started H enc)
theorem spinTells_holds : Rows.SpinTellsSaid := spinTells_over
end Go.Proofs.Ytikgijnpgeaecaa
