/- YtombondekjflaaaPg: a part of the proof; see the last text for what is proved. -/
import Derived.Test.YtombondekjflaaaPa
import Derived.Test.YtombondekjflaaaHr
import Derived.Test.YtombondekjflaaaPe
set_option linter.unusedVariables false
namespace Go.Proofs.Ytombondekjflaaa
open Go.AE
theorem u64_wf {n : Int} (h : wfI .u64 n) : U64 n := by
  simp [wfI, Lit.wf, IntKind.min, IntKind.max, IntKind.signed, IntKind.bits] at h
  exact ⟨by omega, by omega⟩
theorem u8_wf {n : Int} (h : wfI .u8 n) : 0 ≤ n ∧ n < 256 := by
  simp [wfI, Lit.wf, IntKind.min, IntKind.max, IntKind.signed, IntKind.bits] at h
  exact ⟨by omega, by omega⟩
theorem cls_wf {t : api_Tide} (h : wf26 t) : U64c t.Class := ⟨u64_wf h.1.1, u64_wf h.1.2.1, u64_wf h.1.2.2.1, u64_wf h.1.2.2.2⟩
theorem tideSteps_w (t : api_Tide) (s : api_TideState) (x : Int) (ht : wf26 t) (hs : wf28 s) (hx : wf5 x) : ∃ k, riddlelaw14_TideSteps k t s x = some true := tideSteps t s x (cls_wf ht) (u8_wf hx).1 (u8_wf hx).2
theorem tideRuns_w (t : api_Tide) (s : api_TideState) (w tr : List Int) (ht : wf26 t) (hs : wf28 s) (hw : wf38 w) (htr : wf39 tr) : ∃ k, riddlelaw14_TideRuns k t s w tr = some true := tideRuns t s w tr (cls_wf ht) (fun x hx => u8_wf (hw.2 x hx))
theorem tideSmall_w (t : api_Tide) (s : api_TideState) (w tr : List Int) (ht : wf26 t) (hs : wf28 s) (hw : wf38 w) (htr : wf39 tr) : ∃ k, riddlelaw14_TideSmall k t s w tr = some true := tideSmall t s w tr (cls_wf ht) (fun x hx => u8_wf (hw.2 x hx))
end Go.Proofs.Ytombondekjflaaa
set_option linter.unusedVariables false
namespace Go.Proofs.Ytombondekjflaaa
open Go.AE
theorem tideParts_w (t : api_Tide) (s : api_TideState) (v w tr : List Int) (ht : wf26 t) (hs : wf28 s) (hv : wf38 v) (hw : wf38 w) (htr : wf39 tr) : ∃ k, riddlelaw14_TideParts k t s v w tr = some true := tideParts t s v w tr (cls_wf ht) (fun x hx => u8_wf (hv.2 x hx)) (fun x hx => u8_wf (hw.2 x hx))
end Go.Proofs.Ytombondekjflaaa
