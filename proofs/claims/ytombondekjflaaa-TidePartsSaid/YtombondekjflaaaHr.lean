/- YtombondekjflaaaHr: a part of the proof; see the last text for what is proved. -/
import Derived.Test.YtombondekjflaaaHa
import Derived.Test.YtombondekjflaaaAhArg
set_option maxRecDepth 100000
set_option linter.unusedVariables false
set_option linter.unusedSimpArgs false
namespace Go.Proofs.Ytombondekjflaaa
open Go.AE
def wf22 : Int → Prop := wfI .u64
theorem rd22 : Rd Try.prog 22 (eI .u64) wf22 := Rd.int Try.underlying22
def wf24 : (Arr4 Int) → Prop := wf4 wf22
theorem rd24 : Rd Try.prog 24 (e4 (eI .u64)) wf24 := Rd.arr4 Try.underlying24 rd22
def wf3 : Int → Prop := wfI .i64
theorem rd3 : Rd Try.prog 3 (eI .i64) wf3 := Rd.int Try.underlying3
def wf26 : api_Tide → Prop := fun x => wf24 x.Class ∧ wf3 x.Least
theorem rd26 : Rd Try.prog 26 e_api_Tide wf26 := Rd.struct Try.underlying26 rfl (RdPs.cons rd24 (RdPs.cons rd3 RdPs.nil)) (fun y => (⟨y.1, y.2.1⟩ : api_Tide)) (fun y => rfl) (fun y h => ⟨h.1, h.2.1⟩)
def wf28 : api_TideState → Prop := fun x => wf3 x.Age
theorem rd28 : Rd Try.prog 28 e_api_TideState wf28 := Rd.struct Try.underlying28 rfl (RdPs.cons rd3 RdPs.nil) (fun y => (⟨y.1⟩ : api_TideState)) (fun y => rfl) (fun y h => h.1)
def wf5 : Int → Prop := wfI .u8
theorem rd5 : Rd Try.prog 5 (eI .u8) wf5 := Rd.int Try.underlying5
def wf38 : (List Int) → Prop := wfL wf5
theorem rd38 : Rd Try.prog 38 (eSl (eI .u8)) wf38 := Rd.sl Try.underlying38 rd5
def wf39 : (List Int) → Prop := wfL wf3
theorem rd39 : Rd Try.prog 39 (eSl (eI .i64)) wf39 := Rd.sl Try.underlying39 rd3
end Go.Proofs.Ytombondekjflaaa
