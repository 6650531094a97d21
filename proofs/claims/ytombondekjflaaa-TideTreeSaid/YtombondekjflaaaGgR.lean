/- YtombondekjflaaaGgR: a part of the proof; see the last text for what is proved. -/
import Derived.Test.YtombondekjflaaaGg
import Derived.Test.YtombondekjflaaaAgArg
set_option maxRecDepth 100000
set_option linter.unusedVariables false
set_option linter.unusedSimpArgs false
namespace Go.Proofs.Ytombondekjflaaa
open Go.AE
def wf22 : Int → Prop := wfI .u64
theorem rd22 : Rd Try.prog 22 (eI .u64) wf22 := Rd.int Try.underlying22
def wf24 : (Arr4 Int) → Prop := wf4 wf22
theorem rd24 : Rd Try.prog 24 (e4 (eI .u64)) wf24 := Rd.arr4 Try.underlying24 rd22
def wf3 : Int → Prop := wfI .i64
theorem rd3 : Rd Try.prog 3 (eI .i64) wf3 := Rd.int Try.underlying3
def wf26 : api_Tide → Prop := fun x => wf24 x.Class ∧ wf3 x.Least
theorem rd26 : Rd Try.prog 26 e_api_Tide wf26 := Rd.struct Try.underlying26 rfl (RdPs.cons rd24 (RdPs.cons rd3 RdPs.nil)) (fun y => (⟨y.1, y.2.1⟩ : api_Tide)) (fun y => rfl) (fun y h => ⟨h.1, h.2.1⟩)
def wf28 : api_TideState → Prop := fun x => wf3 x.Age
theorem rd28 : Rd Try.prog 28 e_api_TideState wf28 := Rd.struct Try.underlying28 rfl (RdPs.cons rd3 RdPs.nil) (fun y => (⟨y.1⟩ : api_TideState)) (fun y => rfl) (fun y h => h.1)
def wf5 : Int → Prop := wfI .u8
theorem rd5 : Rd Try.prog 5 (eI .u8) wf5 := Rd.int Try.underlying5
def wf2 : Int → Prop := wfI .i64
theorem rd2 : Rd Try.prog 2 (eI .i64) wf2 := Rd.int Try.underlying2
def wf38 : (List Int) → Prop := wfL wf5
theorem rd38 : Rd Try.prog 38 (eSl (eI .u8)) wf38 := Rd.sl Try.underlying38 rd5
def wf39 : (List Int) → Prop := wfL wf3
theorem rd39 : Rd Try.prog 39 (eSl (eI .i64)) wf39 := Rd.sl Try.underlying39 rd3
def wf4 : Bool → Prop := fun _ => True
theorem rd4 : Rd Try.prog 4 eB wf4 := Rd.bool Try.underlying4
def wf70 : api_Node → Prop := fun x => wf3 x.Kind ∧ wf24 x.Class ∧ wf3 x.A ∧ wf3 x.B ∧ wf3 x.Least ∧ wf3 x.Most ∧ wf4 x.Lazy
theorem rd70 : Rd Try.prog 70 e_api_Node wf70 := Rd.struct Try.underlying70 rfl (RdPs.cons rd3 (RdPs.cons rd24 (RdPs.cons rd3 (RdPs.cons rd3 (RdPs.cons rd3 (RdPs.cons rd3 (RdPs.cons rd4 RdPs.nil))))))) (fun y => (⟨y.1, y.2.1, y.2.2.1, y.2.2.2.1, y.2.2.2.2.1, y.2.2.2.2.2.1, y.2.2.2.2.2.2.1⟩ : api_Node)) (fun y => rfl) (fun y h => ⟨h.1, h.2.1, h.2.2.1, h.2.2.2.1, h.2.2.2.2.1, h.2.2.2.2.2.1, h.2.2.2.2.2.2.1⟩)
def wf45 : (List api_Node) → Prop := wfL wf70
theorem rd45 : Rd Try.prog 45 (eSl e_api_Node) wf45 := Rd.sl Try.underlying45 rd70
def wf47 : api_Tree → Prop := fun x => wf45 x.Nodes
theorem rd47 : Rd Try.prog 47 e_api_Tree wf47 := Rd.struct Try.underlying47 rfl (RdPs.cons rd45 RdPs.nil) (fun y => (⟨y.1⟩ : api_Tree)) (fun y => rfl) (fun y h => h.1)
end Go.Proofs.Ytombondekjflaaa
