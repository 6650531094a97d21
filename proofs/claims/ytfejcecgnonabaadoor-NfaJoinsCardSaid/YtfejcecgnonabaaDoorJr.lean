/- YtfejcecgnonabaaDoorJr: a part of the proof; see the last text for what is proved. -/
import Derived.Test.YtfejcecgnonabaaDoorJc
import Derived.Test.YtfejcecgnonabaaDoorAbArg
set_option maxRecDepth 100000
set_option linter.unusedVariables false
set_option linter.unusedSimpArgs false
namespace Go.Proofs.YtfejcecgnonabaaDoor
open Go.AE
def wf69 : Int → Prop := wfI .u64
theorem rd69 : Rd Tryd.prog 69 (eI .u64) wf69 := Rd.int Tryd.underlying69
def wf71 : (Arr4 Int) → Prop := wf4 wf69
theorem rd71 : Rd Tryd.prog 71 (e4 (eI .u64)) wf71 := Rd.arr4 Tryd.underlying71 rd69
def wf22 : (List (Arr4 Int)) → Prop := wfL wf71
theorem rd22 : Rd Tryd.prog 22 (eSl (e4 (eI .u64))) wf22 := Rd.sl Tryd.underlying22 rd71
def wf3 : Int → Prop := wfI .i64
theorem rd3 : Rd Tryd.prog 3 (eI .i64) wf3 := Rd.int Tryd.underlying3
def wf23 : (List Int) → Prop := wfL wf69
theorem rd23 : Rd Tryd.prog 23 (eSl (eI .u64)) wf23 := Rd.sl Tryd.underlying23 rd69
def wf25 : api_Bits → Prop := fun x => wf3 x.N ∧ wf23 x.Words
theorem rd25 : Rd Tryd.prog 25 e_api_Bits wf25 := Rd.struct Tryd.underlying25 rfl (RdPs.cons rd3 (RdPs.cons rd23 RdPs.nil)) (fun y => (⟨y.1, y.2.1⟩ : api_Bits)) (fun y => rfl) (fun y h => ⟨h.1, h.2.1⟩)
def wf26 : (List api_Bits) → Prop := wfL wf25
theorem rd26 : Rd Tryd.prog 26 (eSl e_api_Bits) wf26 := Rd.sl Tryd.underlying26 rd25
def wf4 : Bool → Prop := fun _ => True
theorem rd4 : Rd Tryd.prog 4 eB wf4 := Rd.bool Tryd.underlying4
def wf28 : api_Nfa → Prop := fun x => wf22 x.Classes ∧ wf25 x.First ∧ wf25 x.Last ∧ wf26 x.Follow ∧ wf4 x.Null
theorem rd28 : Rd Tryd.prog 28 e_api_Nfa wf28 := Rd.struct Tryd.underlying28 rfl (RdPs.cons rd22 (RdPs.cons rd25 (RdPs.cons rd25 (RdPs.cons rd26 (RdPs.cons rd4 RdPs.nil))))) (fun y => (⟨y.1, y.2.1, y.2.2.1, y.2.2.2.1, y.2.2.2.2.1⟩ : api_Nfa)) (fun y => rfl) (fun y h => ⟨h.1, h.2.1, h.2.2.1, h.2.2.2.1, h.2.2.2.2.1⟩)
def wf5 : Int → Prop := wfI .u8
theorem rd5 : Rd Tryd.prog 5 (eI .u8) wf5 := Rd.int Tryd.underlying5
def wf29 : (List Int) → Prop := wfL wf5
theorem rd29 : Rd Tryd.prog 29 (eSl (eI .u8)) wf29 := Rd.sl Tryd.underlying29 rd5
def wf31 : riddlelaw11_Case → Prop := fun x => wf28 x.Nfa ∧ wf25 x.State ∧ wf4 x.Begin ∧ wf29 x.W ∧ wf3 x.From ∧ wf4 x.Hat ∧ wf4 x.Multi
theorem rd31 : Rd Tryd.prog 31 e_riddlelaw11_Case wf31 := Rd.struct Tryd.underlying31 rfl (RdPs.cons rd28 (RdPs.cons rd25 (RdPs.cons rd4 (RdPs.cons rd29 (RdPs.cons rd3 (RdPs.cons rd4 (RdPs.cons rd4 RdPs.nil))))))) (fun y => (⟨y.1, y.2.1, y.2.2.1, y.2.2.2.1, y.2.2.2.2.1, y.2.2.2.2.2.1, y.2.2.2.2.2.2.1⟩ : riddlelaw11_Case)) (fun y => rfl) (fun y h => ⟨h.1, h.2.1, h.2.2.1, h.2.2.2.1, h.2.2.2.2.1, h.2.2.2.2.2.1, h.2.2.2.2.2.2.1⟩)
end Go.Proofs.YtfejcecgnonabaaDoor
