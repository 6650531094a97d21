/- YthjncgigdkdepaaDoorRd: a part of the proof; see the last text for what is proved. -/
import Derived.Test.YthjncgigdkdepaaDoorGb
import Derived.Test.YthjncgigdkdepaaDoorAaArg
set_option maxRecDepth 100000
set_option linter.unusedVariables false
set_option linter.unusedSimpArgs false
namespace Go.Proofs.YthjncgigdkdepaaDoor
open Go.AE
def wf5 : Int → Prop := wfI .u8
theorem rd5 : Rd Tryd.prog 5 (eI .u8) wf5 := Rd.int Tryd.underlying5
def wf3 : Int → Prop := wfI .i64
theorem rd3 : Rd Tryd.prog 3 (eI .i64) wf3 := Rd.int Tryd.underlying3
def wf22 : (List Int) → Prop := wfL wf3
theorem rd22 : Rd Tryd.prog 22 (eSl (eI .i64)) wf22 := Rd.sl Tryd.underlying22 rd3
def wf23 : Int → Prop := wfI .i8
theorem rd23 : Rd Tryd.prog 23 (eI .i8) wf23 := Rd.int Tryd.underlying23
def wf51 : Int → Prop := wfI .u64
theorem rd51 : Rd Tryd.prog 51 (eI .u64) wf51 := Rd.int Tryd.underlying51
def wf25 : (List Int) → Prop := wfL wf51
theorem rd25 : Rd Tryd.prog 25 (eSl (eI .u64)) wf25 := Rd.sl Tryd.underlying25 rd51
def wf27 : api_Bits → Prop := fun x => wf3 x.N ∧ wf25 x.Words
theorem rd27 : Rd Tryd.prog 27 e_api_Bits wf27 := Rd.struct Tryd.underlying27 rfl (RdPs.cons rd3 (RdPs.cons rd25 RdPs.nil)) (fun y => (⟨y.1, y.2.1⟩ : api_Bits)) (fun y => rfl) (fun y h => ⟨h.1, h.2.1⟩)
def wf38 : riddlelaw01_Some → Prop := fun x => wf3 x.N ∧ wf22 x.L ∧ wf27 x.B ∧ wf3 x.X
theorem rd38 : Rd Tryd.prog 38 e_riddlelaw01_Some wf38 := Rd.struct Tryd.underlying38 rfl (RdPs.cons rd3 (RdPs.cons rd22 (RdPs.cons rd27 (RdPs.cons rd3 RdPs.nil)))) (fun y => (⟨y.1, y.2.1, y.2.2.1, y.2.2.2.1⟩ : riddlelaw01_Some)) (fun y => rfl) (fun y h => ⟨h.1, h.2.1, h.2.2.1, h.2.2.2.1⟩)
def wf46 : riddlelaw01_Three → Prop := fun x => wf5 x.N ∧ wf22 x.A ∧ wf22 x.B ∧ wf22 x.C
theorem rd46 : Rd Tryd.prog 46 e_riddlelaw01_Three wf46 := Rd.struct Tryd.underlying46 rfl (RdPs.cons rd5 (RdPs.cons rd22 (RdPs.cons rd22 (RdPs.cons rd22 RdPs.nil)))) (fun y => (⟨y.1, y.2.1, y.2.2.1, y.2.2.2.1⟩ : riddlelaw01_Three)) (fun y => rfl) (fun y h => ⟨h.1, h.2.1, h.2.2.1, h.2.2.2.1⟩)
end Go.Proofs.YthjncgigdkdepaaDoor
