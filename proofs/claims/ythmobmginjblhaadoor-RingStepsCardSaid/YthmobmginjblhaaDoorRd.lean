/- YthmobmginjblhaaDoorRd: a part of the proof; see the last text for what is proved. -/
import Derived.Test.YthmobmginjblhaaDoorGb
import Derived.Test.YthmobmginjblhaaDoorAaArg
set_option maxRecDepth 100000
set_option linter.unusedVariables false
set_option linter.unusedSimpArgs false
namespace Go.Proofs.YthmobmginjblhaaDoor
open Go.AE
def wf22 : Int → Prop := wfI .u64
theorem rd22 : Rd Tryd.prog 22 (eI .u64) wf22 := Rd.int Tryd.underlying22
def wf24 : (Arr4 Int) → Prop := wf4 wf22
theorem rd24 : Rd Tryd.prog 24 (e4 (eI .u64)) wf24 := Rd.arr4 Tryd.underlying24 rd22
def wf3 : Int → Prop := wfI .i64
theorem rd3 : Rd Tryd.prog 3 (eI .i64) wf3 := Rd.int Tryd.underlying3
def wf26 : api_Ring → Prop := fun x => wf24 x.Class ∧ wf3 x.Least ∧ wf3 x.Most
theorem rd26 : Rd Tryd.prog 26 e_api_Ring wf26 := Rd.struct Tryd.underlying26 rfl (RdPs.cons rd24 (RdPs.cons rd3 (RdPs.cons rd3 RdPs.nil))) (fun y => (⟨y.1, y.2.1, y.2.2.1⟩ : api_Ring)) (fun y => rfl) (fun y h => ⟨h.1, h.2.1, h.2.2.1⟩)
def wf27 : (List Int) → Prop := wfL wf3
theorem rd27 : Rd Tryd.prog 27 (eSl (eI .i64)) wf27 := Rd.sl Tryd.underlying27 rd3
def wf5 : Int → Prop := wfI .u8
theorem rd5 : Rd Tryd.prog 5 (eI .u8) wf5 := Rd.int Tryd.underlying5
def wf28 : (List Int) → Prop := wfL wf5
theorem rd28 : Rd Tryd.prog 28 (eSl (eI .u8)) wf28 := Rd.sl Tryd.underlying28 rd5
def wf37 : (List Int) → Prop := wfL wf22
theorem rd37 : Rd Tryd.prog 37 (eSl (eI .u64)) wf37 := Rd.sl Tryd.underlying37 rd22
def wf39 : api_Bits → Prop := fun x => wf3 x.N ∧ wf37 x.Words
theorem rd39 : Rd Tryd.prog 39 e_api_Bits wf39 := Rd.struct Tryd.underlying39 rfl (RdPs.cons rd3 (RdPs.cons rd37 RdPs.nil)) (fun y => (⟨y.1, y.2.1⟩ : api_Bits)) (fun y => rfl) (fun y h => ⟨h.1, h.2.1⟩)
end Go.Proofs.YthmobmginjblhaaDoor
