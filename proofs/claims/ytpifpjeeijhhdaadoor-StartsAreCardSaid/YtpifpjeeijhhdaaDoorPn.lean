/- YtpifpjeeijhhdaaDoorPn: a part of the proof; see the last text for what is proved. -/
import Derived.Test.YtpifpjeeijhhdaaDoorGd
import Derived.Test.YtpifpjeeijhhdaaDoorAaArg
import Derived.Test.YtpifpjeeijhhdaaDoorPl
import Derived.Test.YtpifpjeeijhhdaaDoorAaLaid
import Derived.Test.YtpifpjeeijhhdaaDoorRows
set_option maxRecDepth 100000
set_option linter.unusedVariables false
set_option linter.unusedSimpArgs false
namespace Go.Proofs.YtpifpjeeijhhdaaDoor
open Go.AE
def wf73 : Int → Prop := wfI .u64
theorem rd73 : Rd Tryd.prog 73 (eI .u64) wf73 := Rd.int Tryd.underlying73
def wf75 : (Arr4 Int) → Prop := wf4 wf73
theorem rd75 : Rd Tryd.prog 75 (e4 (eI .u64)) wf75 := Rd.arr4 Tryd.underlying75 rd73
def wf22 : (List (Arr4 Int)) → Prop := wfLb 32 wf75
theorem rd22 : Rd Tryd.prog 22 (eSl (e4 (eI .u64))) wf22 := Rd.slb Tryd.underlying22 rd75 (b := 32) (by kernel_rfl)
def wf3 : Int → Prop := wfI .i64
theorem rd3 : Rd Tryd.prog 3 (eI .i64) wf3 := Rd.int Tryd.underlying3
def wf23 : (List Int) → Prop := wfLb 8 wf73
theorem rd23 : Rd Tryd.prog 23 (eSl (eI .u64)) wf23 := Rd.slb Tryd.underlying23 rd73 (b := 8) (by kernel_rfl)
def wf25 : api_Bits → Prop := fun x => wf3 x.N ∧ wf23 x.Words
theorem rd25 : Rd Tryd.prog 25 e_api_Bits wf25 := Rd.struct Tryd.underlying25 rfl (RdPs.cons rd3 (RdPs.cons rd23 RdPs.nil)) (fun y => (⟨y.1, y.2.1⟩ : api_Bits)) (fun y => rfl) (fun y h => ⟨h.1, h.2.1⟩)
def wf26 : (List api_Bits) → Prop := wfLb 32 wf25
theorem rd26 : Rd Tryd.prog 26 (eSl e_api_Bits) wf26 := Rd.slb Tryd.underlying26 rd25 (b := 32) (by kernel_rfl)
def wf4 : Bool → Prop := fun _ => True
theorem rd4 : Rd Tryd.prog 4 eB wf4 := Rd.bool Tryd.underlying4
def wf28 : api_Nfa → Prop := fun x => wf22 x.Classes ∧ wf25 x.First ∧ wf25 x.Last ∧ wf26 x.Follow ∧ wf4 x.Null
theorem rd28 : Rd Tryd.prog 28 e_api_Nfa wf28 := Rd.struct Tryd.underlying28 rfl (RdPs.cons rd22 (RdPs.cons rd25 (RdPs.cons rd25 (RdPs.cons rd26 (RdPs.cons rd4 RdPs.nil))))) (fun y => (⟨y.1, y.2.1, y.2.2.1, y.2.2.2.1, y.2.2.2.2.1⟩ : api_Nfa)) (fun y => rfl) (fun y h => ⟨h.1, h.2.1, h.2.2.1, h.2.2.2.1, h.2.2.2.2.1⟩)
def wf2 : Int → Prop := wfI .i64
theorem rd2 : Rd Tryd.prog 2 (eI .i64) wf2 := Rd.int Tryd.underlying2
def wf29 : (List Int) → Prop := wfLb 8 wf2
theorem rd29 : Rd Tryd.prog 29 (eSl (eI .i64)) wf29 := Rd.slb Tryd.underlying29 rd2 (b := 8) (by kernel_rfl)
def wf5 : Int → Prop := wfI .u8
theorem rd5 : Rd Tryd.prog 5 (eI .u8) wf5 := Rd.int Tryd.underlying5
def wf30 : (List Int) → Prop := wfLb 1 wf5
theorem rd30 : Rd Tryd.prog 30 (eSl (eI .u8)) wf30 := Rd.slb Tryd.underlying30 rd5 (b := 1) (by kernel_rfl)
def wf32 : riddlelaw23_Case → Prop := fun x => wf28 x.Nfa ∧ wf29 x.State ∧ wf2 x.Begin ∧ wf5 x.B ∧ wf30 x.W ∧ wf4 x.Hat ∧ wf4 x.Multi
theorem rd32 : Rd Tryd.prog 32 e_riddlelaw23_Case wf32 := Rd.struct Tryd.underlying32 rfl (RdPs.cons rd28 (RdPs.cons rd29 (RdPs.cons rd2 (RdPs.cons rd5 (RdPs.cons rd30 (RdPs.cons rd4 (RdPs.cons rd4 RdPs.nil))))))) (fun y => (⟨y.1, y.2.1, y.2.2.1, y.2.2.2.1, y.2.2.2.2.1, y.2.2.2.2.2.1, y.2.2.2.2.2.2.1⟩ : riddlelaw23_Case)) (fun y => rfl) (fun y h => ⟨h.1, h.2.1, h.2.2.1, h.2.2.2.1, h.2.2.2.2.1, h.2.2.2.2.2.1, h.2.2.2.2.2.2.1⟩)
def wf59 : Int → Prop := wfI .u32
theorem rd59 : Rd Tryd.prog 59 (eI .u32) wf59 := Rd.int Tryd.underlying59
end Go.Proofs.YtpifpjeeijhhdaaDoor
set_option linter.unusedVariables false
/- Chapter 23: the laws, of any arguments that may be. -/
namespace Go.Proofs.YtpifpjeeijhhdaaDoor
open Go.AE
theorem u64_wf {n : Int} (h : wfI .u64 n) : U64 n := by
  simp [wfI, Lit.wf, IntKind.min, IntKind.max, IntKind.signed, IntKind.bits] at h
  exact ⟨by omega, by omega⟩
theorem u8_wf {n : Int} (h : wfI .u8 n) : 0 ≤ n ∧ n < 256 := by
  simp [wfI, Lit.wf, IntKind.min, IntKind.max, IntKind.signed, IntKind.bits] at h
  exact ⟨by omega, by omega⟩
theorem bits_wf {b : api_Bits} (h : wf25 b) : WF b := ⟨fun x hx => u64_wf (h.2.1.2 x hx), by have := h.2.1.1; unfold maxLen at this; omega⟩
theorem cls_wf {c : Arr4 Int} (h : wf75 c) : U64c c := ⟨u64_wf h.1, u64_wf h.2.1, u64_wf h.2.2.1, u64_wf h.2.2.2⟩
theorem byt_wf {w : List Int} (h : wf30 w) : Bytes w := fun x hx => u8_wf (h.1.2 x hx)
theorem nfa_wf {n : api_Nfa} (h : wf28 n) : WFN n :=
  ⟨bits_wf h.2.1, bits_wf h.2.2.1, fun f hf => bits_wf (h.2.2.2.1.1.2 f hf), fun c hc => cls_wf (h.1.1.2 c hc), by have := h.1.1.1; unfold maxLen at this; omega, by have := h.2.2.2.1.1.1; unfold maxLen at this; omega⟩
theorem u32_wf {n : Int} (h : wfI .u32 n) : 0 ≤ n ∧ n < 4294967296 := by
  simp [wfI, Lit.wf, IntKind.min, IntKind.max, IntKind.signed, IntKind.bits] at h
  exact ⟨by omega, by omega⟩
theorem i64_wf {n : Int} (h : wfI .i64 n) : -9223372036854775808 ≤ n := by
  simp [wfI, Lit.wf, IntKind.min, IntKind.max, IntKind.signed, IntKind.bits] at h
  omega
theorem startsSteps_w (c : riddlelaw23_Case) (h : wf32 c) : ∃ k, riddlelaw23_StartsSteps k c = some true :=
  ⟨18101 + c.State.length, startsSteps_ev c (nfa_wf h.1) (by have := h.2.1.2; unfold reachBytes at this; omega) (u8_wf h.2.2.2.1).1 (u8_wf h.2.2.2.1).2 _ (by omega) (by omega)⟩
theorem startsTell_w (c : riddlelaw23_Case) (h : wf32 c) : ∃ k, riddlelaw23_StartsTell k c = some true := ⟨18101, startsTell_ev c (nfa_wf h.1) (byt_wf h.2.2.2.2.1) _ (by omega)⟩
theorem startsAre_w (c : riddlelaw23_Case) (y : Int) (h : wf32 c) (hy : wf59 y) : ∃ k, riddlelaw23_StartsAre k c y = some true :=
  ⟨18101, startsAre_ev c y (nfa_wf h.1) (u8_wf h.2.2.2.1).1 (u8_wf h.2.2.2.1).2 (u32_wf hy).1 (u32_wf hy).2 (i64_wf h.2.2.1) _ (by omega)⟩
/-- The listed table, as the walks read it. -/
theorem seatGl {W : World} (h : laidMetH Tryd.prog [("math/bits.deBruijn64tab", Rows.laid_math_bits_deBruijn64tab)] W) : GlOk W No :=
  glOk_laid (g := 0) (t := 145) (T := 73) (E := 5) (n := 64) (k := .u8) (zs := tab0) (by kernel_rfl) (by kernel_rfl) (by kernel_rfl) Tryd.underlying145 Tryd.underlying5 (by kernel_rfl) (by kernel_rfl) (by decide) (by kernel_rfl) h
end Go.Proofs.YtpifpjeeijhhdaaDoor
