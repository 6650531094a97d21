/- YthjncgigdkdepaaDoorPn: a part of the proof; see the last text for what is proved. -/
import Derived.Test.YthjncgigdkdepaaDoorPc
import Derived.Test.YthjncgigdkdepaaDoorRd
import Derived.Test.YthjncgigdkdepaaDoorAaLaid
import Derived.Test.YthjncgigdkdepaaDoorRows
set_option linter.unusedVariables false
namespace Go.Proofs.YthjncgigdkdepaaDoor
open Go.AE
theorem u64_wf {n : Int} (h : wfI .u64 n) : U64 n := by
  simp [wfI, Lit.wf, IntKind.min, IntKind.max, IntKind.signed, IntKind.bits] at h
  exact ⟨by omega, by omega⟩
theorem u8_wf {n : Int} (h : wfI .u8 n) : 0 ≤ n ∧ n < 256 := by
  simp [wfI, Lit.wf, IntKind.min, IntKind.max, IntKind.signed, IntKind.bits] at h
  exact ⟨by omega, by omega⟩
theorem i8_wf {n : Int} (h : wfI .i8 n) : -128 ≤ n ∧ n < 128 := by
  simp [wfI, Lit.wf, IntKind.min, IntKind.max, IntKind.signed, IntKind.bits] at h
  exact ⟨by omega, by omega⟩
theorem bits_wf {b : api_Bits} (h : wf27 b) : WF b := ⟨fun x hx => u64_wf (h.2.2 x hx), by have := h.2.1; unfold maxLen at this; omega⟩
theorem bitsNew_w (q : riddlelaw01_Some) (hq : wf38 q) : ∃ k, riddlelaw01_BitsNew k q = some true :=
  ⟨18001 + q.L.length, bitsNew_ev q (bits_wf hq.2.2.1) (by have := hq.2.1.1; unfold maxLen at this; omega) _ (by omega) (by omega)⟩
/-- The listed table, as the walks read it. -/
theorem seatGl {W : World} (h : laidMetH Tryd.prog [("math/bits.deBruijn64tab", Rows.laid_math_bits_deBruijn64tab)] W) : GlOk W No :=
  glOk_laid (g := 0) (t := 73) (T := 73) (E := 5) (n := 64) (k := .u8) (zs := tab0) (by kernel_rfl) (by kernel_rfl) (by kernel_rfl) Tryd.underlying73 Tryd.underlying5 (by kernel_rfl) (by kernel_rfl) (by decide) (by kernel_rfl) h
end Go.Proofs.YthjncgigdkdepaaDoor
