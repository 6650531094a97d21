/- YtfejcecgnonabaaDoorQn: a part of the proof; see the last text for what is proved. -/
import Derived.Test.YtfejcecgnonabaaDoorQj
import Derived.Test.YtfejcecgnonabaaDoorJr
import Derived.Test.YtfejcecgnonabaaDoorAbLaid
import Derived.Test.YtfejcecgnonabaaDoorRows
set_option linter.unusedVariables false
/- Chapter 11: the laws, of any arguments that may be. -/
namespace Go.Proofs.YtfejcecgnonabaaDoor
open Go.AE
theorem u64_wf {n : Int} (h : wfI .u64 n) : U64 n := by
  simp [wfI, Lit.wf, IntKind.min, IntKind.max, IntKind.signed, IntKind.bits] at h
  exact ⟨by omega, by omega⟩
theorem u8_wf {n : Int} (h : wfI .u8 n) : 0 ≤ n ∧ n < 256 := by
  simp [wfI, Lit.wf, IntKind.min, IntKind.max, IntKind.signed, IntKind.bits] at h
  exact ⟨by omega, by omega⟩
theorem bits_wf {b : api_Bits} (h : wf25 b) : WF b := ⟨fun x hx => u64_wf (h.2.2 x hx), by have := h.2.1; unfold maxLen at this; omega⟩
theorem cls_wf {c : Arr4 Int} (h : wf71 c) : U64c c := ⟨u64_wf h.1, u64_wf h.2.1, u64_wf h.2.2.1, u64_wf h.2.2.2⟩
theorem byt_wf {w : List Int} (h : wf29 w) : Bytes w := fun x hx => u8_wf (h.2 x hx)
theorem nfa_wf {n : api_Nfa} (h : wf28 n) : WFN n :=
  ⟨bits_wf h.2.1, bits_wf h.2.2.1, fun f hf => bits_wf (h.2.2.2.1.2 f hf), fun c hc => cls_wf (h.1.2 c hc), by have := h.1.1; unfold maxLen at this; omega, by have := h.2.2.2.1.1; unfold maxLen at this; omega⟩
theorem nfaJoins_w (c : riddlelaw11_Case) (more : List Int) (h : wf31 c) (hm : wf29 more) : ∃ k, riddlelaw11_NfaJoins k c more = some true := ⟨18201, nfaJoins_ev c more (nfa_wf h.1) (bits_wf h.2.1) (byt_wf h.2.2.2.1) (byt_wf hm) _ (by omega)⟩
/-- The listed table, as the walks read it. -/
theorem seatGl {W : World} (h : laidMetH Tryd.prog [("math/bits.deBruijn64tab", Rows.laid_math_bits_deBruijn64tab)] W) : GlOk W No :=
  glOk_laid (g := 0) (t := 134) (T := 73) (E := 5) (n := 64) (k := .u8) (zs := tab0) (by kernel_rfl) (by kernel_rfl) (by kernel_rfl) Tryd.underlying134 Tryd.underlying5 (by kernel_rfl) (by kernel_rfl) (by decide) (by kernel_rfl) h
end Go.Proofs.YtfejcecgnonabaaDoor
