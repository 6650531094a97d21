/- YthmobmginjblhaaDoorPn: a part of the proof; see the last text for what is proved. -/
import Derived.Test.YthmobmginjblhaaDoorPi
import Derived.Test.YthmobmginjblhaaDoorRd
import Derived.Test.YthmobmginjblhaaDoorAaLaid
import Derived.Test.YthmobmginjblhaaDoorRows
set_option linter.unusedVariables false
/- Chapter 13: the laws, of any arguments that may be. -/
namespace Go.Proofs.YthmobmginjblhaaDoor
open Go.AE
theorem u64_wf {n : Int} (h : wfI .u64 n) : U64 n := by
  simp [wfI, Lit.wf, IntKind.min, IntKind.max, IntKind.signed, IntKind.bits] at h
  exact ⟨by omega, by omega⟩
theorem u8_wf {n : Int} (h : wfI .u8 n) : 0 ≤ n ∧ n < 256 := by
  simp [wfI, Lit.wf, IntKind.min, IntKind.max, IntKind.signed, IntKind.bits] at h
  exact ⟨by omega, by omega⟩
theorem bits_wf {b : api_Bits} (h : wf39 b) : WF b := ⟨fun x hx => u64_wf (h.2.2 x hx), by have := h.2.1; unfold maxLen at this; omega⟩
theorem cls_wf {r : api_Ring} (h : wf26 r) : U64c r.Class := ⟨u64_wf h.1.1, u64_wf h.1.2.1, u64_wf h.1.2.2.1, u64_wf h.1.2.2.2⟩
theorem byt_wf {w : List Int} (h : wf28 w) : Bytes w ∧ w.length ≤ 9223372036854775807 := ⟨fun x hx => u8_wf (h.2 x hx), by have := h.1; unfold maxLen at this; omega⟩
theorem len_wf {w : List Int} (h : wf27 w) : w.length ≤ 9223372036854775807 := by have := h.1; unfold maxLen at this; omega
theorem ringSteps_w (r : api_Ring) (s : api_Bits) (w : List Int) (hr : wf26 r) (hs : wf39 s) (hw : wf28 w) : ∃ k, riddlelaw13_RingSteps k r s w = some true :=
  ⟨w.length + 18002, ringSteps_ev r s w (cls_wf hr) (bits_wf hs) (byt_wf hw).1 (byt_wf hw).2 _ (by omega)⟩
theorem ringJoins_w (r : api_Ring) (s : api_Bits) (w : List Int) (hr : wf26 r) (hs : wf39 s) (hw : wf28 w) : ∃ k, riddlelaw13_RingJoins k r s w = some true :=
  ⟨w.length + 18002, ringJoins_ev r s w (cls_wf hr) (bits_wf hs) (byt_wf hw).1 (byt_wf hw).2 _ (by omega)⟩
theorem ringEnds_w (r : api_Ring) (t w : List Int) (hr : wf26 r) (ht : wf27 t) (hw : wf28 w) : ∃ k, riddlelaw13_RingEnds k r t w = some true :=
  ⟨t.length + 18101, ringEnds_ev r t w (cls_wf hr) (byt_wf hw).1 (len_wf ht) _ (by omega)⟩
theorem ringIs_w (r : api_Ring) (t w : List Int) (hr : wf26 r) (ht : wf27 t) (hw : wf28 w) : ∃ k, riddlelaw13_RingIs k r t w = some true :=
  ⟨t.length + 18101, ringIs_ev r t w (cls_wf hr) (byt_wf hw).1 (len_wf ht) _ (by omega)⟩
/-- The listed table, as the walks read it. -/
theorem seatGl {W : World} (h : laidMetH Tryd.prog [("math/bits.deBruijn64tab", Rows.laid_math_bits_deBruijn64tab)] W) : GlOk W No :=
  glOk_laid (g := 0) (t := 77) (T := 73) (E := 5) (n := 64) (k := .u8) (zs := tab0) (by kernel_rfl) (by kernel_rfl) (by kernel_rfl) Tryd.underlying77 Tryd.underlying5 (by kernel_rfl) (by kernel_rfl) (by decide) (by kernel_rfl) h
end Go.Proofs.YthmobmginjblhaaDoor
