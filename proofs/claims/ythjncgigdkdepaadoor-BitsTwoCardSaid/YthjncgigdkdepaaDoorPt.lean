/- YthjncgigdkdepaaDoorPt: a part of the proof; see the last text for what is proved. -/
import Derived.Test.YthjncgigdkdepaaDoorPe
import Derived.Test.YthjncgigdkdepaaDoorPn
set_option linter.unusedVariables false
/- Chapter 1: the law of two sets, of any arguments that may be. -/
namespace Go.Proofs.YthjncgigdkdepaaDoor
open Go.AE
theorem bitsTwo_w (a b : api_Bits) (ha : wf27 a) (hb : wf27 b) : ∃ k, riddlelaw01_BitsTwo k a b = some true := ⟨18001, bitsTwo_ev a b (bits_wf ha) (bits_wf hb) _ (by omega)⟩
end Go.Proofs.YthjncgigdkdepaaDoor
