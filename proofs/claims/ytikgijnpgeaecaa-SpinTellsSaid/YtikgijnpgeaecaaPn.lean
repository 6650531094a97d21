/- YtikgijnpgeaecaaPn: a part of the proof; see the last text for what is proved. -/
import Derived.Test.YtikgijnpgeaecaaGa
import Derived.Test.YtikgijnpgeaecaaAaArg
import Derived.Test.YtikgijnpgeaecaaPc
set_option maxRecDepth 100000
set_option linter.unusedVariables false
set_option linter.unusedSimpArgs false
namespace Go.Proofs.Ytikgijnpgeaecaa
open Go.AE
def wf5 : Int → Prop := wfI .u8
theorem rd5 : Rd Try.prog 5 (eI .u8) wf5 := Rd.int Try.underlying5
def wf22 : (List Int) → Prop := wfLb 1 wf5
theorem rd22 : Rd Try.prog 22 (eSl (eI .u8)) wf22 := Rd.slb Try.underlying22 rd5 (b := 1) (by kernel_rfl)
def wf3 : Int → Prop := wfI .i64
theorem rd3 : Rd Try.prog 3 (eI .i64) wf3 := Rd.int Try.underlying3
def wf21 : Int → Prop := wfI .i32
theorem rd21 : Rd Try.prog 21 (eI .i32) wf21 := Rd.int Try.underlying21
end Go.Proofs.Ytikgijnpgeaecaa
set_option linter.unusedVariables false
/- Chapter 16: the laws, of any arguments that may be. -/
namespace Go.Proofs.Ytikgijnpgeaecaa
open Go.AE
theorem u8_wf {n : Int} (h : wf5 n) : 0 ≤ n ∧ n < 256 := by
  simp [wf5, wfI, Lit.wf, IntKind.min, IntKind.max, IntKind.signed, IntKind.bits] at h
  exact ⟨by omega, by omega⟩
theorem i32_wf {n : Int} (h : wf21 n) : -2147483648 ≤ n ∧ n < 2147483648 := by
  simp [wf21, wfI, Lit.wf, IntKind.min, IntKind.max, IntKind.signed, IntKind.bits] at h
  exact ⟨by omega, by omega⟩
theorem i64_wf {n : Int} (h : wf3 n) : -9223372036854775808 ≤ n ∧ n < 9223372036854775808 := by
  simp [wf3, wfI, Lit.wf, IntKind.min, IntKind.max, IntKind.signed, IntKind.bits] at h
  exact ⟨by omega, by omega⟩
theorem byt_wf {w : List Int} (h : wf22 w) : By w := fun x hx => u8_wf (h.1.2 x hx)
theorem len_wf {w : List Int} (h : wf22 w) : w.length < 3074457345618258602 := by have := h.2; unfold reachBytes at this; omega
theorem spinMakes_w (b re im q : Int) (w : List Int) (hb : wf5 b) (hr : wf21 re) (hi : wf21 im) (hq : wf3 q) (hw : wf22 w) : ∃ k, riddlelaw16_SpinMakes k b re im q w = some true :=
  ⟨w.length + 3, spinMakes_ev _ b re im q w (u8_wf hb) (i32_wf hr) (i32_wf hi) (byt_wf hw) (by omega) (by omega)⟩
theorem spinApart_w (a b : List Int) (c d : Int) (ha : wf22 a) (hb : wf22 b) (hc : wf5 c) (hd : wf5 d) : ∃ k, riddlelaw16_SpinApart k a b c d = some true :=
  ⟨a.length + b.length + 3, spinApart_ev _ a b c d (byt_wf ha) (byt_wf hb) (u8_wf hc) (u8_wf hd) (by omega)⟩
theorem spinRolls_w (a b : List Int) (ha : wf22 a) (hb : wf22 b) : ∃ k, riddlelaw16_SpinRolls k a b = some true :=
  ⟨a.length + b.length + 3, spinRolls_ev _ a b (byt_wf ha) (byt_wf hb) (by omega)⟩
theorem spinJoins_w (a b c : List Int) (ha : wf22 a) (hb : wf22 b) (hc : wf22 c) : ∃ k, riddlelaw16_SpinJoins k a b c = some true :=
  ⟨a.length + b.length + c.length + 3, spinJoins_ev _ a b c (byt_wf ha) (byt_wf hb) (byt_wf hc) (len_wf ha) (len_wf hb) (len_wf hc) (by omega)⟩
theorem spinTells_w (w : List Int) (n m : Int) (hw : wf22 w) (hn : wf3 n) (hm : wf5 m) : ∃ k, riddlelaw16_SpinTells k w n m = some true :=
  ⟨2 * w.length + 4, spinTells_ev _ w n m (byt_wf hw) (i64_wf hn) (u8_wf hm) (by omega)⟩
end Go.Proofs.Ytikgijnpgeaecaa
