/- YtegjbjnmedgdoaaDoorPn: a part of the proof; see the last text for what is proved. -/
import Derived.Test.YtegjbjnmedgdoaaDoorGd
import Derived.Test.YtegjbjnmedgdoaaDoorAaArg
import Derived.Test.YtegjbjnmedgdoaaDoorPo
import Derived.Test.YtegjbjnmedgdoaaDoorAaLaid
import Derived.Test.YtegjbjnmedgdoaaDoorRows
set_option maxRecDepth 100000
set_option linter.unusedVariables false
set_option linter.unusedSimpArgs false
namespace Go.Proofs.YtegjbjnmedgdoaaDoor
open Go.AE
def wf58 : Int → Prop := wfI .u64
theorem rd58 : Rd Tryd.prog 58 (eI .u64) wf58 := Rd.int Tryd.underlying58
def wf60 : (Arr4 Int) → Prop := wf4 wf58
theorem rd60 : Rd Tryd.prog 60 (e4 (eI .u64)) wf60 := Rd.arr4 Tryd.underlying60 rd58
def wf22 : (List (Arr4 Int)) → Prop := wfLb 32 wf60
theorem rd22 : Rd Tryd.prog 22 (eSl (e4 (eI .u64))) wf22 := Rd.slb Tryd.underlying22 rd60 (b := 32) (by kernel_rfl)
def wf3 : Int → Prop := wfI .i64
theorem rd3 : Rd Tryd.prog 3 (eI .i64) wf3 := Rd.int Tryd.underlying3
def wf23 : (List Int) → Prop := wfLb 8 wf58
theorem rd23 : Rd Tryd.prog 23 (eSl (eI .u64)) wf23 := Rd.slb Tryd.underlying23 rd58 (b := 8) (by kernel_rfl)
def wf25 : api_Bits → Prop := fun x => wf3 x.N ∧ wf23 x.Words
theorem rd25 : Rd Tryd.prog 25 e_api_Bits wf25 := Rd.struct Tryd.underlying25 rfl (RdPs.cons rd3 (RdPs.cons rd23 RdPs.nil)) (fun y => (⟨y.1, y.2.1⟩ : api_Bits)) (fun y => rfl) (fun y h => ⟨h.1, h.2.1⟩)
def wf26 : (List api_Bits) → Prop := wfLb 32 wf25
theorem rd26 : Rd Tryd.prog 26 (eSl e_api_Bits) wf26 := Rd.slb Tryd.underlying26 rd25 (b := 32) (by kernel_rfl)
def wf4 : Bool → Prop := fun _ => True
theorem rd4 : Rd Tryd.prog 4 eB wf4 := Rd.bool Tryd.underlying4
def wf28 : api_Nfa → Prop := fun x => wf22 x.Classes ∧ wf25 x.First ∧ wf25 x.Last ∧ wf26 x.Follow ∧ wf4 x.Null
theorem rd28 : Rd Tryd.prog 28 e_api_Nfa wf28 := Rd.struct Tryd.underlying28 rfl (RdPs.cons rd22 (RdPs.cons rd25 (RdPs.cons rd25 (RdPs.cons rd26 (RdPs.cons rd4 RdPs.nil))))) (fun y => (⟨y.1, y.2.1, y.2.2.1, y.2.2.2.1, y.2.2.2.2.1⟩ : api_Nfa)) (fun y => rfl) (fun y h => ⟨h.1, h.2.1, h.2.2.1, h.2.2.2.1, h.2.2.2.2.1⟩)
def wf5 : Int → Prop := wfI .u8
theorem rd5 : Rd Tryd.prog 5 (eI .u8) wf5 := Rd.int Tryd.underlying5
def wf29 : (List Int) → Prop := wfLb 1 wf5
theorem rd29 : Rd Tryd.prog 29 (eSl (eI .u8)) wf29 := Rd.slb Tryd.underlying29 rd5 (b := 1) (by kernel_rfl)
def wf62 : api_Node → Prop := fun x => wf3 x.Kind ∧ wf60 x.Class ∧ wf3 x.A ∧ wf3 x.B ∧ wf3 x.Least ∧ wf3 x.Most ∧ wf4 x.Lazy
theorem rd62 : Rd Tryd.prog 62 e_api_Node wf62 := Rd.struct Tryd.underlying62 rfl (RdPs.cons rd3 (RdPs.cons rd60 (RdPs.cons rd3 (RdPs.cons rd3 (RdPs.cons rd3 (RdPs.cons rd3 (RdPs.cons rd4 RdPs.nil))))))) (fun y => (⟨y.1, y.2.1, y.2.2.1, y.2.2.2.1, y.2.2.2.2.1, y.2.2.2.2.2.1, y.2.2.2.2.2.2.1⟩ : api_Node)) (fun y => rfl) (fun y h => ⟨h.1, h.2.1, h.2.2.1, h.2.2.2.1, h.2.2.2.2.1, h.2.2.2.2.2.1, h.2.2.2.2.2.2.1⟩)
def wf42 : (List api_Node) → Prop := wfLb 80 wf62
theorem rd42 : Rd Tryd.prog 42 (eSl e_api_Node) wf42 := Rd.slb Tryd.underlying42 rd62 (b := 80) (by kernel_rfl)
def wf44 : api_Tree → Prop := fun x => wf42 x.Nodes
theorem rd44 : Rd Tryd.prog 44 e_api_Tree wf44 := Rd.struct Tryd.underlying44 rfl (RdPs.cons rd42 RdPs.nil) (fun y => (⟨y.1⟩ : api_Tree)) (fun y => rfl) (fun y h => h.1)
end Go.Proofs.YtegjbjnmedgdoaaDoor
set_option linter.unusedVariables false
/- Chapter 12: the laws, of any arguments that may be. -/
namespace Go.Proofs.YtegjbjnmedgdoaaDoor
open Go.AE
theorem u64_wf {n : Int} (h : wfI .u64 n) : U64 n := by
  simp [wfI, Lit.wf, IntKind.min, IntKind.max, IntKind.signed, IntKind.bits] at h
  exact ⟨by omega, by omega⟩
theorem u8_wf {n : Int} (h : wfI .u8 n) : 0 ≤ n ∧ n < 256 := by
  simp [wfI, Lit.wf, IntKind.min, IntKind.max, IntKind.signed, IntKind.bits] at h
  exact ⟨by omega, by omega⟩
theorem bits_wf {b : api_Bits} (h : wf25 b) : WF b := ⟨fun x hx => u64_wf (h.2.1.2 x hx), by have := h.2.1.1; unfold maxLen at this; omega⟩
theorem cls_wf {c : Arr4 Int} (h : wf60 c) : U64c c := ⟨u64_wf h.1, u64_wf h.2.1, u64_wf h.2.2.1, u64_wf h.2.2.2⟩
theorem byt_wf {w : List Int} (h : wf29 w) : Bytes w := fun x hx => u8_wf (h.1.2 x hx)
theorem nfa_wf {n : api_Nfa} (h : wf28 n) : WFN n :=
  ⟨bits_wf h.2.1, bits_wf h.2.2.1, fun f hf => bits_wf (h.2.2.2.1.1.2 f hf), fun c hc => cls_wf (h.1.1.2 c hc), by have := h.1.1.1; unfold maxLen at this; omega, by have := h.2.2.2.1.1.1; unfold maxLen at this; omega⟩
theorem reverseStarts_w (n : api_Nfa) (w : List Int) (e m : Int) (a b : Bool) (h : wf28 n) (hw : wf29 w) (he : wf3 e) (hm : wf5 m) (_ : wf4 a) (_ : wf4 b) : ∃ k, riddlelaw12_ReverseStarts k n w e m a b = some true := ⟨20001, reverseStarts_ev n (nfa_wf h) w (byt_wf hw) e m (u8_wf hm) a b _ (by omega)⟩
theorem reverseTwice_w (n : api_Nfa) (h : wf28 n) : ∃ k, riddlelaw12_ReverseTwice k n = some true := ⟨20001, reverseTwice_ev n (nfa_wf h) _ (by omega)⟩
theorem reverseTurned_w (n : api_Nfa) (w : List Int) (h : wf28 n) (hw : wf29 w) : ∃ k, riddlelaw12_ReverseTurned k n w = some true := ⟨20001, reverseTurned_ev n (nfa_wf h) w (byt_wf hw) _ (by omega)⟩
theorem reverseMakes_w (n : api_Nfa) (s : api_Bits) (a : Bool) (b : Int) (h : wf28 n) (hs : wf25 s) (_ : wf4 a) (hb : wf5 b) : ∃ k, riddlelaw12_ReverseMakes k n s a b = some true := ⟨20001, reverseMakes_ev n (nfa_wf h) s (bits_wf hs) a b (u8_wf hb).1 (u8_wf hb).2 _ (by omega)⟩
/-- The listed table, as the walks read it. -/
theorem seatGl {W : World} (h : laidMetH Tryd.prog [("math/bits.deBruijn64tab", Rows.laid_math_bits_deBruijn64tab)] W) : GlOk W No :=
  glOk_laid (g := 0) (t := 130) (T := 73) (E := 5) (n := 64) (k := .u8) (zs := tab0) (by kernel_rfl) (by kernel_rfl) (by kernel_rfl) Tryd.underlying130 Tryd.underlying5 (by kernel_rfl) (by kernel_rfl) (by decide) (by kernel_rfl) h
end Go.Proofs.YtegjbjnmedgdoaaDoor
