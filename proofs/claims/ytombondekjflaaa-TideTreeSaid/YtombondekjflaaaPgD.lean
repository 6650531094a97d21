/- YtombondekjflaaaPgD: a part of the proof; see the last text for what is proved. -/
import Derived.Test.YtombondekjflaaaPgC
set_option linter.unusedVariables false
set_option linter.unusedSimpArgs false
namespace Go.Proofs.Ytombondekjflaaa
open Go.AE

def leafN (c : Arr4 Int) : api_Node := ⟨2, c, 0, 0, 0, 0, false⟩
def repN (n : Int) (z : Bool) : api_Node := ⟨5, ⟨0, 0, 0, 0⟩, 0, 0, n, -1, z⟩
theorem w01 : IntKind.i64.wrap 1 = 1 := by decide
theorem w11 : IntKind.i64.wrap 0 = 0 := by decide
theorem sizes_leaf (c : Arr4 Int) (m : Nat) : riddleref05_Sizes (m + 2) ⟨[leafN c]⟩ = some ([1], true) := by
  simp [riddleref05_Sizes, riddleref05_Sizes_l0, jn, at_, leafN, riddleref05_bare, okApp, maxLen, w01, w11]
theorem may_leaf (c : Arr4 Int) (m : Nat) : riddleref05_may (m + 2) ⟨[leafN c]⟩ = some ⟨[leafN c]⟩ := by
  simp [riddleref05_may, riddleref05_May, sizes_leaf]
theorem placed_leaf (c : Arr4 Int) (m : Nat) : riddleref05_placed (m + 2) [] ⟨[leafN c]⟩ = some [leafN c] := by
  simp [riddleref05_placed, riddleref05_placed_l0, jn, at_, leafN, okApp, maxLen, w01]
theorem repeat_leaf (c : Arr4 Int) (n : Int) (m : Nat) : riddleref05_Repeat (m + 2) ⟨[leafN c]⟩ n (-1) false = some ⟨[leafN c, repN n false]⟩ := by
  simp [riddleref05_Repeat, may_leaf, placed_leaf, okApp, maxLen, repN, w11]
theorem leaf_ev (c : Arr4 Int) : riddleref05_Leaf ⟨2, c, 0, 0, 0, 0, false⟩ = some ⟨[leafN c]⟩ := by
  simp [riddleref05_Leaf, leafN]

def treeT (t : api_Tide) : api_Tree × Bool := if bad t = true then (⟨[]⟩, false) else (⟨[leafN t.Class, repN t.Least false]⟩, true)
theorem tree_ev (t : api_Tide) : tide_Tree t = some (treeT t) := by
  unfold tide_Tree treeT
  rw [check_ev]
  by_cases h : bad t = true <;> simp [h, leafN, repN]
theorem rtree_ev (t : api_Tide) (m : Nat) : riddleref14_Tree (m + 2) t = some (treeT t) := by
  unfold riddleref14_Tree treeT
  rw [rcheck_ev]
  by_cases h : bad t = true <;> simp [h, leaf_ev, repeat_leaf]
def nodeB (a b : api_Node) : Bool := ((a.Kind == b.Kind) && (((a.Class.a0 == b.Class.a0) && ((a.Class.a1 == b.Class.a1) && ((a.Class.a2 == b.Class.a2) && ((a.Class.a3 == b.Class.a3) && true)))) && ((a.A == b.A) && ((a.B == b.B) && ((a.Least == b.Least) && ((a.Most == b.Most) && ((a.Lazy == b.Lazy) && true)))))))
theorem nodeB_iff (a b : api_Node) : nodeB a b = true ↔ a = b := by
  obtain ⟨k, ⟨c0, c1, c2, c3⟩, x, y, l, m, z⟩ := a
  obtain ⟨k', ⟨c0', c1', c2', c3'⟩, x', y', l', m', z'⟩ := b
  simp [nodeB, and_assoc]
theorem w2 : IntKind.i64.wrap 2 = 2 := by decide
theorem w1p : IntKind.i64.wrap (1 + 1) = 2 := by decide
theorem same2 (a b c d : api_Node) (m : Nat) : riddleref05_Same (m + 3) ⟨[a, b]⟩ ⟨[c, d]⟩ = some (nodeB a c && nodeB b d) := by
  unfold riddleref05_Same
  simp only [List.length_cons, List.length_nil, jn]
  rw [if_neg (by simp)]
  rw [riddleref05_Same_l0, if_pos (by simp)]
  simp only [at_, Int.le_refl, if_true, Int.toNat_zero, List.getElem?_cons_zero, Option.bind_some]
  cases h1 : nodeB a c
  · rw [if_pos (by unfold nodeB at h1; rw [h1]; rfl)]; rfl
  · rw [if_neg (by unfold nodeB at h1; rw [h1]; simp)]
    rw [show IntKind.i64.wrap (0 + 1) = 1 by decide, riddleref05_Same_l0, if_pos (by simp)]
    simp only [at_, show (0 : Int) ≤ 1 by decide, if_true, show (1 : Int).toNat = 1 by rfl, List.getElem?_cons_succ, List.getElem?_cons_zero, Option.bind_some]
    cases h2 : nodeB b d
    · rw [if_pos (by unfold nodeB at h2; rw [h2]; rfl)]; rfl
    · rw [if_neg (by unfold nodeB at h2; rw [h2]; simp), w1p, riddleref05_Same_l0, if_neg (by simp)]; rfl
theorem same0 (m : Nat) : riddleref05_Same (m + 1) ⟨[]⟩ ⟨[]⟩ = some true := by
  simp [riddleref05_Same, riddleref05_Same_l0, jn]
theorem same_tree (t : api_Tide) (m : Nat) : riddleref05_Same (m + 3) (treeT t).1 (treeT t).1 = some true := by
  unfold treeT
  by_cases h : bad t = true
  · rw [if_pos h]; exact same0 (m + 2)
  · rw [if_neg h, same2, (nodeB_iff _ _).2 rfl, (nodeB_iff _ _).2 rfl]; rfl

def ofL (l : List api_Node) : api_Tide × Bool :=
  match l with
  | [p, q] => if bad ⟨p.Class, q.Least⟩ = true then (T0z, false) else if (nodeB p (leafN p.Class) && nodeB q (repN q.Least q.Lazy)) = true then (⟨p.Class, q.Least⟩, true) else (T0z, false)
  | _ => (T0z, false)
where T0z : api_Tide := ⟨⟨0, 0, 0, 0⟩, 0⟩
theorem nodeB_comm (a b : api_Node) : nodeB a b = nodeB b a := by
  rw [Bool.eq_iff_iff, nodeB_iff, nodeB_iff]; exact eq_comm
theorem len2 (l : List api_Node) : ((l.length : Int) != 2) = false → ∃ p q, l = [p, q] := by
  intro h
  match l, h with
  | [p, q], _ => exact ⟨p, q, rfl⟩
  | [], h => simp at h
  | [_], h => simp at h
  | _ :: _ :: _ :: l, h => simp at h; omega
theorem ofL_not (l : List api_Node) (h : ((l.length : Int) != 2) = true) : ofL l = (ofL.T0z, false) := by
  match l, h with
  | [p, q], h => simp at h
  | [], h => rfl
  | [_], h => rfl
  | _ :: _ :: _ :: l, h => rfl
theorem of_ev (x : api_Tree) : tide_Of x = some (ofL x.Nodes) := by
  obtain ⟨l⟩ := x
  unfold tide_Of
  cases hl : ((l.length : Int) != 2)
  · obtain ⟨p, q, rfl⟩ := len2 l hl
    rw [if_neg (by simp)]
    simp only [at_, Int.le_refl, if_true, Int.toNat_zero, List.getElem?_cons_zero, Option.bind_some, show (0 : Int) ≤ 1 by decide, show (1 : Int).toNat = 1 by rfl, List.getElem?_cons_succ, tree_ev]
    by_cases h : bad ⟨p.Class, q.Least⟩ = true
    · simp [treeT, ofL, h, ofL.T0z]
    · simp only [treeT, if_neg h, ofL]
      simp only [Bool.not_true, Bool.false_eq_true, if_false, List.getElem?_cons_succ, List.getElem?_cons_zero, Option.bind_some, List.set_cons_succ, List.set_cons_zero]
      show (Option.bind (if (!nodeB (leafN p.Class) p) = true then some true else some (!nodeB (repN q.Least q.Lazy) q)) fun v11 => if v11 = true then some (ofL.T0z, false) else some ((⟨p.Class, q.Least⟩ : api_Tide), true)) = _
      rw [nodeB_comm (leafN p.Class) p, nodeB_comm (repN q.Least q.Lazy) q]
      cases nodeB p (leafN p.Class) <;> cases nodeB q (repN q.Least q.Lazy) <;> rfl
  · rw [if_pos (by simp only [hl]), ofL_not l hl]; rfl
theorem rof_ev (x : api_Tree) (m : Nat) : riddleref14_Of (m + 3) x = some (ofL x.Nodes) := by
  obtain ⟨l⟩ := x
  unfold riddleref14_Of
  cases hl : ((l.length : Int) != 2)
  · obtain ⟨p, q, rfl⟩ := len2 l hl
    rw [if_neg (by simp)]
    simp only [at_, Int.le_refl, if_true, Int.toNat_zero, List.getElem?_cons_zero, Option.bind_some, show (0 : Int) ≤ 1 by decide, show (1 : Int).toNat = 1 by rfl, List.getElem?_cons_succ, rtree_ev _ (m + 1), List.nil_append]
    rw [if_pos (by simp [okApp, maxLen])]
    by_cases h : bad ⟨p.Class, q.Least⟩ = true
    · simp [treeT, ofL, h, ofL.T0z]
    · simp only [treeT, if_neg h, ofL, List.set_cons_succ, List.set_cons_zero, same2]
      simp only [Bool.not_true, Bool.false_eq_true, if_false, Option.bind_some]
      have e : nodeB (api_Node.mk q.Kind q.Class q.A q.B q.Least q.Most false) (repN q.Least false) = nodeB q (repN q.Least q.Lazy) := by
        unfold nodeB repN; simp
      rw [e]
      cases nodeB p (leafN p.Class) <;> cases nodeB q (repN q.Least q.Lazy) <;> rfl
  · rw [if_pos (by simp only [hl]), ofL_not l hl]; rfl
theorem of_tree (t : api_Tide) (h : bad t = false) : ofL (treeT t).1.Nodes = (t, true) := by
  obtain ⟨c, n⟩ := t
  simp only [treeT, h, Bool.false_eq_true, if_false, ofL]
  rw [if_neg (by simpa [leafN, repN] using h), if_pos (by
    rw [(nodeB_iff _ _).2 (by rfl), (nodeB_iff _ _).2 (by rfl)]; rfl)]
  rfl
theorem tideTree (t : api_Tide) (x : api_Tree) : ∃ k, riddlelaw14_TideTree k t x = some true := by
  refine ⟨2000, ?_⟩
  unfold riddlelaw14_TideTree
  rw [tree_ev, rtree_ev t 1998, of_ev, rof_ev x 1997, begun_ev 1900]
  simp only [Option.bind_some, same_tree t 1997, of_ev]
  cases h : bad t
  · simp [of_tree t h, show (treeT t).2 = true by simp [treeT, h]]
  · simp [show (treeT t).2 = false by simp [treeT, h]]
theorem tideTree_w (t : api_Tide) (x : api_Tree) (ht : wf26 t) (hx : wf47 x) : ∃ k, riddlelaw14_TideTree k t x = some true := tideTree t x
end Go.Proofs.Ytombondekjflaaa
