/- YtombondekjflaaaAhRow: a part of the proof; see the last text for what is proved. -/
import Derived.Test.YtombondekjflaaaAhForms
import Derived.ProofKit
import Derived.OpenShut
import Derived.ShutString
import Derived.ChangeOld
import Derived.ChangeArms
import Derived.Carry
import Derived.Deep.Slices
import Derived.SizedLaws
set_option linter.unusedVariables false
set_option linter.unusedSimpArgs false
namespace Go.AE
open Go.RowKit

variable {P : Program}

def Parts (R : TypeId → List PV → Prop) : List TypeId → List PV → Prop
  | [], cs => cs = []
  | t :: ts, cs => ∃ a b, cs = a ++ b ∧ R t a ∧ Parts R ts b

def CT (P : Program) : Nat → TypeId → List PV → Prop
  | 0, _, _ => False
  | f + 1, t, cs =>
    match P.underlying t with
    | some .bool => ∃ b, cs = [.s (.bool b)]
    | some (.int k) => ∃ n, cs = [.s (.int k n)] ∧ (Lit.int k n).wf = true
    | some .string => ∃ s : ByteArray, cs = [.s (.string s)] ∧ s.size ≤ maxLen
    | some (.slice e) => cs = [.sl .nil 0 []] ∨ ∃ es : List (List PV), cs = [.sl .nn es.length es.flatten] ∧ (es.length ≤ maxLen ∧ es.length * P.bytesOf e ≤ reachBytes) ∧ ∀ x ∈ es, CT P f e x
    | some (.struct fs) => Parts (CT P f) (fs.toList.map (·.type)) cs
    | some (.array n e) => Parts (CT P f) (List.replicate n e) cs
    | _ => False

def contig (P : Program) : Nat → Nat → List Field → Bool
  | o, e, [] => o == e
  | o, e, f :: fs => f.offset == o && contig P (o + P.cellsOf f.type) e fs
def okTy (P : Program) : Nat → TypeId → Bool
  | 0, _ => false
  | f + 1, t =>
    match P.underlying t with
    | some .bool => true
    | some (.int _) => true
    | some .string => true
    | some (.slice e) => okTy P f e
    | some (.struct fs) => fs.toList.all (fun x => okTy P f x.type) && contig P 0 (P.cellsOf t) fs.toList
    | some (.array n e) => okTy P f e && n * P.cellsOf e == P.cellsOf t
    | _ => false

section
variable {H : Type} {enc : TypeId × Value → H} {w : World} {base : Nat} {spare : Nat → Bool} {held : Bool}
abbrev No : Nat → Prop := fun _ => False

theorem one_single {v : Value} (h : v.oneCell' = true) : One [v] := by
  intro u hu
  simp only [List.mem_singleton] at hu
  exact hu ▸ h

def Wt (P : Program) (t : TypeId) (d : DataW H) : Prop := ∀ n ∈ d.weights P t, n ≤ reachBytes
theorem mem_weightsAll {e : TypeId} {n : Nat} : ∀ {l : List (DataW H)} {d : DataW H}, d ∈ l → n ∈ d.weights P e → n ∈ DataW.weightsAll P e l
  | [], _, h, _ => by cases h
  | x :: l, d, h, hn => by
    simp only [DataW.weightsAll, List.mem_append]
    rcases List.mem_cons.1 h with rfl | h
    · exact .inl hn
    · exact .inr (mem_weightsAll h hn)

theorem wts_of {ts vs : List TypeId} {ds : List (DataW H)} (h : (DataW.weightsEach P (ts ++ vs) (ds ++ [])).all (· ≤ reachBytes) = true) (hv : vs = []) : ∀ n ∈ DataW.weightsEach P ts ds, n ≤ reachBytes := by
  subst hv
  rw [List.append_nil, List.append_nil] at h
  intro n hn
  exact of_decide_eq_true (List.all_eq_true.1 h n hn)

theorem trod_CT : ∀ (f : Nat) (fuel : Nat) (t : TypeId) (xs : List Value) (x : DataW H × List MemPlace), okTy P f t = true → DataW.trod enc P w base spare held fuel t xs = some x → Wt P t x.1 →
    ∃ cs, RPs w No cs xs ∧ One xs ∧ CT P f t cs
  | 0, fuel, t, xs, x, hok, h, hwt => by simp [okTy] at hok
  | f + 1, fuel, t, xs, x, hok, h, hwt => by
    unfold okTy at hok
    unfold CT
    cases hu : P.underlying t with
    | none => simp [hu] at hok
    | some u =>
      rw [hu] at hok
      cases u <;> try (simp at hok; done)
      case bool =>
        obtain ⟨b, rfl, _⟩ := DataW.trod_bool hu h
        exact ⟨[.s (.bool b)], by simp [RPs, RP], one_single rfl, b, rfl⟩
      case int k =>
        obtain ⟨n, rfl, _, hw⟩ := DataW.trod_int hu h
        exact ⟨[.s (.int k n)], by simp [RPs, RP], one_single rfl, n, rfl, hw⟩
      case string =>
        obtain ⟨s, rfl, _, hs⟩ := DataW.trod_string hu h
        exact ⟨[.s (.string s)], by simp [RPs, RP], one_single rfl, s, rfl, hs⟩
      case slice e =>
        rcases DataW.trod_slice hu h with ⟨rfl, _⟩ | ⟨a, len, cap, elems, rest, n, rfl, rfl, rfl, _, hlc, hcm, hlen, hel, _⟩
        · refine ⟨[.sl .nil 0 []], ?_, one_single rfl, .inl rfl⟩
          simp only [RPs, RP]
          exact ⟨_, [], rfl, ⟨none, 0, [], rfl, ⟨rfl, rfl, rfl⟩, Nat.le_refl _, Nat.zero_le _, rfl, fun v hv => by simp at hv, fun hne => absurd rfl hne⟩, rfl⟩
        · simp only [Wt, DataW.weights, hu] at hwt
          have key : ∀ m, m ≤ len → ∃ (es : List (List PV)) (ys : List Value), es.length = m ∧ ys.length = m * P.cellsOf e ∧ RPs w No es.flatten ys ∧ One ys ∧ (∀ x ∈ es, CT P f e x) ∧ ∀ j, j < m * P.cellsOf e → w.cell? (a.add j) = ys[j]? := by
            intro m
            induction m with
            | zero => intro _; exact ⟨[], [], rfl, by simp, by simp [RPs], fun v hv => by simp at hv, fun x hx => by simp at hx, fun j hj => by simp at hj⟩
            | succ m ih =>
              intro hm
              obtain ⟨es, ys, h1, h2, h3, h4, h5, h6⟩ := ih (by omega)
              have h7 := hel m (by omega)
              rw [List.getElem?_eq_getElem (by omega)] at h7
              obtain ⟨zs, hz, htr⟩ := Option.bind_eq_some_iff.1 h7
              obtain ⟨_, hzl, hzc⟩ := World.cells?_some hz
              obtain ⟨cs, k1, k2, k3⟩ := trod_CT f _ e zs _ hok htr (fun n hn => hwt n (List.mem_cons_of_mem _ (List.mem_append_left _ (mem_weightsAll (List.mem_map.2 ⟨_, List.getElem_mem (by omega), rfl⟩) hn))))
              refine ⟨es ++ [cs], ys ++ zs, by simp [h1], by simp [h2, hzl, Nat.succ_mul], by simpa using h3.append k1, h4.append k2, fun x hx => ?_, fun j hj => ?_⟩
              · rcases List.mem_append.1 hx with hx | hx
                · exact h5 x hx
                · simp only [List.mem_singleton] at hx; exact hx ▸ k3
              · rcases Nat.lt_or_ge j (m * P.cellsOf e) with hlt | hge
                · rw [List.getElem?_append_left (by omega)]; exact h6 j hlt
                · obtain ⟨r, rfl⟩ : ∃ r, j = m * P.cellsOf e + r := ⟨j - m * P.cellsOf e, by omega⟩
                  rw [List.getElem?_append_right (by omega), h2, Nat.add_sub_cancel_left, ← hzc r (by rw [Nat.succ_mul] at hj; omega), Go.Deep.add_add]
          obtain ⟨es, ys, h1, h2, h3, h4, h5, h6⟩ := key len (Nat.le_refl _)
          refine ⟨[.sl .nn es.length es.flatten], ?_, one_single rfl, .inr ⟨es, rfl, ⟨by omega, ?_⟩, h5⟩⟩
          · simp only [RPs, RP]
            refine ⟨_, [], rfl, ⟨some a, cap, ys, by rw [h1], by simp [TagOk], by omega, hcm, h3, h4, fun _ => ⟨a, rfl, id, fun j v hj => ?_⟩⟩, rfl⟩
            rw [h6 j (by rw [← h2]; exact (List.getElem?_eq_some_iff.1 hj).1)]
            exact hj
          · refine Nat.le_trans (Nat.mul_le_mul_right _ ?_) (hwt _ List.mem_cons_self)
            simp only [List.length_map]; omega
      case struct fs =>
        simp only [Bool.and_eq_true, List.all_eq_true] at hok
        obtain ⟨ys, n, rfl, rfl, hl, hys, hf⟩ := DataW.trod_struct hu h
        simp only [Wt, DataW.weights, hu] at hwt
        have hall : ∀ g ∈ fs.toList, ∃ y, DataW.trod enc P w base spare held n g.type ((xs.drop g.offset).take (P.cellsOf g.type)) = some y ∧ Wt P g.type y.1 := by
          intro g hg
          obtain ⟨i, hi, hgi⟩ := List.mem_iff_getElem.1 hg
          have := hf i g (by rw [← hgi]; simp)
          rw [List.getElem?_eq_getElem (by rw [hys]; simpa using hi)] at this
          have hi2 : i < ys.length := by rw [hys]; simpa using hi
          refine ⟨_, this, fun m hm => hwt m (DataW.weights_mem_each (j := i) (t := g.type) (d := ys[i].1) ?_ ?_ m hm)⟩
          · rw [List.getElem?_map, List.getElem?_eq_getElem hi, hgi]; rfl
          · rw [List.getElem?_map, List.getElem?_eq_getElem hi2]; rfl
        have key : ∀ (gs : List Field) (o : Nat), contig P o xs.length gs = true → (∀ g ∈ gs, okTy P f g.type = true) → (∀ g ∈ gs, ∃ y, DataW.trod enc P w base spare held n g.type ((xs.drop g.offset).take (P.cellsOf g.type)) = some y ∧ Wt P g.type y.1) →
            ∃ cs, RPs w No cs (xs.drop o) ∧ One (xs.drop o) ∧ Parts (CT P f) (gs.map (·.type)) cs := by
          intro gs
          induction gs with
          | nil =>
            intro o hc _ _
            simp only [contig, beq_iff_eq] at hc
            subst hc
            exact ⟨[], by simp [RPs], fun v hv => by simp at hv, rfl⟩
          | cons g gs ih =>
            intro o hc ho ha
            simp only [contig, Bool.and_eq_true, beq_iff_eq] at hc
            obtain ⟨rfl, hc⟩ := hc
            obtain ⟨y, hy, hyw⟩ := ha g List.mem_cons_self
            obtain ⟨a, k1, k2, k3⟩ := trod_CT f _ g.type _ _ (ho g List.mem_cons_self) hy hyw
            obtain ⟨b, l1, l2, l3⟩ := ih _ hc (fun g' hg' => ho g' (List.mem_cons_of_mem _ hg')) (fun g' hg' => ha g' (List.mem_cons_of_mem _ hg'))
            have hsplit : xs.drop g.offset = (xs.drop g.offset).take (P.cellsOf g.type) ++ xs.drop (g.offset + P.cellsOf g.type) := by
              rw [← List.drop_drop, List.take_append_drop]
            rw [hsplit]
            exact ⟨a ++ b, k1.append l1, k2.append l2, a, b, rfl, k3, l3⟩
        have := key fs.toList 0 (by rw [hl]; exact hok.2) hok.1 hall
        simpa using this
      case array m e =>
        simp only [Bool.and_eq_true, beq_iff_eq] at hok
        obtain ⟨ys, n, rfl, rfl, hl, hys, hf⟩ := DataW.trod_array hu h
        simp only [Wt, DataW.weights, hu] at hwt
        have hall : ∀ i, i < m → ∃ y, DataW.trod enc P w base spare held n e ((xs.drop (i * P.cellsOf e)).take (P.cellsOf e)) = some y ∧ Wt P e y.1 := by
          intro i hi
          have := hf i hi
          rw [List.getElem?_eq_getElem (by omega)] at this
          exact ⟨_, this, fun n hn => hwt n (mem_weightsAll (List.mem_map.2 ⟨_, List.getElem_mem (by omega), rfl⟩) hn)⟩
        have key : ∀ k i, i + k = m → ∃ cs, RPs w No cs (xs.drop (i * P.cellsOf e)) ∧ One (xs.drop (i * P.cellsOf e)) ∧ Parts (CT P f) (List.replicate k e) cs := by
          intro k
          induction k with
          | zero =>
            intro i hi
            have : xs.drop (i * P.cellsOf e) = [] := by
              apply List.drop_eq_nil_of_le
              rw [hl, ← hok.2, show i = m by omega]
              exact Nat.le_refl _
            rw [this]
            exact ⟨[], by simp [RPs], fun v hv => by simp at hv, rfl⟩
          | succ k ih =>
            intro i hi
            obtain ⟨y, hy, hyw⟩ := hall i (by omega)
            obtain ⟨a, k1, k2, k3⟩ := trod_CT f _ e _ _ hok.1 hy hyw
            obtain ⟨b, l1, l2, l3⟩ := ih (i + 1) (by omega)
            have hsplit : xs.drop (i * P.cellsOf e) = (xs.drop (i * P.cellsOf e)).take (P.cellsOf e) ++ xs.drop ((i + 1) * P.cellsOf e) := by
              rw [Nat.succ_mul, ← List.drop_drop, List.take_append_drop]
            rw [hsplit, List.replicate_succ]
            exact ⟨a ++ b, k1.append l1, k2.append l2, a, b, rfl, k3, l3⟩
        have := key m 0 (by omega)
        simpa using this

def PT (P : Program) (f : Nat) (t : TypeId) (p : PV) : Prop :=
  match P.underlying t with
  | some (.struct _) => ∃ cs, p = .agg cs ∧ CT P f t cs
  | some (.array _ _) => ∃ cs, p = .agg cs ∧ CT P f t cs
  | _ => CT P f t [p]

def PTs (P : Program) (f : Nat) : List TypeId → List PV → Prop
  | [], ps => ps = []
  | t :: ts, ps => ∃ p qs, ps = p :: qs ∧ PT P f t p ∧ PTs P f ts qs

theorem CT_single {f : Nat} {t : TypeId} {cs : List PV} (h : CT P f t cs) (h1 : ∀ fs, P.underlying t ≠ some (.struct fs)) (h2 : ∀ n e, P.underlying t ≠ some (.array n e)) : ∃ p, cs = [p] := by
  cases f with
  | zero => exact h.elim
  | succ f =>
    unfold CT at h
    split at h
    · obtain ⟨b, rfl⟩ := h; exact ⟨_, rfl⟩
    · obtain ⟨n, rfl, _⟩ := h; exact ⟨_, rfl⟩
    · obtain ⟨s, rfl, _⟩ := h; exact ⟨_, rfl⟩
    · rcases h with rfl | ⟨es, rfl, _⟩ <;> exact ⟨_, rfl⟩
    · rename_i fs hu; exact absurd hu (h1 fs)
    · rename_i n e hu; exact absurd hu (h2 n e)
    · exact h.elim

theorem Trod_PT {f : Nat} {t : TypeId} {v : Value} {d : DataW H} {ps : List MemPlace} {r : Reach} {b0 : Nat} (hok : okTy P f t = true) (hval : Value.okWide P w r b0 t v) (h : DataW.Trod enc P w base spare held t v d ps) (hwt : Wt P t d) :
    ∃ p, RP w No p v ∧ PT P f t p := by
  obtain ⟨fuel, h⟩ := h
  obtain ⟨cs, h1, h2, h3⟩ := trod_CT f fuel t _ _ hok h hwt
  unfold PT
  unfold Value.okWide at hval
  split at hval
  · rename_i fs hu
    obtain ⟨ys, rfl, _⟩ := hval
    rw [hu]
    simp only [Value.cells] at h1 h2
    exact ⟨.agg cs, ⟨ys.toList, by simp, h1, h2⟩, cs, rfl, h3⟩
  · rename_i n e hu
    obtain ⟨ys, rfl, _⟩ := hval
    rw [hu]
    simp only [Value.cells] at h1 h2
    exact ⟨.agg cs, ⟨ys.toList, by simp, h1, h2⟩, cs, rfl, h3⟩
  · rename_i hs ha
    have hc : v.cells.toList = [v] := by
      cases v <;> first | rfl | skip
      exfalso
      unfold Cell.okWide at hval
      split at hval <;> try (rename_i hh; cases hh; done)
      all_goals try (unfold Cell.ok at hval; split at hval <;> simp_all; done)
      all_goals simp_all
    obtain ⟨p, rfl⟩ := CT_single h3 (fun fs hu => hs fs hu) (fun n e hu => ha n e hu)
    rw [hc] at h1
    simp only [RPs] at h1
    obtain ⟨x, xs', he, hx, rfl⟩ := h1
    simp only [List.cons.injEq, and_true] at he
    subst he
    refine ⟨p, hx, ?_⟩
    split
    · rename_i fs hu; exact absurd hu (hs fs)
    · rename_i n e hu; exact absurd hu (ha n e)
    · exact h3

theorem Trods_PT {f : Nat} {r : Reach} {b0 : Nat} : ∀ (ts : List TypeId) (vs : List Value) (ds : List (DataW H)) (ps : List MemPlace), ts.all (okTy P f) = true → (∀ (j : Nat) t v, ts[j]? = some t → vs[j]? = some v → Value.okWide P w r b0 t v) →
    DataW.TrodAll enc P w base spare held ts vs ds ps → (∀ n ∈ DataW.weightsEach P ts ds, n ≤ reachBytes) → ∃ qs, RPs w No qs vs ∧ PTs P f ts qs
  | [], vs, ds, ps, _, _, h, hwt => by
    obtain ⟨rfl, rfl, rfl⟩ := ChangeShapes.trodAll_nil h
    exact ⟨[], by simp [RPs], rfl⟩
  | t :: ts, vs, ds, ps, hok, hval, h, hwt => by
    obtain ⟨v, vs', d, ds', p, q, rfl, rfl, rfl, h1, h2⟩ := ChangeShapes.trodAll_cons h
    simp only [List.all_cons, Bool.and_eq_true] at hok
    simp only [DataW.weightsEach, List.mem_append] at hwt
    obtain ⟨y, k1, k2⟩ := Trod_PT hok.1 (hval 0 t v rfl rfl) h1 (fun n hn => hwt n (.inl hn))
    obtain ⟨qs, l1, l2⟩ := Trods_PT ts vs' ds' q hok.2 (fun j t' v' ht hv => hval (j + 1) t' v' ht hv) h2 (fun n hn => hwt n (.inr hn))
    exact ⟨y :: qs, by simp only [RPs]; exact ⟨v, vs', rfl, k1, l1⟩, y, qs, rfl, k2, l2⟩

theorem Below.trods {W W' : World} (hl : laidOutB P = true) (hb : Below W.heap.size W W') : ∀ (ts : List TypeId) (vs : List Value) (ds : List (DataW H)) (ps : List MemPlace), ts.all (fun t => P.readableRec t && decide (t < P.types.size)) = true →
    DataW.TrodAll enc P W 0 (fun _ => true) true ts vs ds ps → DataW.TrodAll enc P W' 0 (fun b => decide (b < W.heap.size)) true ts vs ds ps
  | [], vs, ds, ps, _, h => by
    obtain ⟨rfl, rfl, rfl⟩ := ChangeShapes.trodAll_nil h
    rfl
  | t :: ts, vs, ds, ps, hok, h => by
    obtain ⟨v, vs', d, ds', p, q, rfl, rfl, rfl, h1, h2⟩ := ChangeShapes.trodAll_cons h
    simp only [List.all_cons, Bool.and_eq_true, decide_eq_true_eq] at hok
    have hlt : ∀ x ∈ p, x.block < W.heap.size := by obtain ⟨m, hm⟩ := h1; exact DataW.trod_lt m _ _ _ hm
    exact trodAll_cons_mk (Go.RowKit.Below.trod hl hok.1.1 hok.1.2 h1 hb hlt) (Below.trods hl hb ts vs' ds' q (by simpa using hok.2) h2)
end
end Go.AE

