/- YtegjbjnmedgdoaaDoorAaLaid: a part of the proof; see the last text for what is proved. -/
import Derived.Test.YtegjbjnmedgdoaaDoorAaArg
import Derived.MakeChecks
import Derived.LaidLaws
import Derived.LaidHandle
import Derived.FnData
import Derived.OpenShut
namespace Go.AE

theorem glOk_laid {P : Program} {name : String} {D : DataW Unit} {g : Nat} {t E T : TypeId} {n : Nat} {k : IntKind} {zs : List Int} (hgl : gl = [(g, T, zs.map (Value.int k))])
    (hg : P.globalNamed name = some g) (ht : (P.globals[g]?).map (·.type) = some t) (hu : P.underlying t = some (.array n E)) (hE : P.underlying E = some (.int k))
    (hc : P.cellsOf E = 1) (hct : P.cellsOf t = n) (hn0 : 0 < n) (hD : D = .agg (zs.map fun z => .lit (.int k z))) {W : World} (h : laidMetH P [(name, D)] W) : GlOk W No := by
  rw [MakeChecks.laidMetH_plain _ _ _ (by rw [hD]; rfl)] at h
  obtain ⟨ps, ⟨g0, t0, cs0, f0, p0, q0, hg0, ht0, hv0, hd0, _, hps⟩, hnd, hfr⟩ := h
  obtain rfl := Option.some.inj (hg.symm.trans hg0)
  obtain rfl := Option.some.inj (ht.symm.trans ht0)
  obtain ⟨xs, m, rfl, hx, hlen, hn, hel⟩ := DataW.trod_array hu hd0
  rw [hD] at hx
  simp only [Prod.mk.injEq, DataW.agg.injEq] at hx
  have hzn : zs.length = n := by rw [← hn]; simpa using congrArg List.length hx.1
  have hcs : cs0.toList = zs.map (Value.int k) := by
    apply List.ext_getElem (by rw [hlen, hct, List.length_map, hzn])
    intro i h1 h2
    have hi : i < n := by rw [hlen, hct] at h1; exact h1
    have := hel i hi
    rw [hc, List.getElem?_eq_getElem (by omega)] at this
    obtain ⟨r, e1, e2, _⟩ := DataW.trod_int hE this
    have e3 : cs0.toList[i]? = some (.int k r) := by
      have := congrArg (fun l : List Value => l[0]?) e1
      simpa [List.getElem?_drop] using this
    rw [List.getElem?_eq_getElem h1] at e3
    rw [Option.some.inj e3]
    have e4 := congrArg (fun l : List (DataW Unit) => l[i]?) hx.1
    simp only [List.getElem?_map] at e4
    rw [List.getElem?_eq_getElem (by omega), List.getElem?_eq_getElem (by omega), e2] at e4
    simp at e4
    simp [e4]
  intro g' T' cs hm
  rw [hgl] at hm
  obtain ⟨rfl, rfl, rfl⟩ : g' = g ∧ T' = T ∧ cs = zs.map (Value.int k) := by simpa using hm
  refine ⟨?_, fun h => h⟩
  have h0 : MemPlace.cell g' 0 ∈ ps := by
    rw [hps, List.append_assoc]
    refine List.mem_append_left _ ?_
    have : 0 < cs0.size := by rw [← Array.length_toList, hlen, hct]; exact hn0
    unfold MemPlace.row
    exact List.mem_map.2 ⟨0, List.mem_range.2 this, by simp [Addr.add]⟩
  obtain ⟨⟨c, T', hb⟩, _⟩ := hfr g' 0 h0
  refine ⟨T', ?_⟩
  simp only [World.var?, hg, Option.bind_some, hb] at hv0
  rw [hb, Option.some.inj hv0, ← hcs, Array.toArray_toList]
end Go.AE
