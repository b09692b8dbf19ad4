/- Memory: a row of entries; walks: slices.SortStableFunc of entries. -/
import Derived.Shelf.SlSortCmp.PdqK
import Derived.Laws.MakeOwn
import Derived.Test.YtfajbkofbjcbbaaWV
import Derived.Test.YtfajbkofbjcbbaaWW
import Derived.Test.YtfajbkofbjcbbaaPlainI
namespace Go.Proofs.Ytfajbkofbjcbbaa
open Go.RowKit Go.Sort Go.Shelf

/-- entries' cells, one behind the other -/
def entFlat (es : List En) : Array Value := flatK En.cells 6 es.toArray
theorem entFlat_size (es : List En) : (entFlat es).size = es.length * 6 := by simp [entFlat]
/-- block g is these entries -/
def Ents (w : World) (g : Nat) (es : List En) : Prop := Lies w g 75 (entFlat es)

theorem entFlat_get (es : List En) (i c : Nat) (hi : i < es.length) (hc : c < 6) : (entFlat es)[i * 6 + c]? = es[i].cells[c]? := by
  have hlt : i * 6 + c < (entFlat es).size := by rw [entFlat_size]; omega
  have h := get_flatK En.cells 6 es.toArray (i * 6 + c) (by simpa [entFlat] using hlt)
  rw [Array.getElem?_eq_getElem hlt]
  have e1 : (entFlat es)[i * 6 + c] = (entFlat es)[i * 6 + c]! := by rw [getElem!_pos]
  rw [e1]
  show some (flatK En.cells 6 es.toArray)[i * 6 + c]! = _
  rw [h, show (i * 6 + c) / 6 = i by omega, show (i * 6 + c) % 6 = c by omega, getL es i hi]
  rw [getElem!_pos _ c (by simpa [En.cells] using hc), List.getElem?_eq_getElem]
theorem Ents.cell {w : World} {g : Nat} {es : List En} (h : Ents w g es) {i c : Nat} (hi : i < es.length) (hc : c < 6) : w.cell? ⟨g, i * 6 + c, none⟩ = es[i].cells[c]? := by
  rw [Lies.cell h, entFlat_get es i c hi hc]
theorem Ents.cells {w : World} {g : Nat} {es : List En} (h : Ents w g es) {i : Nat} (hi : i < es.length) :
    w.cell? ⟨g, i * 6, none⟩ = some (.string es[i].key) ∧ w.cell? ⟨g, i * 6 + 1, none⟩ = some (.bool es[i].keyed) ∧ w.cell? ⟨g, i * 6 + 2, none⟩ = some (.int .u8 es[i].val.kind) ∧ w.cell? ⟨g, i * 6 + 3, none⟩ = some (.string es[i].val.text) ∧
    w.cell? ⟨g, i * 6 + 4, none⟩ = some (.slice es[i].la es[i].val.list.length es[i].lc) ∧ w.cell? ⟨g, i * 6 + 5, none⟩ = some (.slice es[i].ka es[i].val.keys.length es[i].kc) :=
  ⟨h.cell (c := 0) hi (by omega), h.cell (c := 1) hi (by omega), h.cell (c := 2) hi (by omega), h.cell (c := 3) hi (by omega), h.cell (c := 4) hi (by omega), h.cell (c := 5) hi (by omega)⟩
theorem Ents.holds {w : World} {g : Nat} {es : List En} (h : Ents w g es) : HoldsK En.cells 6 w g 0 es.toArray := by
  intro j hj
  have hj' : j < (entFlat es).size := hj
  refine ⟨?_, Lies.frozen h _⟩
  rw [Lies.cell h, Nat.zero_add, Array.getElem?_eq_getElem hj']
  show _ = some (id (entFlat es)[j]!)
  rw [getElem!_pos _ j hj']; rfl
theorem entFlat_made (n : Nat) : madeCells (Value.agg #[.string .empty, .bool false, .int .u8 0, .string .empty, .slice none 0 0, .slice none 0 0]).cells (n * 6) = entFlat (List.replicate n default) := by
  refine ext_get! (by rw [size_madeCells, entFlat_size]; simp) fun t ht => ?_
  rw [size_madeCells] at ht
  have h := get_flatK En.cells 6 (List.replicate n (default : En)).toArray t (by simpa using ht)
  show _ = (flatK En.cells 6 (List.replicate n (default : En)).toArray)[t]!
  rw [h, getL (List.replicate n (default : En)) (t / 6) (by simp; omega), List.getElem_replicate]
  have e : (madeCells (Value.agg #[.string .empty, .bool false, .int .u8 0, .string .empty, .slice none 0 0, .slice none 0 0]).cells (n * 6))[t]! = #[Value.string .empty, .bool false, .int .u8 0, .string .empty, .slice none 0 0, .slice none 0 0][t % 6]! := by
    rw [getElem!_pos _ t (by rw [size_madeCells]; exact ht)]
    simp only [madeCells, Array.getElem_map, Array.getElem_range]
    rfl
  rw [e]
  have h6 : t % 6 < 6 := Nat.mod_lt _ (by omega)
  generalize t % 6 = c at h6
  match c, h6 with
  | 0, _ => rfl
  | 1, _ => rfl
  | 2, _ => rfl
  | 3, _ => rfl
  | 4, _ => rfl
  | 5, _ => rfl

/-- a cell of the i-th entry is set -/
theorem entFlat_set (es : List En) (i : Nat) (_hi : i < es.length) (e : En) (cs : Array Value) (hs : cs.size = es.length * 6) (h1 : ∀ c, c < 6 → cs[i * 6 + c]? = e.cells[c]?) (h2 : ∀ t, t / 6 ≠ i → cs[t]? = (entFlat es)[t]?) : cs = entFlat (es.set i e) := by
  apply Array.ext_getElem?
  intro t
  by_cases ht : t < es.length * 6
  · have hq : t / 6 < es.length := by omega
    have hdiv : t = t / 6 * 6 + t % 6 := by omega
    have hm : t % 6 < 6 := Nat.mod_lt _ (by omega)
    have hr := entFlat_get (es.set i e) (t / 6) (t % 6) (by simpa using hq) hm
    rw [← hdiv] at hr
    rw [hr, List.getElem_set]
    by_cases hti : i = t / 6
    · rw [if_pos hti, ← h1 _ hm, hti, ← hdiv]
    · rw [if_neg hti, h2 t (fun h => hti h.symm)]
      have h3 := entFlat_get es (t / 6) (t % 6) hq hm
      rw [← hdiv] at h3
      exact h3
  · rw [Array.getElem?_eq_none (by omega), Array.getElem?_eq_none (by rw [entFlat_size]; simp; omega)]

theorem putCells_whole (F cur : Array Value) (h : F.size = cur.size) : putCells id 0 F cur = F := by
  refine ext_get! (by simp [putCells, h]) fun t ht => ?_
  have ht2 : t < cur.size := by simpa [putCells] using ht
  rw [getElem!_pos _ t ht]
  simp only [putCells, Array.getElem_mapIdx]
  rw [if_pos ⟨Nat.zero_le _, by omega⟩]
  simp

/-- behind a sort: the block, and all else -/
theorem sorted_block {w w' : World} {g : Nat} {es ms : List En} (h : Ents w g es) (hl : ms.length = es.length) (S : SWK En.cells 6 w g 0 ms.toArray w') : Ents w' g ms ∧ w.grownBy w' (some g) := by
  obtain ⟨m, os, rfl⟩ := S
  have hg := Lies.lt h
  have hh : w.heap[g]? = some (.cells (entFlat es) 75 (0, 0)) := h
  constructor
  · show (sortWorldK En.cells 6 w g 0 m ms.toArray os).heap[g]? = _
    have hh' : (Sort.ahead w m).heap[g]? = some (.cells (entFlat es) 75 (0, 0)) := hh
    simp only [sortWorldK, grow, putRowK, putRow, mapBlock]
    rw [Array.getElem?_append_left (by simpa using hg), Array.getElem?_modify, if_pos rfl, hh']
    simp only [Option.map_some, onCells]
    rw [putCells_whole _ _ (by rw [size_flatK, entFlat_size]; simp [hl])]
    rfl
  · refine ⟨rfl, rfl, rfl, ?_, fun b hb hne => ?_⟩
    · simp [sortWorldK, grow, putRowK, putRow, mapBlock, Sort.ahead]
    · have hbg : ¬ g = b := fun e => hne (by rw [e])
      simp only [sortWorldK, grow, putRowK, putRow, mapBlock]
      rw [Array.getElem?_append_left (by simpa using hb), Array.getElem?_modify, if_neg hbg]
      rfl

theorem cmpE_lays (g n : Nat) (w : World) : CmpLays Try.prog 92 #[] En.cells 6 cfE g 0 n w := fun m os dk _ x y => by
  refine (cmpE_any x y _).mono ?_
  rintro e w' ⟨rfl, rfl⟩
  refine ⟨rfl, 0, #[.cells x.cells.toArray 75 (0, 0)] ++ #[.cells y.cells.toArray 75 (0, 0)], ?_⟩
  rw [alloc_eq_grow, alloc_eq_grow, grow_grow]
  rfl

set_option maxHeartbeats 1000000 in
theorem sortStable_any (g : Nat) (es : List En) (w : World) (h : Ents w g es) (hl : es.length ≤ 16777216) (hix : es.Pairwise fun x y => x.num < y.num) :
    Calls Try.prog 91 #[.slice (some ⟨g, 0, none⟩) es.length es.length, .func (.func 92) #[] #[]] w fun e w' => e = .returned (.tuple #[]) ∧ Ents w' g (srtS ltE es) ∧ w.grownBy w' (some g) := by
  have R : RowK En.cells 6 w g 0 es.toArray := ⟨En.cells_length, En.cells_one, h.holds, Lies.lt h⟩
  have eg : ∀ args w, (callFunc 92 args).run Try.prog w = .ok (.enter 92 args) w := enters_of Try.func92 (by kernel_rfl) rfl
  have e111 : ∀ args w, (callFunc 111 args).run Try.prog w = .ok (.enter 111 args) w := enters_of Try.func111 (by kernel_rfl) rfl
  have hO : SWO (ltOf cfE) := by rw [ltOf_cfE]; exact swoE
  have HI : ∀ (d : Array En) (W : World) (a b : Nat), d.size = es.length → SWK En.cells 6 w g 0 d W → a ≤ b → b ≤ es.length → Calls Try.prog 111 #[.slice (some ⟨g, 0, none⟩) es.length es.length, .int .i64 a, .int .i64 b, .func (.func 92) #[] #[]] W
      fun e w' => e = .returned (.tuple #[]) ∧ SWK En.cells 6 w g 0 (Sort.insertionSort (ltOf cfE) d a b) w' := by
    intro d W a b hd hS hab hb
    have hc := AnyQ.insertionSortCmpFunc_w Try.fIns 6 Try.isAgg75 Try.sizeOf75 En.cells cfE 92 #[] g 0 es.length a b es.toArray d w W eg (by simpa using cmpE_lays g es.length w) R (by simpa using hd.symm) hS hO hab (by omega) (by omega)
    rw [hd] at hc
    exact hc
  have hst := stable_g (P := Try.prog) stL 6 Try.isAgg75 Try.sizeOf75 En.cells cfE hO 92 #[] g 0 es.length es.length es.toArray w eg (cmpE_lays g es.length w) R (by simp) (by omega) En.num es rfl hix e111 HI
  have HST := Lib.hid hst
  have HE := Lib.hid h
  have HIX := Lib.hid hix
  clear hst HI R h hix hO eg e111
  go_enter Try.func91, Try.ntmps91
  go_wp2_with fail
  refine HST.out.mono ?_
  rintro e w' ⟨rfl, hM⟩
  go_wp2
  go_end0
  obtain ⟨M, h1, h2, h3⟩ := hM.out
  have hM2 : M = srtS ltE es := by
    rw [ltOf_cfE] at h2
    exact stb_unique (h1.trans (srtS_perm ltE es).symm) h2 (srtS_stb swoE HIX.out)
  rw [hM2] at h3
  obtain ⟨q1, q2⟩ := sorted_block HE.out (srtS_length ltE es) h3
  exact ⟨rfl, q1, q2⟩
end Go.Proofs.Ytfajbkofbjcbbaa
