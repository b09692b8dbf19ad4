/- Plain Lean: no key twice, by the sorted list. -/
import Derived.Lib.SlicesCompact
import Derived.Sort.KeysCollected
import Derived.Test.YtfajbkofbjcbbaaPlainC
namespace Go.Proofs.Ytfajbkofbjcbbaa

/-- a string's bytes -/
def toL (k : ByteArray) : List UInt8 := k.data.toList

theorem encL (k : ByteArray) : encStr (toL k) = .string k := by simp [encStr, toL]
theorem toL_inj {x y : ByteArray} (h : toL x = toL y) : x = y := by
  have e : x.data = y.data := Array.toList_inj.1 h
  cases x; cases y; simpa using e
theorem toL_beq (x y : ByteArray) : (x.toList == y.toList) = (toL x == toL y) := by
  rw [ByteArray.toList_eq, ByteArray.toList_eq]; rfl

theorem nodupB_iff (ks : List ByteArray) : nodupB ks = true ↔ (ks.map toL).Nodup := by
  induction ks with
  | nil => simp [nodupB]
  | cons k r ih =>
    simp only [nodupB, Bool.and_eq_true, ih, List.map_cons, List.nodup_cons, Bool.not_eq_true', List.any_eq_false, List.mem_map, not_exists, not_and]
    constructor
    · rintro ⟨h1, h2⟩
      exact ⟨fun x hx he => h1 x hx (by rw [toL_beq, he]; simp), h2⟩
    · rintro ⟨h1, h2⟩
      exact ⟨fun x hx he => h1 x hx (by rw [toL_beq] at he; simpa using he), h2⟩

/-- sorted: distinct side by side is distinct -/
theorem nodup_of_adj {l : List (List UInt8)} (hp : l.Pairwise (· ≤ ·)) (ha : ∀ j, j + 1 < l.length → l[j]? ≠ l[j + 1]?) : l.Nodup := by
  induction l with
  | nil => exact List.nodup_nil
  | cons x r ih =>
    have hr : r.Nodup := ih (List.pairwise_cons.1 hp).2 (fun j hj => by have := ha (j + 1) (by simpa using hj); simpa using this)
    refine List.nodup_cons.2 ⟨fun hm => ?_, hr⟩
    cases r with
    | nil => cases hm
    | cons y r =>
      have hxy : x ≤ y := (List.pairwise_cons.1 hp).1 y (by simp)
      have hne : x ≠ y := by have := ha 0 (by simp); simpa using this
      rcases List.mem_cons.1 hm with rfl | hm'
      · exact hne rfl
      · have hyx : y ≤ x := (List.pairwise_cons.1 (List.pairwise_cons.1 hp).2).1 x hm'
        exact hne (List.le_antisymm hxy hyx)

theorem compact_len {l : List (List UInt8)} (hp : l.Pairwise (· ≤ ·)) : (Lib.compact l).length = l.length ↔ l.Nodup := by
  have e : (Lib.compact l).length = ((List.range l.length).filter (Lib.keeps l.toArray)).length := by simp [Lib.compact, Lib.compactUpTo]
  have e2 : ((List.range l.length).filter (Lib.keeps l.toArray)).length = l.length ↔ ∀ j, j < l.length → Lib.keeps l.toArray j = true := by
    have h0 : (List.range l.length).length = l.length := List.length_range
    constructor
    · intro h j hj
      have h1 := List.length_filter_eq_length_iff.1 (h.trans h0.symm)
      exact h1 j (List.mem_range.2 hj)
    · intro h
      have h1 := List.length_filter_eq_length_iff.2 (fun j hj => h j (List.mem_range.1 hj))
      exact h1.trans h0
  rw [e, e2]
  constructor
  · intro h
    refine nodup_of_adj hp fun j hj he => ?_
    have := h (j + 1) hj
    simp only [Lib.keeps, decide_eq_true_eq] at this
    rcases this with h | h
    · omega
    · apply h
      simp only [Nat.add_sub_cancel, List.getElem!_toArray, List.getElem!_eq_getElem?_getD, he]
  · intro h j hj
    simp only [Lib.keeps, decide_eq_true_eq]
    by_cases h0 : j = 0
    · exact .inl h0
    · right
      intro he
      simp only [List.getElem!_toArray, List.getElem!_eq_getElem?_getD, List.getElem?_eq_getElem hj, List.getElem?_eq_getElem (show j - 1 < l.length by omega), Option.getD_some] at he
      exact (List.pairwise_iff_getElem.1 h (j - 1) j (by omega) hj (by omega)) he.symm

/-- no key twice: the sorted keys, compacted, are as many -/
theorem compact_iff (ks : List ByteArray) : ((Lib.compact ((ks.map toL).mergeSort fun x y => decide (x ≤ y))).length == ks.length) = nodupB ks := by
  have tr : ∀ a b c : List UInt8, leB a b = true → leB b c = true → leB a c = true := fun a b c h1 h2 => by simp only [leB, decide_eq_true_eq] at *; exact List.le_trans h1 h2
  have to : ∀ a b : List UInt8, (leB a b || leB b a) = true := fun a b => by simp only [leB, Bool.or_eq_true, decide_eq_true_eq]; exact List.le_total a b
  have hp : ((ks.map toL).mergeSort fun x y => decide (x ≤ y)).Pairwise (· ≤ ·) := (List.pairwise_mergeSort (le := leB) tr to (ks.map toL)).imp fun h => by simpa [leB] using h
  have hl : ((ks.map toL).mergeSort fun x y => decide (x ≤ y)).length = ks.length := by simp
  rw [Bool.eq_iff_iff, nodupB_iff, beq_iff_eq, ← (List.mergeSort_perm (ks.map toL) (fun x y => decide (x ≤ y))).nodup_iff, ← compact_len hp, hl]

theorem strCells_enc (ks : List ByteArray) : ks.map Value.string = (ks.map toL).map encStr := by
  rw [List.map_map]; exact List.map_congr_left fun k _ => (encL k).symm
end Go.Proofs.Ytfajbkofbjcbbaa
