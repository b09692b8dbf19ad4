/- Plain Lean: roots of a postorder. -/
import Derived.Test.YtfajbkofbjcbbaaV
namespace Go.Proofs.Ytfajbkofbjcbbaa

/-- those that are the last of one number -/
def isRoot (xs : List Int) (i : Nat) : Bool := !(xs.drop (i + 1)).contains (xs[i]?.getD 0)
def rootsTo (xs : List Int) (k : Nat) : List Int := ((List.range k).filter (isRoot xs)).map Int.ofNat
def rootsOf (xs : List Int) : List Int := rootsTo xs xs.length
theorem rootsTo_succ (xs : List Int) (k : Nat) : rootsTo xs (k + 1) = rootsTo xs k ++ if isRoot xs k then [(k : Int)] else [] := by
  unfold rootsTo
  rw [List.range_succ, List.filter_append, List.map_append]
  by_cases h : isRoot xs k <;> simp [h]
theorem rootsTo_length (xs : List Int) (k : Nat) : (rootsTo xs k).length ≤ k := by
  unfold rootsTo
  rw [List.length_map]
  have := List.length_filter_le (isRoot xs) (List.range k)
  simpa using this

/-- what has been noted of the first k: the last place of each number -/
def Noted (xs ls : List Int) (k : Nat) : Prop :=
  ls.length = xs.length ∧ ∀ j, j < k → ∃ m : Nat, ls[(xs[j]?.getD 0).toNat]? = some (m : Int) ∧ j ≤ m ∧ m < k ∧ xs[m]?.getD 0 = xs[j]?.getD 0
theorem Noted.zero (xs : List Int) : Noted xs (List.replicate xs.length 0) 0 := ⟨by simp, fun j h => absurd h (by omega)⟩
theorem Noted.succ {xs ls : List Int} {k : Nat} (h : Noted xs ls k) (hk : k < xs.length) (hx : ∀ j, j < xs.length → 0 ≤ xs[j]?.getD 0 ∧ xs[j]?.getD 0 < xs.length) :
    Noted xs (ls.set (xs[k]?.getD 0).toNat (k : Int)) (k + 1) := by
  refine ⟨by simp [h.1], fun j hj => ?_⟩
  have hkk := hx k hk
  by_cases e : xs[j]?.getD 0 = xs[k]?.getD 0
  · refine ⟨k, ?_, by omega, by omega, e.symm⟩
    rw [e, List.getElem?_set, if_pos rfl, if_pos (by rw [h.1]; omega)]
  · have hjk : j ≠ k := by rintro rfl; exact e rfl
    obtain ⟨m, h1, h2, h3, h4⟩ := h.2 j (by omega)
    refine ⟨m, ?_, h2, by omega, h4⟩
    have hjj := hx j (by omega)
    rw [List.getElem?_set, if_neg (by omega)]
    exact h1
theorem Noted.root {xs ls : List Int} (h : Noted xs ls xs.length) {i : Nat} (hi : i < xs.length) :
    ∃ m : Nat, m < xs.length ∧ ls[(xs[i]?.getD 0).toNat]? = some (m : Int) ∧ ((m : Int) == (i : Int)) = isRoot xs i := by
  obtain ⟨m, h1, h2, h3, h4⟩ := h.2 i hi
  refine ⟨m, h3, h1, ?_⟩
  unfold isRoot
  rw [Bool.eq_iff_iff]
  simp only [beq_iff_eq, Bool.not_eq_true', List.contains_eq_any_beq, List.any_eq_false, beq_iff_eq]
  constructor
  · intro e x hx hxe
    obtain ⟨j, hj, rfl⟩ := List.getElem_of_mem hx
    rw [List.length_drop] at hj
    rw [List.getElem_drop] at hxe
    obtain ⟨m', g1, g2, g3, g4⟩ := h.2 (i + 1 + j) (by omega)
    have e2 : xs[i + 1 + j]?.getD 0 = xs[i]?.getD 0 := by rw [List.getElem?_eq_getElem (by omega)]; exact hxe.symm
    rw [e2, h1] at g1
    injection g1 with g1
    omega
  · intro hall
    by_cases e : m = i
    · rw [e]
    · exfalso
      have hm : (xs.drop (i + 1))[m - (i + 1)]? = some (xs[m]'h3) := by
        rw [List.getElem?_drop, show i + 1 + (m - (i + 1)) = m by omega, List.getElem?_eq_getElem h3]
      refine hall _ (List.mem_of_getElem? hm) ?_
      rw [List.getElem?_eq_getElem h3] at h4
      exact h4.symm
end Go.Proofs.Ytfajbkofbjcbbaa
