/- Plain Lean: labels, postorders, a node's part. -/
import Derived.Test.YtfajbkofbjcbbaaPlainA
namespace Go.Proofs.Ytfajbkofbjcbbaa

/-- a node's label -/
structure Lbl where
  keyed : Bool
  key : ByteArray
  kind : Nat
  text : ByteArray

/-- a postorder -/
structure P3 where
  labels : List Lbl
  left : List Int
  roots : List Int

/-- may a node's part be taken? -/
def partOk (ls : List Lbl) (xs : List Int) (node : Int) : Prop :=
  0 ≤ node ∧ node < ls.length ∧ xs.length = ls.length ∧ 0 ≤ xs[node.toNat]?.getD 0 ∧ xs[node.toNat]?.getD 0 ≤ node
/-- from where on, and how many -/
def partFrom (xs : List Int) (node : Int) : Nat := (xs[node.toNat]?.getD 0).toNat
def partLen (xs : List Int) (node : Int) : Nat := node.toNat + 1 - partFrom xs node
/-- do the first k numbers of a part fit? -/
def partFits (xs : List Int) (node : Int) (k : Nat) : Prop :=
  ∀ i, i < k → (partFrom xs node : Int) ≤ xs[partFrom xs node + i]?.getD 0 ∧ xs[partFrom xs node + i]?.getD 0 ≤ (partFrom xs node + i : Nat)
def partLabels (ls : List Lbl) (xs : List Int) (node : Int) : List Lbl := (ls.drop (partFrom xs node)).take (partLen xs node)
def partLeft (xs : List Int) (node : Int) : List Int := ((xs.drop (partFrom xs node)).take (partLen xs node)).map (· - (partFrom xs node : Int))
/-- a node's part: false: it can't be had -/
noncomputable def partOf (ls : List Lbl) (xs : List Int) (node : Int) : Option P3 :=
  open Classical in
  if partOk ls xs node ∧ partFits xs node (partLen xs node) then some ⟨partLabels ls xs node, partLeft xs node, rootsOf (partLeft xs node)⟩ else none

theorem partLen_le {ls : List Lbl} {xs : List Int} {node : Int} (h : partOk ls xs node) : partFrom xs node + partLen xs node = node.toNat + 1 ∧ partFrom xs node + partLen xs node ≤ ls.length ∧ 1 ≤ partLen xs node := by
  obtain ⟨h1, h2, h3, h4, h5⟩ := h
  unfold partLen partFrom
  omega
theorem partLabels_length {ls : List Lbl} {xs : List Int} {node : Int} (h : partOk ls xs node) : (partLabels ls xs node).length = partLen xs node := by
  have := partLen_le h
  simp only [partLabels, List.length_take, List.length_drop]; omega
theorem partLeft_length {ls : List Lbl} {xs : List Int} {node : Int} (h : partOk ls xs node) : (partLeft xs node).length = partLen xs node := by
  have := partLen_le h
  have := h.2.2.1
  simp only [partLeft, List.length_map, List.length_take, List.length_drop]; omega
theorem partLeft_get {ls : List Lbl} {xs : List Int} {node : Int} (h : partOk ls xs node) {i : Nat} (hi : i < partLen xs node) : (partLeft xs node)[i]?.getD 0 = xs[partFrom xs node + i]?.getD 0 - partFrom xs node := by
  have h1 := partLen_le h
  have h2 := h.2.2.1
  have hl : partFrom xs node + i < xs.length := by omega
  simp only [partLeft, List.getElem?_map, List.getElem?_take, if_pos hi, List.getElem?_drop, List.getElem?_eq_getElem hl, Option.map_some, Option.getD_some]
theorem partLeft_fits {ls : List Lbl} {xs : List Int} {node : Int} (h : partOk ls xs node) (hf : partFits xs node (partLen xs node)) :
    ∀ j, j < (partLeft xs node).length → 0 ≤ (partLeft xs node)[j]?.getD 0 ∧ (partLeft xs node)[j]?.getD 0 < (partLeft xs node).length := by
  intro j hj
  rw [partLeft_length h] at hj ⊢
  rw [partLeft_get h hj]
  have := hf j hj
  omega

end Go.Proofs.Ytfajbkofbjcbbaa
