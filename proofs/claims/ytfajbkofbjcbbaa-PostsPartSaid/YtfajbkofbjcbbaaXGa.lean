/- A node's part, whatever the node: the two functions' contracts in one form. -/
import Derived.Test.YtfajbkofbjcbbaaXF
namespace Go.Proofs.Ytfajbkofbjcbbaa
open Go.RowKit Go.Sort Go.Shelf

/-- can it be had? -/
def PartYes (ls : List Lbl) (xs : List Int) (node : Int) : Prop := partOk ls xs node ∧ partFits xs node (partLen xs node)
open Classical in
noncomputable def pLbl (ls : List Lbl) (xs : List Int) (node : Int) : List Lbl := if PartYes ls xs node then partLabels ls xs node else []
open Classical in
noncomputable def pLeft (ls : List Lbl) (xs : List Int) (node : Int) : List Int := if PartYes ls xs node then partLeft xs node else []
open Classical in
noncomputable def pRoots (ls : List Lbl) (xs : List Int) (node : Int) : List Int := if PartYes ls xs node then rootsOf (partLeft xs node) else []
open Classical in
noncomputable def pIs (ls : List Lbl) (xs : List Int) (node : Int) : Bool := decide (PartYes ls xs node)

theorem pLbl_le (ls : List Lbl) (xs : List Int) (node : Int) : (pLbl ls xs node).length ≤ ls.length := by
  unfold pLbl; split
  · simp only [partLabels, List.length_take, List.length_drop]; omega
  · simp
theorem pLeft_le (ls : List Lbl) (xs : List Int) (node : Int) : (pLeft ls xs node).length ≤ xs.length := by
  unfold pLeft; split
  · simp only [partLeft, List.length_map, List.length_take, List.length_drop]; omega
  · simp
theorem rootsOf_le (xs : List Int) : (rootsOf xs).length ≤ xs.length := rootsTo_length xs xs.length
theorem pRoots_le (ls : List Lbl) (xs : List Int) (node : Int) : (pRoots ls xs node).length ≤ xs.length := by
  unfold pRoots; split
  · refine Nat.le_trans (rootsOf_le _) ?_
    simp only [partLeft, List.length_map, List.length_take, List.length_drop]; omega
  · simp

/-- what posts.Part comes to -/
def PartRes (ls : List Lbl) (xs : List Int) (node : Int) (w : World) (e : Ending) (w' : World) : Prop :=
  ∃ la fa ra : Option Addr, e = .returned (.tuple #[.agg #[.slice la (pLbl ls xs node).length (pLbl ls xs node).length, .slice fa (pLeft ls xs node).length (pLeft ls xs node).length, .slice ra (pRoots ls xs node).length (pRoots ls xs node).length], .bool (pIs ls xs node)]) ∧
    AtW (fun b => w.heap.size ≤ b) w' la (lblCells (pLbl ls xs node)) ∧ AtW (fun b => w.heap.size ≤ b) w' fa (intCells (pLeft ls xs node)) ∧ AtW (fun b => w.heap.size ≤ b) w' ra (intCells (pRoots ls xs node)) ∧ Below w.heap.size w w'
/-- what the document's comes to -/
def RPartRes (ls : List Lbl) (xs : List Int) (node : Int) (w : World) (e : Ending) (w' : World) : Prop :=
  ∃ (la fa ra : Option Addr) (lc fc rc : Nat), e = .returned (.tuple #[.agg #[.slice la (pLbl ls xs node).length lc, .slice fa (pLeft ls xs node).length fc, .slice ra (pRoots ls xs node).length rc], .bool (pIs ls xs node)]) ∧
    At (fun b => w.heap.size ≤ b) w' la (lblCells (pLbl ls xs node)) ∧ At (fun b => w.heap.size ≤ b) w' fa (intCells (pLeft ls xs node)) ∧ At (fun b => w.heap.size ≤ b) w' ra (intCells (pRoots ls xs node)) ∧ Below w.heap.size w w'

theorem part_any (S : Nat → Prop) (la fa ra : Option Addr) (lc fc nr rc : Nat) (ls : List Lbl) (xs : List Int) (node : Int) (w : World) (hl : At S w la (lblCells ls)) (hf : At S w fa (intCells xs))
    (hlc : ls.length ≤ lc) (hfc : xs.length ≤ fc) (hll : ls.length ≤ 16777216) (hxl : xs.length ≤ 16777216) (hlb : lc ≤ 9223372036854775807) (hfb : fc ≤ 9223372036854775807) :
    Calls Try.prog 19 #[.agg #[.slice la ls.length lc, .slice fa xs.length fc, .slice ra nr rc], .int .i64 node] w fun e w' => PartRes ls xs node w e w' := by
  by_cases hok : partOk ls xs node
  · refine (part_ok S la fa ra lc fc nr rc ls xs node w hl hf hlc hfc hll hlb hfb hok).mono fun e w' ⟨h1, h2, h3⟩ => ?_
    by_cases hfit : partFits xs node (partLen xs node)
    · obtain ⟨la', fa', ra', rfl, k1, k2, k3⟩ := h1 hfit
      have hy : PartYes ls xs node := ⟨hok, hfit⟩
      refine ⟨la', fa', ra', ?_, ?_, ?_, ?_, h3⟩
      · simp [pLbl, pLeft, pRoots, pIs, hy]
      · simp only [pLbl, if_pos hy]; exact k1
      · simp only [pLeft, if_pos hy]; exact k2
      · simp only [pRoots, if_pos hy]; exact k3
    · have hy : ¬ PartYes ls xs node := fun h => hfit h.2
      refine ⟨none, none, none, ?_, ?_, ?_, ?_, h3⟩
      · rw [h2 hfit]; simp [pLbl, pLeft, pRoots, pIs, hy]
      · simp only [pLbl, if_neg hy]; exact AtW.nil _ _ _
      · simp only [pLeft, if_neg hy]; exact AtW.nil _ _ _
      · simp only [pRoots, if_neg hy]; exact AtW.nil _ _ _
  · refine (part_bad S la fa ra lc fc nr rc ls xs node w hf hll hxl hok).mono fun e w' ⟨h1, h3⟩ => ?_
    have hy : ¬ PartYes ls xs node := fun h => hok h.1
    refine ⟨none, none, none, ?_, ?_, ?_, ?_, h3⟩
    · rw [h1]; simp [pLbl, pLeft, pRoots, pIs, hy]
    · simp only [pLbl, if_neg hy]; exact AtW.nil _ _ _
    · simp only [pLeft, if_neg hy]; exact AtW.nil _ _ _
    · simp only [pRoots, if_neg hy]; exact AtW.nil _ _ _

theorem rpart_any (S : Nat → Prop) (la fa ra : Option Addr) (lc fc nr rc : Nat) (ls : List Lbl) (xs : List Int) (node : Int) (w : World) (hl : At S w la (lblCells ls)) (hf : At S w fa (intCells xs))
    (hll : ls.length ≤ 16777216) (hxl : xs.length ≤ 16777216) :
    Calls Try.prog 20 #[.agg #[.slice la ls.length lc, .slice fa xs.length fc, .slice ra nr rc], .int .i64 node] w fun e w' => RPartRes ls xs node w e w' := by
  by_cases hok : partOk ls xs node
  · refine (refPart_any S la fa ra lc fc nr rc ls xs node w hl hf hll hxl hok).mono fun e w' ⟨h1, h2, h3⟩ => ?_
    by_cases hfit : partFits xs node (partLen xs node)
    · obtain ⟨la', fa', ra', lc', fc', rc', rfl, k1, k2, k3⟩ := h1 hfit
      have hy : PartYes ls xs node := ⟨hok, hfit⟩
      refine ⟨la', fa', ra', lc', fc', rc', ?_, ?_, ?_, ?_, h3⟩
      · simp [pLbl, pLeft, pRoots, pIs, hy]
      · simp only [pLbl, if_pos hy]; exact k1
      · simp only [pLeft, if_pos hy]; exact k2
      · simp only [pRoots, if_pos hy]; exact k3
    · have hy : ¬ PartYes ls xs node := fun h => hfit h.2
      refine ⟨none, none, none, 0, 0, 0, ?_, ?_, ?_, ?_, h3⟩
      · rw [h2 hfit]; simp [pLbl, pLeft, pRoots, pIs, hy]
      · simp only [pLbl, if_neg hy]; exact At.nil _ _ _
      · simp only [pLeft, if_neg hy]; exact At.nil _ _ _
      · simp only [pRoots, if_neg hy]; exact At.nil _ _ _
  · refine (refPart_bad S la fa ra lc fc nr rc ls xs node w hf hll hxl hok).mono fun e w' ⟨h1, h3⟩ => ?_
    have hy : ¬ PartYes ls xs node := fun h => hok h.1
    refine ⟨none, none, none, 0, 0, 0, ?_, ?_, ?_, ?_, h3⟩
    · rw [h1]; simp [pLbl, pLeft, pRoots, pIs, hy]
    · simp only [pLbl, if_neg hy]; exact At.nil _ _ _
    · simp only [pLeft, if_neg hy]; exact At.nil _ _ _
    · simp only [pRoots, if_neg hy]; exact At.nil _ _ _
end Go.Proofs.Ytfajbkofbjcbbaa
