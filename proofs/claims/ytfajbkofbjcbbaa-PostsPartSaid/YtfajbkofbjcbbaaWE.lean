/- Walk: posts.Part. -/
import Derived.Test.YtfajbkofbjcbbaaWD
namespace Go.Proofs.Ytfajbkofbjcbbaa
open Go.RowKit

def lblCell (l : Lbl) : List Value := [.bool l.keyed, .string l.key, .int .u8 l.kind, .string l.text]
def lblCells : List Lbl → List Value
  | [] => []
  | l :: r => lblCell l ++ lblCells r
theorem lblCells_length (ls : List Lbl) : (lblCells ls).length = ls.length * 4 := by
  induction ls with
  | nil => rfl
  | cons l r ih => simp only [lblCells, List.length_append, ih, List.length_cons, lblCell, List.length_nil]; omega
theorem lblCells_append (a b : List Lbl) : lblCells (a ++ b) = lblCells a ++ lblCells b := by
  induction a with
  | nil => rfl
  | cons l r ih => simp only [List.cons_append, lblCells, ih, List.append_assoc]
theorem lblCells_one (ls : List Lbl) : ∀ u ∈ lblCells ls, u.oneCell' = true := by
  induction ls with
  | nil => simp [lblCells]
  | cons l r ih =>
    intro u hu
    rcases List.mem_append.1 hu with h | h
    · simp only [lblCell, List.mem_cons, List.not_mem_nil, or_false] at h
      rcases h with rfl | rfl | rfl | rfl <;> rfl
    · exact ih u h
theorem lblCells_drop (ls : List Lbl) (n : Nat) : lblCells (ls.drop n) = (lblCells ls).drop (n * 4) := by
  have h := lblCells_append (ls.take n) (ls.drop n)
  rw [List.take_append_drop] at h
  by_cases hn : n ≤ ls.length
  · rw [h, List.drop_left' (by rw [lblCells_length, List.length_take]; omega)]
  · rw [List.drop_eq_nil_of_le (by omega), List.drop_eq_nil_of_le (by rw [lblCells_length]; omega)]; rfl
theorem lblCells_take (ls : List Lbl) (n : Nat) : lblCells (ls.take n) = (lblCells ls).take (n * 4) := by
  have h := lblCells_append (ls.take n) (ls.drop n)
  rw [List.take_append_drop] at h
  by_cases hn : n ≤ ls.length
  · rw [h, List.take_left' (by rw [lblCells_length, List.length_take]; omega)]
  · rw [List.take_of_length_le (by omega), List.take_of_length_le (by rw [lblCells_length]; omega)]

/-- what the call says of no part -/
abbrev noPost : Value := .tuple #[.agg #[.slice none 0 0, .slice none 0 0, .slice none 0 0], .bool false]

set_option maxRecDepth 100000 in
set_option maxHeartbeats 1000000 in
theorem part_bad (S : Nat → Prop) (la fa ra : Option Addr) (lc fc nr rc : Nat) (ls : List Lbl) (xs : List Int) (node : Int) (w : World) (hf : At S w fa (intCells xs))
    (_hll : ls.length ≤ 16777216) (_hxl : xs.length ≤ 16777216) (hbad : ¬ partOk ls xs node) :
    Calls Try.prog 19 #[.agg #[.slice la ls.length lc, .slice fa xs.length fc, .slice ra nr rc], .int .i64 node] w fun e w' => e = .returned noPost ∧ Below w.heap.size w w' := by
  by_cases h1 : node < 0
  · have g1 : decide (node < 0) = true := by simpa using h1
    clear hbad h1
    go_enter Try.func19, Try.ntmps19
    go_wp2
    exact bodyPost_ret (v := noPost) (by simp [results, Try.results19, go_sem]) rfl ⟨rfl, ((Below.refl _ _).alloc (Nat.le_refl _) _).alloc (by simp) _⟩
  have g1 : decide (node < 0) = false := by simpa using h1
  by_cases h2 : (ls.length : Int) ≤ node
  · have g2 : decide ((ls.length : Int) ≤ node) = true := by simpa using h2
    clear hbad h1 h2
    go_enter Try.func19, Try.ntmps19
    go_wp2
    exact bodyPost_ret (v := noPost) (by simp [results, Try.results19, go_sem]) rfl ⟨rfl, ((Below.refl _ _).alloc (Nat.le_refl _) _).alloc (by simp) _⟩
  have g2 : decide ((ls.length : Int) ≤ node) = false := by simpa using h2
  by_cases h3 : ¬ xs.length = ls.length
  · have g3 : ((xs.length : Int) != (ls.length : Int)) = true := by simp; omega
    clear hbad h1 h2 h3
    go_enter Try.func19, Try.ntmps19
    go_wp2
    exact bodyPost_ret (v := noPost) (by simp [results, Try.results19, go_sem]) rfl ⟨rfl, ((Below.refl _ _).alloc (Nat.le_refl _) _).alloc (by simp) _⟩
  have h3 : xs.length = ls.length := Decidable.not_not.1 h3
  have g3 : ((xs.length : Int) != (ls.length : Int)) = false := by simp; omega
  have hn : node.toNat < xs.length := by omega
  obtain ⟨b1, o1, ha1, _, hc1⟩ := hf.getI hn
  subst ha1
  have e1 : xs[node.toNat]?.getD 0 = xs[node.toNat] := by rw [List.getElem?_eq_getElem hn]; rfl
  have hb1 : b1 < w.heap.size := World.block_lt_of_cell? w _ hc1
  have hnn : 0 ≤ node := by omega
  have hn2 : node < xs.length := by omega
  have H3 := Lib.hid h3
  have E1 := Lib.hid e1
  by_cases h4 : xs[node.toNat] < 0
  · have g4 : decide (xs[node.toNat] < 0) = true := by simpa using h4
    clear hbad h1 h2 h3 h4 e1
    go_enter Try.func19, Try.ntmps19
    go_wp2
    exact bodyPost_ret (v := noPost) (by simp [results, Try.results19, go_sem]) rfl ⟨rfl, ((Below.refl _ _).alloc (Nat.le_refl _) _).alloc (by simp) _⟩
  have g4 : decide (xs[node.toNat] < 0) = false := by simpa using h4
  have h5 : node < xs[node.toNat] := by
    by_cases h5 : node < xs[node.toNat]
    · exact h5
    · exact absurd ⟨by omega, by omega, h3, by rw [e1]; omega, by rw [e1]; omega⟩ hbad
  have g5 : decide (node < xs[node.toNat]) = true := by simpa using h5
  clear hbad h1 h2 h3 h4 h5 e1
  go_enter Try.func19, Try.ntmps19
  go_wp2
  exact bodyPost_ret (v := noPost) (by simp [results, Try.results19, go_sem]) rfl ⟨rfl, ((Below.refl _ _).alloc (Nat.le_refl _) _).alloc (by simp) _⟩

end Go.Proofs.Ytfajbkofbjcbbaa
