/- Walk: inarchref19.Part, no part. -/
import Derived.Test.YtfajbkofbjcbbaaWH
namespace Go.Proofs.Ytfajbkofbjcbbaa
open Go.RowKit

set_option maxRecDepth 100000 in
set_option maxHeartbeats 1000000 in
theorem refPart_bad (S : Nat → Prop) (la fa ra : Option Addr) (lc fc nr rc : Nat) (ls : List Lbl) (xs : List Int) (node : Int) (w : World) (hf : At S w fa (intCells xs))
    (_hll : ls.length ≤ 16777216) (_hxl : xs.length ≤ 16777216) (hbad : ¬ partOk ls xs node) :
    Calls Try.prog 20 #[.agg #[.slice la ls.length lc, .slice fa xs.length fc, .slice ra nr rc], .int .i64 node] w fun e w' => e = .returned noPost ∧ Below w.heap.size w w' := by
  have hfin : ∀ (tmps : Array Value) (W : World), tmps.getD 4 undef = .pointer (some ⟨w.heap.size + 1, 0, none⟩) → tmps.getD 5 undef = .bool false → Lies W (w.heap.size + 1) 38 #[.slice none 0 0, .slice none 0 0, .slice none 0 0] →
      (results Try.f20 tmps).run Try.prog W = .ok noPost W := fun tmps W h4 h5 hL => ret2 (p := 4) (u := 5) (ty := 38) rfl stRPost h4 h5 hL
  have hB : Below w.heap.size w (((w.alloc (.cells #[.slice la ls.length lc, .slice fa xs.length fc, .slice ra nr rc] 38)).alloc (.cells #[.slice none 0 0, .slice none 0 0, .slice none 0 0] 38)).alloc (.cells #[.slice none 0 0, .slice none 0 0, .slice none 0 0] 38)) :=
    (((Below.refl _ _).alloc (Nat.le_refl _) _).alloc (by simp) _).alloc (by simp; omega) _
  have hL := (lies_three w #[.slice la ls.length lc, .slice fa xs.length fc, .slice ra nr rc] 38 #[.slice none 0 0, .slice none 0 0, .slice none 0 0] 38 #[.slice none 0 0, .slice none 0 0, .slice none 0 0] 38).2.1
  have HFIN := Lib.hid hfin
  have HB := Lib.hid hB
  have HL := Lib.hid hL
  clear hfin hB hL
  by_cases h1 : node < 0
  · have g1 : decide (node < 0) = true := by simpa using h1
    clear hbad h1
    go_enter Try.func20, Try.ntmps20
    go_wp2
    exact bodyPost_ret (v := noPost) (HFIN.out _ _ rfl rfl HL.out) rfl ⟨rfl, HB.out⟩
  have g1 : decide (node < 0) = false := by simpa using h1
  by_cases h2 : (ls.length : Int) ≤ node
  · have g2 : decide ((ls.length : Int) ≤ node) = true := by simpa using h2
    clear hbad h1 h2
    go_enter Try.func20, Try.ntmps20
    go_wp2
    exact bodyPost_ret (v := noPost) (HFIN.out _ _ rfl rfl HL.out) rfl ⟨rfl, HB.out⟩
  have g2 : decide ((ls.length : Int) ≤ node) = false := by simpa using h2
  by_cases h3 : ¬ xs.length = ls.length
  · have g3 : ((xs.length : Int) != (ls.length : Int)) = true := by simp; omega
    clear hbad h1 h2 h3
    go_enter Try.func20, Try.ntmps20
    go_wp2
    exact bodyPost_ret (v := noPost) (HFIN.out _ _ rfl rfl HL.out) rfl ⟨rfl, HB.out⟩
  have h3 : xs.length = ls.length := Decidable.not_not.1 h3
  have g3 : ((xs.length : Int) != (ls.length : Int)) = false := by simp; omega
  have hn : node.toNat < xs.length := by omega
  obtain ⟨b1, o1, ha1, _, hc1⟩ := hf.getI hn
  subst ha1
  have e1 : xs[node.toNat]?.getD 0 = xs[node.toNat] := by rw [List.getElem?_eq_getElem hn]; rfl
  have hb1 : b1 < w.heap.size := World.block_lt_of_cell? w _ hc1
  have hb1' : b1 < w.heap.size + 1 := by omega
  have hb1'' : b1 < w.heap.size + 1 + 1 := by omega
  have hb1''' : b1 < w.heap.size + 2 := by omega
  have hnn : 0 ≤ node := by omega
  have hn2 : node < xs.length := by omega
  have H3 := Lib.hid h3
  have E1 := Lib.hid e1
  have hcase : decide (xs[node.toNat] < 0) = true ∨ (decide (xs[node.toNat] < 0) = false ∧ decide (node < xs[node.toNat]) = true) := by
    by_cases h4 : xs[node.toNat] < 0
    · exact .inl (by simpa using h4)
    · refine .inr ⟨by simpa using h4, ?_⟩
      by_cases h5 : node < xs[node.toNat]
      · simpa using h5
      · exact absurd ⟨by omega, by omega, h3, by rw [e1]; omega, by rw [e1]; omega⟩ hbad
  clear hbad h1 h2 h3 e1
  rcases hcase with g4 | ⟨g4, g5⟩
  all_goals
    go_enter Try.func20, Try.ntmps20
    go_wp2
    exact bodyPost_ret (v := noPost) (HFIN.out _ _ rfl rfl HL.out) rfl ⟨rfl, HB.out⟩

end Go.Proofs.Ytfajbkofbjcbbaa
