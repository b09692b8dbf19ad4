/- Walks: rows of whole numbers. -/
import Derived.Test.YtfajbkofbjcbbaaWA
import Derived.Test.YtfajbkofbjcbbaaMemOps
import Derived.StillTailTactics
namespace Go.Proofs.Ytfajbkofbjcbbaa
open Go.RowKit

theorem _root_.Go.RowKit.Below.grownAt {B : Nat} {a w w' : World} {g : Nat} (h : Below B a w) (hg : w.grownBy w' (some g)) (hB : B ≤ w.heap.size) (hle : B ≤ g) : Below B a w' :=
  h.grown hg hB (fun k e => by injection e with e; omega)

theorem elInt : Elem Try.prog 31 3 (.int .i64 0) 1 8 := by
  obtain ⟨i, h1, h2, h3, h4⟩ := info_parts (P := Try.prog) (e := 3) (z := .int .i64 0) (size := 1) (bytes := 8) (by kernel_rfl)
  exact ⟨Try.underlying31, ⟨i, h1, h2, h3, h4⟩, rfl, by decide, by decide⟩

set_option maxHeartbeats 400000 in
theorem sameNums_any (S T : Nat → Prop) (aa ab : Option Addr) (ca cb : Nat) (xs ys : List Int) (w : World) (hx : At S w aa (intCells xs)) (hy : At T w ab (intCells ys))
    (hxl : xs.length ≤ 16777216) (hyl : ys.length ≤ 16777216) :
    Calls Try.prog 38 #[.slice aa xs.length ca, .slice ab ys.length cb] w fun e w' => e = .returned (.bool (decide (xs = ys))) ∧ ∃ n, w' = w.drewN n := by
  by_cases hl : xs.length = ys.length
  · have hl1 : ((xs.length : Int) != (ys.length : Int)) = false := by simp [hl]
    have HX := Lib.hid hx
    have HY := Lib.hid hy
    have HL := Lib.hid hl
    clear hx hy hl
    go_enter Try.func38, Try.ntmps38
    go_wp2
    go_loopw [5] (fun i wr => ∃ k n : Nat, k ≤ xs.length ∧ i = .int .i64 k ∧ wr = w.drewN n ∧ Hid (xs.take k = ys.take k)) (fun i _ => xs.length - (intOf i).toNat)
    case atStart => exact ⟨0, 0, Nat.zero_le _, rfl, rfl, rfl⟩
    case round =>
      obtain ⟨k, n, hk, rfl, rfl, HEQ⟩ := hrel
      by_cases hlt : k < xs.length
      · have hlt2 : k < ys.length := by have := HL.out; omega
        obtain ⟨b1, o1, ha1, _, hc1⟩ := HX.out.getI hlt
        obtain ⟨b2, o2, ha2, _, hc2⟩ := HY.out.getI hlt2
        subst ha1 ha2
        by_cases he : xs[k] = ys[k]
        · have he1 : (xs[k] != ys[k]) = false := by simp [he]
          have HE := Lib.hid he
          clear he
          go_wp2
          go_quiet (fail)
          go_wp2
          go_roundw
          case rel =>
            refine ⟨k + 1, n + nq, by omega, by go_num, by simp, ?_⟩
            show _ = _
            rw [List.take_succ_eq_append_getElem hlt, List.take_succ_eq_append_getElem hlt2, HEQ.out, HE.out]
          case measure => simp [intOf]; omega
        · have he1 : (xs[k] != ys[k]) = true := by simp [he]
          have HE := Lib.hid he
          clear he
          go_wp2
          go_quiet (fail)
          go_wp2
          go_ret
          have hne : ¬ xs = ys := fun h => HE.out (by subst h; rfl)
          exact ⟨by simp [hne], n + nq, by simp⟩
      · have hk2 : k = xs.length := by omega
        have HK := Lib.hid hk2
        clear hk2
        go_wp2
        go_ret
        have h := HEQ.out
        rw [HK.out, List.take_length, HL.out, List.take_length] at h
        exact ⟨by simp [h], n, rfl⟩
  · have hl1 : ((xs.length : Int) != (ys.length : Int)) = true := by simp; omega
    go_enter Try.func38, Try.ntmps38
    go_wp2
    go_ret
    have hne : ¬ xs = ys := fun h => hl (by rw [h])
    exact ⟨by simp [hne], 0, rfl⟩

set_option maxHeartbeats 400000 in
theorem twinNums_any (S : Nat → Prop) (a : Option Addr) (c : Nat) (xs : List Int) (w : World) (hx : At S w a (intCells xs)) (hxl : xs.length ≤ 16777216) :
    Calls Try.prog 21 #[.slice a xs.length c] w fun e w' => e = .returned (.slice (some ⟨w.heap.size, 0, none⟩) xs.length (xs.length + 2)) ∧
      w'.ownsRow w.heap.size 3 1 (.slice (some ⟨w.heap.size, 0, none⟩) (xs.length + 2) (xs.length + 2)) (xs.length + 2) (intCells (xs ++ [90, 90])) ∧ Below w.heap.size w w' := by
  have hmk : ∀ u : World, (Instr.makeSlice 31 (.int .i64 0) (.int .i64 ((xs.length : Int) + 2))).run Try.prog u = .ok (.slice (some ⟨u.heap.size, 0, none⟩) 0 (xs.length + 2)) (u.alloc (.cells (madeCells (Value.int .i64 0).cells ((xs.length + 2) * 1)) 3)) :=
    fun u => run_mk (P := Try.prog) u elInt .i64 .i64 0 (xs.length + 2) (Nat.zero_le _) (by omega)
  have hown := own_made (w := w) (e := 3) (Value.int .i64 0) 1 (xs.length + 2) (B := w.heap.size) (Nat.le_refl _) (by omega)
  have hB : Below w.heap.size w (w.alloc (.cells (madeCells (Value.int .i64 0).cells ((xs.length + 2) * 1)) 3)) := (Below.refl _ _).alloc (Nat.le_refl _) _
  have hx1 := hx.keep (Keeps.of_ext hB)
  have hlen := intCells_length xs
  have HX := Lib.hid hx1
  have HB := Lib.hid hB
  have HOWN := Lib.hid hown
  have HLEN := Lib.hid hlen
  clear hx hx1 hown hB hlen
  generalize madeCells (Value.int .i64 0).cells ((xs.length + 2) * 1) = mc at *
  go_enter Try.func21, Try.ntmps21
  go_wp2_with (first | (at_builtin; refine wpList_fit _ rfl elInt (.tmp 8) (.tmp 9) rfl w.heap.size w.heap.size 0 (xs.length + 2) [] rfl HOWN.out S a xs.length c (intCells xs) rfl (by rw [HLEN.out, Nat.mul_one]) HX.out (intCells_one _) (by omega) ?_; intro w1 hown1 hg1; simp only [Nat.zero_add, List.nil_append] at hown1 ⊢; have HOWN1 := Lib.hid (hown1.alloc (.cells #[.int .i64 90, .int .i64 90] 3)); have HG1 := Lib.hid hg1; clear hown1 hg1) | (at_builtin; refine wpList_fit _ rfl elInt (.tmp 11) (.tmp 12) rfl w.heap.size w.heap.size xs.length (xs.length + 2) (intCells xs) rfl HOWN1.out (fun _ => True) (some ⟨w1.heap.size, 0, none⟩) 2 2 (intCells [90, 90]) rfl rfl (fun _ => ⟨_, 0, rfl, trivial, fun j u hu => by simpa [intCells] using hu⟩) (intCells_one _) (by omega) ?_; intro w2 hown2 hg2; have HOWN2 := Lib.hid hown2; have HG2 := Lib.hid hg2; clear hown2 hg2))
  go_ret
  have h1 : Below w.heap.size w w1 := HB.out.grownAt HG1.out (by simp) (Nat.le_refl _)
  refine ⟨rfl, by simpa [intCells] using HOWN2.out, ?_⟩
  exact (h1.alloc h1.size _).grownAt HG2.out (by have := h1.size; simp; omega) (Nat.le_refl _)

set_option maxHeartbeats 400000 in
theorem leftNums_any (S T : Nat → Prop) (g : Nat) (a : Option Addr) (c : Nat) (xs : List Int) (w : World) (hx : At S w (some ⟨g, 0, none⟩) (intCells (xs ++ [90, 90]))) (hy : At T w a (intCells xs)) (hxl : xs.length ≤ 16777216) :
    Calls Try.prog 23 #[.slice (some ⟨g, 0, none⟩) xs.length (xs.length + 2), .slice a xs.length c] w fun e w' => e = .returned (.bool true) ∧ ∃ n, w' = w.drewN n := by
  have hx1 : At S w (some ⟨g, 0, none⟩) (intCells xs) := by
    have h := hx.take xs.length
    rw [intCells_append, List.take_left' (by rw [intCells_length])] at h
    exact h
  have hcall : Calls Try.prog 38 #[.slice (some ⟨g, 0, none⟩) xs.length (xs.length + 2), .slice a xs.length c] w fun e w' => e = .returned (.bool true) ∧ ∃ n, w' = w.drewN n :=
    (sameNums_any S T _ a _ c xs xs w hx1 hy hxl hxl).mono fun e w' ⟨h1, h2⟩ => ⟨by simpa using h1, h2⟩
  have hc : ∃ k, k < 2 → True := ⟨0, fun _ => trivial⟩
  have hc0 : w.cell? ⟨g, xs.length, none⟩ = some (.int .i64 90) := by
    obtain ⟨b, o, ha, _, h⟩ := hx.getI (i := xs.length) (by simp)
    injection ha with ha
    injection ha with h1 h2
    subst h1 h2
    simpa using h
  have hc1 : w.cell? ⟨g, xs.length + 1, none⟩ = some (.int .i64 90) := by
    obtain ⟨b, o, ha, _, h⟩ := hx.getI (i := xs.length + 1) (by simp)
    injection ha with ha
    injection ha with h1 h2
    subst h1 h2
    simpa using h
  have HC := Lib.hid hcall
  clear hx hy hx1 hcall hc
  go_enter Try.func23, Try.ntmps23
  go_wp2_with (go_at_call 38; refine (HC.out).mono ?_; rintro e w' ⟨rfl, n, rfl⟩)
  go_ret
  exact ⟨rfl, _, rfl⟩

end Go.Proofs.Ytfajbkofbjcbbaa
