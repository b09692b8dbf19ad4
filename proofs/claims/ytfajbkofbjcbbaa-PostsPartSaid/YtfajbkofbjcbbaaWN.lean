/- Walks: values.shape of a map. -/
import Derived.Shelf.SlIter.Collect
import Derived.Test.YtfajbkofbjcbbaaWM
namespace Go.Proofs.Ytfajbkofbjcbbaa
open Go.RowKit Go.Shelf Go.Sort

theorem one_eq (n m : Nat) : ((n : Int) == (m : Int)) = (n == m) := by
  rw [Bool.eq_iff_iff]; simp only [beq_iff_eq]; omega
theorem Below.drewN_ {B : Nat} {a w : World} (h : Below B a w) (n : Nat) : Below B a (w.drewN n) := ⟨h.os, h.tape, h.output, h.size, h.block⟩

set_option maxRecDepth 100000 in
set_option maxHeartbeats 1000000 in
theorem shape8 (S : Nat → Prop) (t : ByteArray) (la ka : Option Addr) (n lc kc : Nat) (ks : List ByteArray) (w : World) (hn : n ≤ 16777216) (hm : ks.length ≤ 16777216) (hk : At S w ka (strCells ks)) :
    Calls Try.prog 70 #[.agg #[.int .u8 8, .string t, .slice la n lc, .slice ka ks.length kc]] w fun e w' => e = .returned (.bool (shapeB 8 t n ks)) ∧ Below w.heap.size w w' := by
  have hI0 := hk.mono (T := (· < w.heap.size)) fun b hb _ => hb
  have hB0 := (Below.refl w.heap.size w).alloc (Nat.le_refl _) (.cells #[.int .u8 8, .string t, .slice la n lc, .slice ka ks.length kc] 26)
  have hB1 := hB0.alloc (by simp) (.cells #[.slice ka ks.length kc] 24)
  have hI := (hI0.keep (Keeps.of_below hB1 fun _ h _ => h)).mono (T := (· < w.heap.size + 1 + 1)) fun b _ (hb : b < w.heap.size) => show b < w.heap.size + 1 + 1 by omega
  have hS := sorted_any (w.heap.size + 1) kc ka ks hm ((w.alloc (.cells #[.int .u8 8, .string t, .slice la n lc, .slice ka ks.length kc] 26)).alloc (.cells #[.slice ka ks.length kc] 24)) (by simp) (by have h := (Lies.new (w.alloc (.cells #[.int .u8 8, .string t, .slice la n lc, .slice ka ks.length kc] 26)) 24 #[.slice ka ks.length kc]).cell 0; rw [World.size_alloc] at h; exact h) (by simpa using hI)
  have HB1 := Lib.hid hB1
  have HS := Lib.hid hS
  clear hI hI0 hB0 hB1 hS hk
  go_enter Try.func70, Try.ntmps70
  go_wp2_with fail
  refine (vals_any _ _ _ _).mono ?_
  rintro e w1 ⟨rfl, rfl⟩
  go_wp2_with fail
  refine HS.out.mono ?_
  rintro e w2 ⟨a', c', rfl, hrow, hb2⟩
  have hL := ((Lies.new w 26 #[.int .u8 8, .string t, .slice la n lc, .slice ka ks.length kc]).alloc (.cells #[.slice ka ks.length kc] 24)).ext hb2
  have x1 : w2.cell? ⟨w.heap.size, 1, none⟩ = some (.string t) := hL.cell 1
  have x2 : w2.cell? ⟨w.heap.size, 2, none⟩ = some (.slice la n lc) := hL.cell 2
  have x3 : w2.cell? ⟨w.heap.size, 3, none⟩ = some (.slice ka ks.length kc) := hL.cell 3
  simp only [World.size_alloc] at hrow
  have HROW := Lib.hid hrow
  have HB2 := Lib.hid hb2
  have HL := Lib.hid hL
  have HBall : Hid (Below w.heap.size w w2) := Lib.hid (HB1.out.trans (hb2.mono (by simp; omega)))
  have hbsz : w.heap.size + 1 ≤ w2.heap.size := by have := hb2.size; simp at this; omega
  have hbs2 : w.heap.size < w2.heap.size := hbsz
  clear hrow hb2 hL HS
  by_cases ht : t.toList = []
  · obtain rfl : t = ⟨#[]⟩ := by
      rw [ByteArray.toList_eq] at ht
      cases t; simpa using ht
    by_cases hkn : ks.length = n
    · subst hkn
      have hC : ∀ W, Below (w.heap.size + 1) w2 W → W.ownsRow (w.heap.size + 1 + 1) 9 1 (.slice a' ks.length c') ks.length ((sortL ks).map encStr) → Calls Try.prog 87 #[.slice a' ks.length c'] W fun e w' => ∃ a' c', e = .returned (.slice a' (Lib.compact (sortL ks)).length c') ∧ Below (w.heap.size + 1) w2 w' :=
        fun W hW hr => (compact_any (w.heap.size + 1) a' ks.length c' (sortL ks) W (Nat.le_trans hbsz hW.size) hm (ownsRow_base_a hr (by omega))).mono fun e w' ⟨a'', c'', he, hb⟩ => ⟨a'', c'', he, hW.trans hb⟩
      have hSh : shapeB 8 ⟨#[]⟩ ks.length ks = ((Lib.compact (sortL ks)).length == ks.length) := by rw [compact_iff]; simp [shapeB, ht]
      have HC := Lib.hid hC
      have HSh := Lib.hid hSh
      clear hC hSh
      have hk1 : ((ks.length : Int) == (ks.length : Int)) = true := by simp
      go_wp2
      clear HB1
      go_region_held (fun w' => w'.cell? ⟨w.heap.size, 1, none⟩ = some (.string ⟨#[]⟩) ∧ w'.cell? ⟨w.heap.size, 2, none⟩ = some (.slice la ks.length lc) ∧ w'.cell? ⟨w.heap.size, 3, none⟩ = some (.slice ka ks.length kc))
        (first | exact ⟨x1, x2, x3⟩ | exact ⟨hy1, hy2, hy3⟩)
        (first | (go_at_call 87; refine (HC.out _ (Below.refl _ _).drew HROW.out).mono ?_; rintro e w5 ⟨a5, c5, rfl, hb5⟩; have hy1 := (hb5.cell (p := ⟨w.heap.size, 1, none⟩) (Nat.lt_succ_self _)).trans x1; have hy2 := (hb5.cell (p := ⟨w.heap.size, 2, none⟩) (Nat.lt_succ_self _)).trans x2; have hy3 := (hb5.cell (p := ⟨w.heap.size, 3, none⟩) (Nat.lt_succ_self _)).trans x3))
      all_goals go_wp2
      all_goals go_ret
      exact ⟨by rw [HSh.out, ← one_eq]; rfl, HBall.out.trans (hb5.mono (Nat.le_succ _))⟩
    · have hk1 : ((ks.length : Int) == (n : Int)) = false := by simp; omega
      go_wp2
      go_quiet (fail)
      go_wp2
      go_ret
      exact ⟨by congr 2; simp [shapeB, ht, hkn], Below.drewN_ HBall.out _⟩
  · have ht1 : t.toList.isEmpty = false := by simpa using ht
    go_wp2
    go_quiet (fail)
    go_wp2
    go_ret
    exact ⟨by congr 2; simp [shapeB, ht], Below.drewN_ HBall.out _⟩
end Go.Proofs.Ytfajbkofbjcbbaa
