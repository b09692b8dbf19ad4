/- Walks: values.shape, of whatever is no map. -/
import Derived.Test.YtfajbkofbjcbbaaWJ
namespace Go.Proofs.Ytfajbkofbjcbbaa
open Go.RowKit

theorem sum0 (n m : Nat) : ((n : Int) + (m : Int) == 0) = (n + m == 0) := by
  rw [Bool.eq_iff_iff]; simp only [beq_iff_eq]; omega
theorem one0 (m : Nat) : ((m : Int) == 0) = (m == 0) := by
  rw [Bool.eq_iff_iff]; simp only [beq_iff_eq]; omega

set_option maxRecDepth 100000 in
set_option maxHeartbeats 1000000 in
theorem shape0 (t : ByteArray) (la ka : Option Addr) (n lc kc : Nat) (ks : List ByteArray) (w : World) (hn : n ≤ 16777216) (hm : ks.length ≤ 16777216) :
    Calls Try.prog 70 #[.agg #[.int .u8 0, .string t, .slice la n lc, .slice ka ks.length kc]] w fun e w' => e = .returned (.bool (shapeB 0 t n ks)) ∧ Below w.heap.size w w' := by
  have hB := Lib.hid ((Below.refl w.heap.size w).alloc (Nat.le_refl _) (.cells #[.int .u8 0, .string t, .slice la n lc, .slice ka ks.length kc] 26))
  go_enter Try.func70, Try.ntmps70
  go_wp2
  all_goals (go_ret; refine ⟨?_, hB.out⟩; congr 2; simp_all [shapeB, sum0])

set_option maxRecDepth 100000 in
set_option maxHeartbeats 1000000 in
theorem shape1 (t : ByteArray) (la ka : Option Addr) (n lc kc : Nat) (ks : List ByteArray) (w : World) (hn : n ≤ 16777216) (hm : ks.length ≤ 16777216) :
    Calls Try.prog 70 #[.agg #[.int .u8 1, .string t, .slice la n lc, .slice ka ks.length kc]] w fun e w' => e = .returned (.bool (shapeB 1 t n ks)) ∧ Below w.heap.size w w' := by
  have hB := Lib.hid ((Below.refl w.heap.size w).alloc (Nat.le_refl _) (.cells #[.int .u8 1, .string t, .slice la n lc, .slice ka ks.length kc] 26))
  go_enter Try.func70, Try.ntmps70
  go_wp2
  all_goals (go_ret; refine ⟨?_, hB.out⟩; congr 2; simp_all [shapeB, sum0])

set_option maxRecDepth 100000 in
set_option maxHeartbeats 1000000 in
theorem shape2 (t : ByteArray) (la ka : Option Addr) (n lc kc : Nat) (ks : List ByteArray) (w : World) (hn : n ≤ 16777216) (hm : ks.length ≤ 16777216) :
    Calls Try.prog 70 #[.agg #[.int .u8 2, .string t, .slice la n lc, .slice ka ks.length kc]] w fun e w' => e = .returned (.bool (shapeB 2 t n ks)) ∧ Below w.heap.size w w' := by
  have hB := Lib.hid ((Below.refl w.heap.size w).alloc (Nat.le_refl _) (.cells #[.int .u8 2, .string t, .slice la n lc, .slice ka ks.length kc] 26))
  go_enter Try.func70, Try.ntmps70
  go_wp2
  all_goals (go_ret; refine ⟨?_, hB.out⟩; congr 2; simp_all [shapeB, sum0])

set_option maxRecDepth 100000 in
set_option maxHeartbeats 1000000 in
theorem shape3 (t : ByteArray) (la ka : Option Addr) (n lc kc : Nat) (ks : List ByteArray) (w : World) (hn : n ≤ 16777216) (hm : ks.length ≤ 16777216) :
    Calls Try.prog 70 #[.agg #[.int .u8 3, .string t, .slice la n lc, .slice ka ks.length kc]] w fun e w' => e = .returned (.bool (shapeB 3 t n ks)) ∧ Below w.heap.size w w' := by
  have hB := Lib.hid ((Below.refl w.heap.size w).alloc (Nat.le_refl _) (.cells #[.int .u8 3, .string t, .slice la n lc, .slice ka ks.length kc] 26))
  go_enter Try.func70, Try.ntmps70
  go_wp2
  all_goals (go_ret; refine ⟨?_, hB.out⟩; congr 2; simp_all [shapeB, sum0])

set_option maxRecDepth 100000 in
set_option maxHeartbeats 1000000 in
theorem shape4 (t : ByteArray) (la ka : Option Addr) (n lc kc : Nat) (ks : List ByteArray) (w : World) (hn : n ≤ 16777216) (hm : ks.length ≤ 16777216) :
    Calls Try.prog 70 #[.agg #[.int .u8 4, .string t, .slice la n lc, .slice ka ks.length kc]] w fun e w' => e = .returned (.bool (shapeB 4 t n ks)) ∧ Below w.heap.size w w' := by
  have hB := Lib.hid ((Below.refl w.heap.size w).alloc (Nat.le_refl _) (.cells #[.int .u8 4, .string t, .slice la n lc, .slice ka ks.length kc] 26))
  go_enter Try.func70, Try.ntmps70
  go_wp2
  all_goals (go_ret; refine ⟨?_, hB.out⟩; congr 2; simp_all [shapeB, sum0])

set_option maxRecDepth 100000 in
set_option maxHeartbeats 1000000 in
theorem shape5 (t : ByteArray) (la ka : Option Addr) (n lc kc : Nat) (ks : List ByteArray) (w : World) (hn : n ≤ 16777216) (hm : ks.length ≤ 16777216) :
    Calls Try.prog 70 #[.agg #[.int .u8 5, .string t, .slice la n lc, .slice ka ks.length kc]] w fun e w' => e = .returned (.bool (shapeB 5 t n ks)) ∧ Below w.heap.size w w' := by
  have hB := Lib.hid ((Below.refl w.heap.size w).alloc (Nat.le_refl _) (.cells #[.int .u8 5, .string t, .slice la n lc, .slice ka ks.length kc] 26))
  go_enter Try.func70, Try.ntmps70
  go_wp2
  all_goals (go_ret; refine ⟨?_, hB.out⟩; congr 2; simp_all [shapeB, sum0])

set_option maxRecDepth 100000 in
set_option maxHeartbeats 1000000 in
theorem shape6 (t : ByteArray) (la ka : Option Addr) (n lc kc : Nat) (ks : List ByteArray) (w : World) (hn : n ≤ 16777216) (hm : ks.length ≤ 16777216) :
    Calls Try.prog 70 #[.agg #[.int .u8 6, .string t, .slice la n lc, .slice ka ks.length kc]] w fun e w' => e = .returned (.bool (shapeB 6 t n ks)) ∧ Below w.heap.size w w' := by
  have hB := Lib.hid ((Below.refl w.heap.size w).alloc (Nat.le_refl _) (.cells #[.int .u8 6, .string t, .slice la n lc, .slice ka ks.length kc] 26))
  go_enter Try.func70, Try.ntmps70
  go_wp2
  all_goals (go_ret; refine ⟨?_, hB.out⟩; congr 2; simp_all [shapeB, sum0])

set_option maxRecDepth 100000 in
set_option maxHeartbeats 1000000 in
theorem shape7 (t : ByteArray) (la ka : Option Addr) (n lc kc : Nat) (ks : List ByteArray) (w : World) (_hn : n ≤ 16777216) (_hm : ks.length ≤ 16777216) :
    Calls Try.prog 70 #[.agg #[.int .u8 7, .string t, .slice la n lc, .slice ka ks.length kc]] w fun e w' => e = .returned (.bool (shapeB 7 t n ks)) ∧ Below w.heap.size w w' := by
  have hB := Lib.hid ((Below.refl w.heap.size w).alloc (Nat.le_refl _) (.cells #[.int .u8 7, .string t, .slice la n lc, .slice ka ks.length kc] 26))
  go_enter Try.func70, Try.ntmps70
  go_wp2
  all_goals (go_ret; refine ⟨?_, hB.out⟩; congr 2; simp_all [shapeB, one0])

set_option maxRecDepth 100000 in
set_option maxHeartbeats 1000000 in
theorem shape9 (k : Nat) (hk : 9 ≤ k) (hk2 : k < 256) (t : ByteArray) (la ka : Option Addr) (n lc kc : Nat) (ks : List ByteArray) (w : World) (_hn : n ≤ 16777216) (_hm : ks.length ≤ 16777216) :
    Calls Try.prog 70 #[.agg #[.int .u8 k, .string t, .slice la n lc, .slice ka ks.length kc]] w fun e w' => e = .returned (.bool (shapeB k t n ks)) ∧ Below w.heap.size w w' := by
  have hB := Lib.hid ((Below.refl w.heap.size w).alloc (Nat.le_refl _) (.cells #[.int .u8 k, .string t, .slice la n lc, .slice ka ks.length kc] 26))
  have hS : Hid (shapeB k t n ks = false) := Lib.hid (by unfold shapeB; simp [show k ≠ 0 by omega, show k ≠ 1 by omega, show k ≠ 2 by omega, show k ≠ 3 by omega, show k ≠ 4 by omega, show k ≠ 5 by omega, show k ≠ 6 by omega, show k ≠ 7 by omega, show k ≠ 8 by omega])
  have d0 : ((k : Int) == 0) = false := by simp; omega
  have d1 : ((k : Int) == 1) = false := by simp; omega
  have d2 : ((k : Int) == 2) = false := by simp; omega
  have d3 : ((k : Int) == 3) = false := by simp; omega
  have d4 : ((k : Int) == 4) = false := by simp; omega
  have d5 : ((k : Int) == 5) = false := by simp; omega
  have d6 : ((k : Int) == 6) = false := by simp; omega
  have d7 : ((k : Int) == 7) = false := by simp; omega
  have d8 : ((k : Int) == 8) = false := by simp; omega
  go_enter Try.func70, Try.ntmps70
  go_wp2
  go_ret
  exact ⟨by rw [hS.out]; rfl, hB.out⟩
end Go.Proofs.Ytfajbkofbjcbbaa
