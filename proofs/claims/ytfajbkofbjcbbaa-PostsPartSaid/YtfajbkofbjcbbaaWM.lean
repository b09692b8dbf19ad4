/- Walks: slices.Sorted(slices.Values(ks)), slices.Compact, values.shape of a map. -/
import Derived.Sort.OwnSorted
import Derived.Deep.RegionHeld
import Derived.Test.YtfajbkofbjcbbaaWK
import Derived.Test.YtfajbkofbjcbbaaWL
import Derived.Test.YtfajbkofbjcbbaaPlainD
import Derived.Test.YtfajbkofbjcbbaaShelf
namespace Go.Proofs.Ytfajbkofbjcbbaa
open Go.RowKit Go.Shelf Go.Sort

abbrev sortL (ks : List ByteArray) : List (List UInt8) := (ks.map toL).mergeSort fun x y => decide (x ≤ y)

set_option maxHeartbeats 1000000 in
/-- slices.Sorted(slices.Values(ks)) -/
theorem sorted_any (Bs cap : Nat) (a : Option Addr) (ks : List ByteArray) (hreach : ks.length ≤ 16777216) (w : World) (hBs : Bs < w.heap.size)
    (hc : w.cell? ⟨Bs, 0, none⟩ = some (.slice a ks.length cap)) (hI : At (· < w.heap.size) w a (strCells ks)) :
    Calls Try.prog 85 #[.func (.func 95) #[] #[.pointer (some ⟨Bs, 0, none⟩)]] w fun e W' =>
      ∃ a' c', e = .returned (.slice a' ks.length c') ∧ W'.ownsRow w.heap.size 9 1 (.slice a' ks.length c') ks.length ((sortL ks).map encStr) ∧ Below w.heap.size w W' := by
  have hC := collect_any Bs cap a ks hreach w hBs hc hI
  go_enter Try.func85, Try.ntmps85
  go_wp2_with fail
  refine hC.mono ?_
  rintro e W ⟨v, rfl, hrow, hb⟩
  rcases hrow.2 with ⟨rfl, hz⟩ | ⟨gb, cap', cur, rfl, hbase, hgb, r1, r2, r3, r4⟩
  · have hks : ks = [] := List.eq_nil_of_length_eq_zero hz
    subst hks
    go_wp2_with fail
    refine (AnyM.slices_Sort_string_none Try.mSort none 0 W).mono ?_
    rintro e w' ⟨rfl, rfl⟩
    go_wp2
    go_ret
    exact ⟨none, 0, rfl, by simp only [sortL, List.map_nil, List.mergeSort_nil]; exact World.ownsRow_nil _ _ _ _, hb⟩
  · have hH : Holds encStr W gb 0 (ks.map toL).toArray := holds_of_block hgb (by rw [← strCells_enc]; simpa [strCells] using r4)
    have hgl : gb < W.heap.size := (Array.getElem?_eq_some_iff.1 hgb).1
    have cS := AnyM.slices_Sort_string Try.mSort gb 0 cap' (ks.map toL) W hH hgl (by simp; omega)
    simp only [List.length_map] at cS
    have HS := Lib.hid (fun (n : Nat) (os : Array Obj) => ownsRow_sorted (n := n) (os := os) (ss := ks.map toL) (ts := sortL ks) (w := W) (by simp) hbase hgb (by simpa using r1) r2 r3)
    clear hH hrow hgb r1 r2 r3 r4
    have HB := Lib.hid hb
    clear hb
    go_wp2_with fail
    refine cS.mono ?_
    rintro e w' ⟨rfl, nn, os, rfl⟩
    go_wp2
    go_ret
    have hr := HS.out nn os
    rw [List.length_map] at hr
    exact ⟨_, _, rfl, hr, HB.out.grown (grownBy_sorted _) HB.out.size (fun j hj => by cases hj; exact hbase)⟩

theorem grownBy_putRow {w : World} {g n : Nat} (d : Array (List UInt8)) : w.grownBy (putRow encStr (Sort.ahead w n) g 0 d) (some g) := by
  refine ⟨rfl, rfl, rfl, by simp, fun k hk hne => ?_⟩
  have : g ≠ k := fun e => hne (by rw [e])
  simp [putRow, mapBlock, Sort.ahead, Array.getElem?_modify, this]

set_option maxHeartbeats 1000000 in
/-- slices.Compact of a row of the call's own -/
theorem compact_any (B : Nat) (a : Option Addr) (n c : Nat) (zs : List (List UInt8)) (w : World) (hB : B ≤ w.heap.size) (hn : n ≤ 16777216) (hrow : w.ownsRow B 9 1 (.slice a n c) n (zs.map encStr)) :
    Calls Try.prog 87 #[.slice a n c] w fun e w' => ∃ a' c', e = .returned (.slice a' (Lib.compact zs).length c') ∧ Below B w w' := by
  have hl : zs.length = n := by simpa using hrow.1
  rcases hrow.2 with ⟨h0, hz⟩ | ⟨gb, cap', cur, h0, hbase, hgb, r1, r2, r3, r4⟩
  · cases h0
    obtain rfl : zs = [] := List.eq_nil_of_length_eq_zero hl
    exact (Any.slices_Compact_string_empty Try.lays194 none 0 w).mono fun e w' ⟨he, hw⟩ => ⟨none, 0, he, by rw [hw]; exact Below.refl _ _⟩
  · cases h0
    subst hl
    have hH : Holds encStr w gb 0 zs.toArray := holds_of_block hgb (by simpa using r4)
    refine (Any.slices_Compact_string Try.lays194 gb 0 c zs w hH (by omega) r1).mono fun e w' ⟨he, q, hw⟩ => ⟨_, _, he, ?_⟩
    rw [hw]
    exact (Below.refl B w).grown (grownBy_putRow _) hB (fun j hj => by cases hj; exact hbase)
end Go.Proofs.Ytfajbkofbjcbbaa
