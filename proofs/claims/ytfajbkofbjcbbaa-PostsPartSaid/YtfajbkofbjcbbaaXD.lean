/- Walk: inarchlaw19.lives. -/
import Derived.Test.YtfajbkofbjcbbaaPlainK
namespace Go.Proofs.Ytfajbkofbjcbbaa
open Go.RowKit Go.Sort Go.Shelf

theorem AtW.some {S : Nat → Prop} {w : World} {a : Option Addr} {c : Value} {cs : List Value} (h : AtW S w a (c :: cs)) : ∃ b o, a = some ⟨b, o, none⟩ ∧ S b ∧ b < w.heap.size ∧ ∀ j u, (c :: cs)[j]? = some u → w.cell? ⟨b, o + j, none⟩ = some u := by
  obtain ⟨b, o, ha, hS, hc, _⟩ := h (by simp)
  exact ⟨b, o, ha, hS, World.block_lt_of_cell? w ⟨b, o + 0, none⟩ (hc 0 c rfl), hc⟩

set_option maxRecDepth 100000 in
set_option maxHeartbeats 2000000 in
theorem lives_any (w : World) : Calls Try.prog 13 #[] w fun e w' => e = .returned (.bool true) ∧ Below w.heap.size w w' := by
  go_enter Try.func13, Try.ntmps13
  go_wp2_with fail
  refine (small_any _).mono ?_
  rintro e w1 ⟨la, ka, rfl, hv, hb1⟩
  have ho := of_yes (fun b => w.heap.size ≤ b) vSmall la ka 2 2 w1 hv vSmall_may vSmall_wt
  unfold OfRes at ho
  rw [left_small, labels_small, roots_small] at ho
  have HO := Lib.hid ho
  clear ho hv
  go_wp2_with fail
  refine HO.out.mono ?_
  rintro e w2 ⟨a1, a2, a3, rfl, h1, h2, h3, hb2⟩
  have hB3 := (Below.refl w2.heap.size w2).alloc (Nat.le_refl _) (.cells #[.slice a1 4 4, .slice a2 4 4, .slice a3 2 2] 33)
  have hpc := part_ok (fun b => w1.heap.size ≤ b) a1 a2 a3 4 4 2 2 vSmall.labels vSmall.left 2 _ (by rw [labels_small]; exact (h1.keep (Keeps.of_ext hB3)).at_) (by rw [left_small]; exact (h2.keep (Keeps.of_ext hB3)).at_) (by rw [labels_small]; exact Nat.le_refl _) (by rw [left_small]; exact Nat.le_refl _) (by rw [labels_small]; simp) (by omega) (by omega) partOk_small
  have hpf := partFits_small
  have hpc2 := hpc.mono fun e w' h => (⟨h.1 hpf, h.2.2⟩ : _ ∧ _)
  rw [partLabels_small, partLeft_small, roots_small2, labels_small, left_small] at hpc2
  have HP := Lib.hid hpc2
  have H1 := Lib.hid h1
  have H2 := Lib.hid h2
  have H3 := Lib.hid h3
  have HB1 := Lib.hid hb1
  have HB2 := Lib.hid hb2
  have HB3 := Lib.hid hB3
  clear hpc hpf hpc2 h1 h2 h3 hb1 hb2 hB3 HO
  go_wp2_with fail
  refine HP.out.mono ?_
  rintro e w3 ⟨⟨b1, b2, b3, rfl, g1, g2, g3⟩, hb3⟩
  have k1 := (H1.out.keep (Keeps.of_ext HB3.out)).keep (Keeps.of_ext hb3)
  have k2 := (H2.out.keep (Keeps.of_ext HB3.out)).keep (Keeps.of_ext hb3)
  have k3 := (H3.out.keep (Keeps.of_ext HB3.out)).keep (Keeps.of_ext hb3)
  have hbox := (Lies.new w2 33 #[.slice a1 4 4, .slice a2 4 4, .slice a3 2 2]).ext hb3
  have x0 : w3.cell? ⟨w2.heap.size, 0, none⟩ = some (.slice a1 4 4) := hbox.cell 0
  have x1 : w3.cell? ⟨w2.heap.size, 1, none⟩ = some (.slice a2 4 4) := hbox.cell 1
  have x2 : w3.cell? ⟨w2.heap.size, 2, none⟩ = some (.slice a3 2 2) := hbox.cell 2
  have hxl := hbox.lt
  obtain ⟨b, o, rfl, _, hbl, hc⟩ := k1.some
  have l0 : w3.cell? ⟨b, o, none⟩ = some (.bool true) := hc 0 _ rfl
  have l1 : w3.cell? ⟨b, o + 1, none⟩ = some (.string ⟨#[97]⟩) := hc 1 _ rfl
  have l2 : w3.cell? ⟨b, o + 2, none⟩ = some (.int .u8 3) := hc 2 _ rfl
  have l3 : w3.cell? ⟨b, o + 3, none⟩ = some (.string ⟨#[120]⟩) := hc 3 _ rfl
  have l4 : w3.cell? ⟨b, o + 4, none⟩ = some (.bool false) := hc 4 _ rfl
  have l5 : w3.cell? ⟨b, o + 4 + 1, none⟩ = some (.string .empty) := hc 5 _ rfl
  have l6 : w3.cell? ⟨b, o + 4 + 2, none⟩ = some (.int .u8 4) := hc 6 _ rfl
  have l7 : w3.cell? ⟨b, o + 4 + 3, none⟩ = some (.string ⟨#[49]⟩) := hc 7 _ rfl
  have l8 : w3.cell? ⟨b, o + 8, none⟩ = some (.bool true) := hc 8 _ rfl
  have l9 : w3.cell? ⟨b, o + 8 + 1, none⟩ = some (.string ⟨#[98]⟩) := hc 9 _ rfl
  have l10 : w3.cell? ⟨b, o + 8 + 2, none⟩ = some (.int .u8 7) := hc 10 _ rfl
  have l11 : w3.cell? ⟨b, o + 8 + 3, none⟩ = some (.string ⟨#[]⟩) := hc 11 _ rfl
  have l12 : w3.cell? ⟨b, o + 12, none⟩ = some (.bool false) := hc 12 _ rfl
  have l13 : w3.cell? ⟨b, o + 12 + 1, none⟩ = some (.string .empty) := hc 13 _ rfl
  have l14 : w3.cell? ⟨b, o + 12 + 2, none⟩ = some (.int .u8 8) := hc 14 _ rfl
  have l15 : w3.cell? ⟨b, o + 12 + 3, none⟩ = some (.string ⟨#[]⟩) := hc 15 _ rfl
  have K2 := Lib.hid k2
  have K3 := Lib.hid k3
  have G2 := Lib.hid g2
  have G3 := Lib.hid g3
  have HB3' := Lib.hid hb3
  clear hc k1 k2 k3 g1 g2 g3 hb3 hbox H1 H2 H3 HP
  go_upto_region 5 with (fail)
  go_wp2_with fail
  refine (sameNums_any (fun _ => True) (fun _ => True) a2 _ 4 4 [0, 1, 1, 0] [0, 1, 1, 0] _ (K2.out.at_.mono (fun _ _ _ => trivial) |>.keep (Keeps.of_ext (((Below.refl _ _).alloc (Nat.le_refl _) _).alloc (by simp) _))) (At.new_at (by simp) (intCells [0, 1, 1, 0]) 3 trivial) (by simp) (by simp)).mono ?_
  rintro e w4 ⟨rfl, n1, rfl⟩
  go_wp2_with fail
  refine (sameNums_any (fun _ => True) (fun _ => True) a3 _ 2 2 [2, 3] [2, 3] _ (K3.out.at_.mono (fun _ _ _ => trivial) |>.keep (Keeps.of_ext ((Below.drewN_ (((Below.refl _ _).alloc (Nat.le_refl _) _).alloc (by simp) _) n1).alloc (by simp; omega) _))) (At.new_at (by simp) (intCells [2, 3]) 3 trivial) (by simp) (by simp)).mono ?_
  rintro e w4 ⟨rfl, n2, rfl⟩
  go_wp2_with fail
  refine (sameNums_any (fun _ => True) (fun _ => True) b2 _ 2 2 [0, 0] [0, 0] _ (G2.out.at_.mono (fun _ _ _ => trivial) |>.keep (Keeps.of_ext ((Below.drewN_ ((Below.drewN_ (((Below.refl _ _).alloc (Nat.le_refl _) _).alloc (by simp) _) n1).alloc (by simp; omega) _) n2).alloc (by simp; omega) _))) (At.new_at (by simp) (intCells [0, 0]) 3 trivial) (by simp) (by simp)).mono ?_
  rintro e w4 ⟨rfl, n3, rfl⟩
  go_wp2_with fail
  refine (sameNums_any (fun _ => True) (fun _ => True) b3 _ 1 1 [1] [1] _ (G3.out.at_.mono (fun _ _ _ => trivial) |>.keep (Keeps.of_ext ((Below.drewN_ ((Below.drewN_ ((Below.drewN_ (((Below.refl _ _).alloc (Nat.le_refl _) _).alloc (by simp) _) n1).alloc (by simp; omega) _) n2).alloc (by simp; omega) _) n3).alloc (by simp; omega) _))) (At.new_at (by simp) (intCells [1]) 3 trivial) (by simp) (by simp)).mono ?_
  rintro e w4 ⟨rfl, n4, rfl⟩
  go_wp2
  go_ret
  refine ⟨rfl, ?_⟩
  have e1 := Below.drewN_ ((Below.drewN_ ((Below.drewN_ ((Below.drewN_ (((Below.refl w3.heap.size w3).alloc (Nat.le_refl _) (.cells #[.slice b1 2 2, .slice b2 2 2, .slice b3 1 1] 33)).alloc (by simp) (.cells (intCells [0, 1, 1, 0]).toArray 3)) n1).alloc (by simp; omega) (.cells (intCells [2, 3]).toArray 3)) n2).alloc (by simp; omega) (.cells (intCells [0, 0]).toArray 3)) n3).alloc (by simp; omega) (.cells (intCells [1]).toArray 3)) n4
  have e2 : Below w.heap.size w w3 := (HB1.out.trans (HB2.out.mono HB1.out.size)).trans ((HB3.out.mono (Nat.le_trans HB1.out.size HB2.out.size)).trans (HB3'.out.mono (by have h1 := HB1.out.size; have h2 := HB2.out.size; simp; omega)))
  exact e2.trans (e1.mono e2.size)
end Go.Proofs.Ytfajbkofbjcbbaa
