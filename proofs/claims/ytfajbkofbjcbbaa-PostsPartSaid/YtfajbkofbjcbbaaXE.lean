/- Walk: inarchlaw19.other. -/
import Derived.Test.YtfajbkofbjcbbaaXD
namespace Go.Proofs.Ytfajbkofbjcbbaa
open Go.RowKit Go.Sort Go.Shelf

set_option maxRecDepth 100000 in
set_option maxHeartbeats 2000000 in
theorem other_any (S : Nat → Prop) (la fa ra : Option Addr) (lc nf fc nr rc : Nat) (ls : List Lbl) (w : World) (hl : At S w la (lblCells ls)) (hlb : ls.length ≤ 16777216) :
    Calls Try.prog 22 #[.agg #[.slice la ls.length lc, .slice fa nf fc, .slice ra nr rc]] w fun e w' =>
      ∃ a' c', e = .returned (.agg #[.slice a' ls.length c', .slice fa nf fc, .slice ra nr rc]) ∧ At (fun b => w.heap.size ≤ b) w' a' (lblCells ls) ∧ Below w.heap.size w w' := by
  have L3 := lies_three w #[.slice la ls.length lc, .slice fa nf fc, .slice ra nr rc] 33 #[.slice none 0 0, .slice none 0 0, .slice none 0 0] 38 #[.slice none 0 0, .slice fa nf fc, .slice ra nr rc] 38
  have HL3 := Lib.hid L3
  have HL := Lib.hid hl
  have HNIL := Lib.hid World.ownsRow_nil
  clear hl L3
  go_enter Try.func22, Try.ntmps22
  go_wp2
  go_loopw [4] (fun i wr => ∃ (j : Nat) (v1 : Value), j ≤ ls.length ∧ i = .int .i64 j ∧
      Lies wr w.heap.size 33 #[.slice la ls.length lc, .slice fa nf fc, .slice ra nr rc] ∧ Lies wr (w.heap.size + 1) 38 #[.slice none 0 0, .slice none 0 0, .slice none 0 0] ∧
      Lies wr (w.heap.size + 1 + 1) 38 #[v1, .slice fa nf fc, .slice ra nr rc] ∧ wr.ownsRow (w.heap.size + 3) 78 4 v1 j (lblCells (ls.take j)) ∧ Below w.heap.size w wr) (fun i _ => ls.length - (intOf i).toNat)
  case atStart => exact ⟨0, .slice none 0 0, Nat.zero_le _, rfl, HL3.out.1, HL3.out.2.1, HL3.out.2.2, HNIL.out _ _ _ _, (((Below.refl _ _).alloc (Nat.le_refl _) _).alloc (by simp) _).alloc (by simp; omega) _⟩
  case round =>
    obtain ⟨j, v1, hj, rfl, hLa, hLb, hLq, hown, hBw⟩ := hrel
    have p0 : wr.cell? ⟨w.heap.size, 0, none⟩ = some (.slice la ls.length lc) := hLa.cell 0
    obtain ⟨a1, cp1, rfl, hcp1⟩ := own_slice hown
    have q0 : wr.cell? ⟨w.heap.size + 1 + 1, 0, none⟩ = some (.slice a1 j cp1) := hLq.cell 0
    have q0f := hLq.frozen 0
    have hszr := hLq.lt
    have HLA := Lib.hid hLa
    have HLB := Lib.hid hLb
    have HLQ := Lib.hid hLq
    have HO := Lib.hid hown
    have HBW := Lib.hid hBw
    by_cases hlt : j < ls.length
    · obtain ⟨b3, o3, ha3, _, l0, l1, l2, l3⟩ := HL.out.getL hlt
      subst ha3
      have hb3 : b3 < w.heap.size := World.block_lt_of_cell? w _ l0
      have m0 := (hBw.cell (p := ⟨b3, o3 + j * 4, none⟩) hb3).trans l0
      have m1 := (hBw.cell (p := ⟨b3, o3 + j * 4 + 1, none⟩) hb3).trans l1
      have m2 := (hBw.cell (p := ⟨b3, o3 + j * 4 + 2, none⟩) hb3).trans l2
      have m3 := (hBw.cell (p := ⟨b3, o3 + j * 4 + 3, none⟩) hb3).trans l3
      have htl : ls.take (j + 1) = ls.take j ++ [ls[j]] := List.take_succ_eq_append_getElem hlt
      have HTL := Lib.hid htl
      have hz3 : w.heap.size + 3 ≤ wr.heap.size := hszr
      generalize ls[j] = lb at m0 m1 m2 m3 HTL
      clear hLa hLb hLq hown hBw l0 l1 l2 l3 htl
      go_wp2_with (at_builtin; refine wpList_app _ rfl elRLbl (.tmp 24) (.tmp 34) rfl (w.heap.size + 3) _ j (lblCells (ls.take j)) rfl ((HO.out.alloc (.cells #[.bool lb.keyed, .string lb.key, .int .u8 lb.kind, .string lb.text] 46)).alloc (.cells #[.bool lb.keyed, .string lb.key, .int .u8 lb.kind, .string lb.text] 78)) (fun _ => True) (some ⟨wr.heap.size + 1, 0, none⟩) 1 1 (lblCell lb) rfl rfl (At.new_at (by simp) (lblCell lb) 78 trivial) (lblCell_one _) (by omega) (by simp; omega) ?_; intro v4 w1 hown1 hg1 _; obtain ⟨a4, c4, rfl, hc4⟩ := own_slice hown1; have hne : some (w.heap.size + 1 + 1) ≠ (Value.slice a1 j cp1).ownBlock := (fun e => by have := (World.ownsRow.lt HO.out _ e.symm).1; omega); have HQ1 := Lib.hid (((HLQ.out.alloc (.cells #[.bool lb.keyed, .string lb.key, .int .u8 lb.kind, .string lb.text] 46)).alloc (.cells #[.bool lb.keyed, .string lb.key, .int .u8 lb.kind, .string lb.text] 78)).grown hg1 hne); have r0 : w1.cell? ⟨w.heap.size + 1 + 1, 0, none⟩ = some (.slice a1 j cp1) := HQ1.out.cell 0; have r0f := HQ1.out.frozen 0; have hlw1 := HQ1.out.lt; have HO1 := Lib.hid hown1; have HG1 := Lib.hid hg1; clear hown1 hg1 hne)
      go_roundw
      case rel =>
        have hb1 : Below (w.heap.size + 3) wr w1 := (((Below.refl (w.heap.size + 3) wr).alloc hz3 _).alloc (by simp; omega) _).grown HG1.out (by simp; omega) (fun k e => (World.ownsRow.lt HO.out k e).1)
        refine ⟨j + 1, .slice a4 (j + 1) c4, by omega, by go_num, (HLA.out.below hb1 (by omega)).far (by simp; omega) _, (HLB.out.below hb1 (by omega)).far (by simp) _, HQ1.out.set 0 _, ?_, (HBW.out.trans (hb1.mono (by omega))).setCell (by simp; omega) _⟩
        rw [HTL.out, lblCells_append]
        exact ownsRow_setCell_below (by simpa [lblCells] using HO1.out) (by simp) _
      case measure => simp [intOf]; omega
    · have hj2 : j = ls.length := by omega
      have HJ := Lib.hid hj2
      have q1 : wr.cell? ⟨w.heap.size + 1 + 1, 1, none⟩ = some (.slice fa nf fc) := hLq.cell 1
      have q2 : wr.cell? ⟨w.heap.size + 1 + 1, 2, none⟩ = some (.slice ra nr rc) := hLq.cell 2
      have s0 : wr.cell? ⟨w.heap.size + 1, 0, none⟩ = some (.slice none 0 0) := hLb.cell 0
      have s1 : wr.cell? ⟨w.heap.size + 1, 1, none⟩ = some (.slice none 0 0) := hLb.cell 1
      have s2 : wr.cell? ⟨w.heap.size + 1, 2, none⟩ = some (.slice none 0 0) := hLb.cell 2
      have s0f := hLb.frozen 0
      have s1f := hLb.frozen 1
      have s2f := hLb.frozen 2
      clear hLa hLb hLq hown hBw hj2
      go_wp2
      refine bodyPost_ret (v := .agg #[.slice a1 j cp1, .slice fa nf fc, .slice ra nr rc]) (ret1 rfl stRPost rfl (((HLB.out.set 0 (.slice a1 j cp1)).set 1 (.slice fa nf fc)).set 2 (.slice ra nr rc))) rfl ⟨a1, cp1, by rw [HJ.out], ?_, ((HBW.out.setCell (by simp) _).setCell (by simp) _).setCell (by simp) _⟩
      have h := (own_atW HO.out).at_
      rw [HJ.out, List.take_length] at h
      exact (((h.keep (Keeps.set _ (fun b hb => by simp; omega) _)).keep (Keeps.set _ (fun b hb => by simp; omega) _)).keep (Keeps.set _ (fun b hb => by simp; omega) _)).mono (fun b _ hb => by omega)
end Go.Proofs.Ytfajbkofbjcbbaa
