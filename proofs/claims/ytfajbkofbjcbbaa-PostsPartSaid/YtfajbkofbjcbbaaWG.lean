/- Walk: (*inarchref19.Post).root. -/
import Derived.Test.YtfajbkofbjcbbaaWF
import Derived.Deep.RegionHeld3
namespace Go.Proofs.Ytfajbkofbjcbbaa
open Go.RowKit

theorem grown_drewN {a w : World} {row : Option Nat} (h : a.grownBy w row) (n : Nat) : a.grownBy (w.drewN n) row := ⟨h.os, h.tape, h.output, h.size, h.block⟩
/-- have none of the numbers from i + 1 up to k (without it) the i-th's value? -/
def noneTo (xs : List Int) (i k : Nat) : Bool := !((xs.drop (i + 1)).take (k - (i + 1))).contains (xs[i]?.getD 0)
theorem noneTo_zero (xs : List Int) (i : Nat) : noneTo xs i (i + 1) = true := by simp [noneTo]
theorem noneTo_succ (xs : List Int) (i k : Nat) (hi : i + 1 ≤ k) (hk : k < xs.length) : noneTo xs i (k + 1) = (noneTo xs i k && (xs[k]?.getD 0 != xs[i]?.getD 0)) := by
  unfold noneTo
  have e : k + 1 - (i + 1) = (k - (i + 1)) + 1 := by omega
  have hl : k - (i + 1) < (xs.drop (i + 1)).length := by rw [List.length_drop]; omega
  rw [e, List.take_succ_eq_append_getElem hl]
  have e2 : (xs.drop (i + 1))[k - (i + 1)] = xs[k]?.getD 0 := by
    rw [List.getElem_drop, List.getElem?_eq_getElem hk]
    simp only [Option.getD_some]
    congr 1
    omega
  rw [e2, Bool.eq_iff_iff]
  simp
  intro _
  exact ⟨fun h e => h e.symm, fun h e => h e.symm⟩
theorem noneTo_all (xs : List Int) (i : Nat) (_hi : i < xs.length) : noneTo xs i xs.length = isRoot xs i := by
  unfold noneTo isRoot
  rw [List.take_of_length_le (by rw [List.length_drop]; omega)]

set_option maxRecDepth 100000 in
set_option maxHeartbeats 2000000 in
theorem refRoot_any (S : Nat → Prop) (g : Nat) (v1 : Value) (fa : Option Addr) (fc : Nat) (xs : List Int) (w : World) (hL : Lies w g 38 #[v1, .slice fa xs.length fc, .slice none 0 0]) (hf : At S w fa (intCells xs)) (hS : ∀ b, S b → b ≠ g)
    (hxl : xs.length ≤ 16777216) :
    Calls Try.prog 49 #[.pointer (some ⟨g, 0, none⟩)] w fun e w' => e = .returned (.tuple #[]) ∧ ∃ v3, Lies w' g 38 #[v1, .slice fa xs.length fc, v3] ∧
      w'.ownsRow w.heap.size 3 1 v3 (rootsOf xs).length (intCells (rootsOf xs)) ∧ w.grownBy w' (some g) := by
  have HF := Lib.hid hf
  have HS := Lib.hid hS
  have hg := hL.lt
  have hnil := World.ownsRow_nil w w.heap.size 3 1
  have HL := Lib.hid hL
  clear hf hS hL
  go_enter Try.func49, Try.ntmps49
  go_wp2
  go_loopw [2] (fun i wr => ∃ (k : Nat) (v3 : Value), k ≤ xs.length ∧ i = .int .i64 k ∧ Lies wr g 38 #[v1, .slice fa xs.length fc, v3] ∧ wr.ownsRow w.heap.size 3 1 v3 (rootsTo xs k).length (intCells (rootsTo xs k)) ∧ w.grownBy wr (some g)) (fun i _ => xs.length - (intOf i).toNat)
  case atStart => exact ⟨0, .slice none 0 0, Nat.zero_le _, rfl, HL.out, hnil, World.grownBy.refl _ _⟩
  case round =>
    obtain ⟨i, v3, hi, rfl, hLr, hown, hgr⟩ := hrel
    have c1 : wr.cell? ⟨g, 1, none⟩ = some (.slice fa xs.length fc) := hLr.cell 1
    have c2 : wr.cell? ⟨g, 2, none⟩ = some v3 := hLr.cell 2
    have f2 := hLr.frozen 2
    obtain ⟨a3, cp3, rfl, hcp⟩ := own_slice hown
    have HLR := Lib.hid hLr
    have HOWN := Lib.hid hown
    have HGR := Lib.hid hgr
    clear hLr hown hgr hnil
    by_cases hlt : i < xs.length
    · have hrl := rootsTo_length xs i
      go_wp2
      obtain ⟨wo, rfl⟩ : ∃ wo : World, wo = wr := ⟨_, rfl⟩
      go_loopw [3, 4] (fun l k wr => ∃ (j n : Nat), i + 1 ≤ j ∧ j ≤ xs.length ∧ k = .int .i64 j ∧ l = .bool (noneTo xs i j) ∧ wr = wo.drewN n) (fun _ k _ => xs.length - (intOf k).toNat)
      case atStart => exact ⟨i + 1, 0, by omega, by omega, by go_num, by rw [noneTo_zero], rfl⟩
      case round =>
        obtain ⟨j, n, hij, hj, rfl, rfl, rfl⟩ := hrel
        by_cases hlt2 : j < xs.length
        · obtain ⟨b1, o1, ha1, hS1, hc1⟩ := HF.out.getI hlt2
          obtain ⟨b2, o2, ha2, _, hc2⟩ := HF.out.getI hlt
          subst ha1
          injection ha2 with ha2
          injection ha2 with hb12 ho12
          subst hb12 ho12
          have hbne := HS.out _ hS1
          have hbl : b1 < w.heap.size := World.block_lt_of_cell? w _ hc1
          have d1 : wo.cell? ⟨b1, o1 + j, none⟩ = some (.int .i64 xs[j]) := HGR.out.cell hc1 (by simpa using hbne)
          have d2 : wo.cell? ⟨b1, o1 + i, none⟩ = some (.int .i64 xs[i]) := HGR.out.cell hc2 (by simpa using hbne)
          have hsucc := noneTo_succ xs i j hij hlt2
          rw [List.getElem?_eq_getElem hlt2, List.getElem?_eq_getElem hlt] at hsucc
          simp only [Option.getD_some] at hsucc
          have HSUCC := Lib.hid hsucc
          clear hc1 hc2 hsucc
          cases hn : noneTo xs i j with
          | true =>
            have HN := Lib.hid hn
            clear hn
            go_wp2
            go_quiet (fail)
            go_wp2
            go_roundw
            case rel =>
              refine ⟨j + 1, n + nq, by omega, by omega, by go_num, ?_, by simp⟩
              rw [HSUCC.out, HN.out, Bool.true_and]
            case measure => simp [intOf]; omega
          | false =>
            have HN := Lib.hid hn
            clear hn
            go_wp2
            go_quiet (fail)
            go_wp2
            go_roundw
            case rel =>
              refine ⟨j + 1, n + nq, by omega, by omega, by go_num, ?_, by simp⟩
              rw [HSUCC.out, HN.out, Bool.false_and]
            case measure => simp [intOf]; omega
        · have hj2 : j = xs.length := by omega
          have hroot := noneTo_all xs i hlt
          rw [← hj2] at hroot
          have HR2 := Lib.hid (rootsTo_succ xs i)
          rw [hroot]
          cases hr : isRoot xs i with
          | true =>
            have HR := Lib.hid hr
            have HOWNd : Hid ((wo.drewN n).ownsRow w.heap.size 3 1 (.slice a3 (rootsTo xs i).length cp3) (rootsTo xs i).length (intCells (rootsTo xs i))) := HOWN.out
            have HLRd : Hid (Lies (wo.drewN n) g 38 #[v1, .slice fa xs.length fc, .slice a3 (rootsTo xs i).length cp3]) := HLR.out
            have HGRd : Hid (w.grownBy (wo.drewN n) (some g)) := grown_drewN HGR.out n
            have hszd : w.heap.size ≤ wo.heap.size := HGR.out.size
            have hne : some g ≠ (Value.slice a3 (rootsTo xs i).length cp3).ownBlock := fun e => by have := (World.ownsRow.lt HOWN.out g e.symm).1; omega
            clear hr hj2 hroot
            go_wp2_with (at_builtin; go_loud (refine wpList_app _ rfl elInt (.tmp 48) (.tmp 50) rfl w.heap.size _ (rootsTo xs i).length (intCells (rootsTo xs i)) rfl (HOWNd.out.alloc _) (fun _ => True) (some ⟨wo.heap.size, 0, none⟩) 1 1 (intCells [(i : Int)]) rfl rfl (At.new (wo.drewN n) [.int .i64 (i : Int)] 3 trivial) (intCells_one _) (by omega) (by simp; omega) ?_); intro v4 w1 hown1 hg1 hat1; obtain ⟨a4, cp4, rfl, hcp4⟩ := own_slice hown1; have hL1 := (HLRd.out.alloc _).grown hg1 hne; have k2 : w1.cell? ⟨g, 2, none⟩ = some (.slice a3 (rootsTo xs i).length cp3) := hL1.cell 2; have kf2 := hL1.frozen 2; have HL1 := Lib.hid hL1; have HOWN1 := Lib.hid hown1; have HG1 := Lib.hid hg1; clear hL1 hown1 hg1 hat1)
            go_roundw
            case rel =>
              have hs := HR2.out
              rw [HR.out, if_pos rfl] at hs
              have hlen : (rootsTo xs (i + 1)).length = (rootsTo xs i).length + 1 := by rw [hs]; simp
              refine ⟨i + 1, .slice a4 ((rootsTo xs i).length + 1) cp4, by omega, by go_num, HL1.out.set 2 _, ?_, ?_⟩
              · rw [hlen, hs, intCells_append]
                exact ownsRow_setCell_below HOWN1.out (a := ⟨g, 2, none⟩) hg _
              · have h1 : w.grownBy (wo.drewN n) (some g) := HGRd.out
                have h2 : w.grownBy w1 (some g) := by
                  have ha := World.grownBy_alloc (wo.drewN n) (.cells #[.int .i64 (i : Int)] 3) (some g)
                  refine ⟨HG1.out.os.trans h1.os, HG1.out.tape.trans h1.tape, HG1.out.output.trans h1.output, Nat.le_trans h1.size (Nat.le_trans ha.size HG1.out.size), fun b hb hbn => ?_⟩
                  rw [HG1.out.block b (by have := h1.size; simp at this ⊢; omega) (fun e => by have := (World.ownsRow.lt HOWN.out b e.symm).1; omega), ha.block b (by have := h1.size; omega) hbn, h1.block b hb hbn]
                refine ⟨h2.os, h2.tape, h2.output, by simpa using h2.size, fun b hb hbn => ?_⟩
                rw [Below.heap_setCell _ _ _ b (fun e => hbn (by rw [e])), h2.block b hb hbn]
            case measure => simp [intOf]; omega
          | false =>
            have HR := Lib.hid hr
            clear hr hj2 hroot
            go_wp2
            go_roundw
            case rel =>
              have hs := HR2.out
              rw [HR.out, if_neg (by simp), List.append_nil] at hs
              refine ⟨i + 1, .slice a3 (rootsTo xs i).length cp3, by omega, by go_num, HLR.out, ?_, grown_drewN HGR.out n⟩
              rw [hs]
              exact HOWN.out
            case measure => simp [intOf]; omega
    · have hi2 : i = xs.length := by omega
      have HI := Lib.hid hi2
      clear hi2
      go_wp2
      go_end0
      have h := HOWN.out
      rw [HI.out] at h
      have hl := HLR.out
      rw [HI.out] at hl
      exact ⟨rfl, _, hl, h, HGR.out⟩
end Go.Proofs.Ytfajbkofbjcbbaa
