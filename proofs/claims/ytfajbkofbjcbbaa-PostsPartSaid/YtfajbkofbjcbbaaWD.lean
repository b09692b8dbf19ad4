/- Walk: roots. -/
import Derived.Test.YtfajbkofbjcbbaaWC
import Derived.Test.YtfajbkofbjcbbaaPlainA
namespace Go.Proofs.Ytfajbkofbjcbbaa
open Go.RowKit

theorem Lies.set {w : World} {b : Nat} {t : TypeId} {cs : Array Value} (h : Lies w b t cs) (i : Nat) (u : Value) : Lies (w.setCell ⟨b, i, none⟩ u) b t (cs.setIfInBounds i u) := by
  unfold Lies at h ⊢
  simp [World.setCell, Array.getElem?_modify, h]
theorem Lies.drew {w : World} {b : Nat} {t : TypeId} {cs : Array Value} (h : Lies w b t cs) : Lies w.drew b t cs := h
/-- a row of whole numbers of the call's own -/
def LiesI (w : World) (b : Nat) (xs : List Int) : Prop := Lies w b 3 (intCells xs).toArray
theorem LiesI.cell {w : World} {b : Nat} {xs : List Int} (h : LiesI w b xs) {i : Nat} {x : Int} (hx : xs[i]? = some x) : w.cell? ⟨b, i, none⟩ = some (.int .i64 x) := by
  rw [Lies.cell h]; simp [intCells, hx]
theorem LiesI.set {w : World} {b : Nat} {xs : List Int} (h : LiesI w b xs) (i : Nat) (x : Int) : LiesI (w.setCell ⟨b, i, none⟩ (.int .i64 x)) b (xs.set i x) := by
  have h1 := Lies.set h i (.int .i64 x)
  unfold LiesI
  have e : (intCells xs).toArray.setIfInBounds i (.int .i64 x) = (intCells (xs.set i x)).toArray := by
    simp [intCells, List.map_set]
  rwa [e] at h1
theorem madeInts (n : Nat) : madeCells (Value.int .i64 0).cells (n * 1) = (intCells (List.replicate n 0)).toArray := by
  apply Array.ext'
  show (madeCells #[Value.int .i64 0] (n * 1)).toList = _
  rw [toList_madeCells_one]
  simp [intCells]
theorem elInt_mk (u : World) (n : Nat) (hn : n ≤ 67108864) : (Instr.makeSlice 31 (.int .i64 (n : Int)) (.int .i64 (n : Int))).run Try.prog u = .ok (.slice (some ⟨u.heap.size, 0, none⟩) n n) (u.alloc (.cells (intCells (List.replicate n 0)).toArray 3)) := by
  have h := run_mk (P := Try.prog) u elInt .i64 .i64 n n (Nat.le_refl _) hn
  rwa [madeInts] at h

set_option maxRecDepth 100000 in
set_option maxHeartbeats 1000000 in
theorem roots_any (S : Nat → Prop) (a : Option Addr) (c : Nat) (xs : List Int) (w : World) (hx : At S w a (intCells xs)) (hxl : xs.length ≤ 16777216)
    (hb : ∀ j, j < xs.length → 0 ≤ xs[j]?.getD 0 ∧ xs[j]?.getD 0 < xs.length) :
    Calls Try.prog 46 #[.slice a xs.length c] w fun e w' => ∃ a', e = .returned (.slice a' (rootsOf xs).length (rootsOf xs).length) ∧
      AtW (fun b => w.heap.size ≤ b) w' a' (intCells (rootsOf xs)) ∧ Below w.heap.size w w' := by
  have hmk := fun u : World => elInt_mk u xs.length (by omega)
  have HX := Lib.hid hx
  have HB := Lib.hid hb
  clear hx hb
  go_enter Try.func46, Try.ntmps46
  go_wp2
  go_loopw [14] (fun i wr => ∃ (k : Nat) (ls : List Int), k ≤ xs.length ∧ i = .int .i64 k ∧ Noted xs ls k ∧ LiesI wr w.heap.size ls ∧ Below w.heap.size w wr) (fun i _ => xs.length - (intOf i).toNat)
  case atStart => exact ⟨0, List.replicate xs.length 0, Nat.zero_le _, rfl, Noted.zero xs, Lies.new _ _ _, (Below.refl _ _).alloc (Nat.le_refl _) _⟩
  case round =>
    obtain ⟨k, ls, hk, rfl, hN, hL, hBw⟩ := hrel
    by_cases hlt : k < xs.length
    · obtain ⟨b1, o1, ha1, _, hc1⟩ := HX.out.getI hlt
      subst ha1
      have hb1 : b1 < w.heap.size := World.block_lt_of_cell? w _ hc1
      have hc2 := (hBw.cell (p := ⟨b1, o1 + k, none⟩) hb1).trans hc1
      have hxk := HB.out k hlt
      have e1 : xs[k]?.getD 0 = xs[k] := by rw [List.getElem?_eq_getElem hlt]; rfl
      have hN2 := Lib.hid (hN.succ hlt HB.out)
      have hLs := Lib.hid (hL.set (xs[k]).toNat (k : Int))
      have hlen := hN.1
      have hold : ls[(xs[k]).toNat]? = some (ls[(xs[k]).toNat]'(by omega)) := List.getElem?_eq_getElem (by omega)
      have hcold := hL.cell hold
      have hfr : wr.frozen? ⟨w.heap.size, (xs[k]).toNat, none⟩ = false := Lies.frozen hL _
      rw [e1] at hxk
      have E1 := Lib.hid e1
      have HBW := Lib.hid hBw
      have HLEN := Lib.hid hlen
      generalize ls[(xs[k]).toNat]'(by omega) = old at hold hcold
      clear hc1 hN hL hold e1 hBw hlen
      go_wp2
      go_roundw
      case rel =>
        refine ⟨k + 1, ls.set (xs[k]).toNat (k : Int), by omega, by go_num, ?_, hLs.out, HBW.out.setCell (p := ⟨w.heap.size, (xs[k]).toNat, none⟩) (Nat.le_refl _) _⟩
        have h := hN2.out
        rw [E1.out] at h
        exact h
      case measure => simp [intOf]; omega
    · have hk2 : k = xs.length := by omega
      rw [hk2] at hN
      have hk3 := Lib.hid hk2
      have HN := Lib.hid hN
      have HL := Lib.hid hL
      have HLEN := Lib.hid hN.1
      have HBW := Lib.hid hBw
      have hsz : w.heap.size < wr.heap.size := Lies.lt hL
      clear hk2 hN hL hBw
      obtain ⟨wo, rfl⟩ : ∃ wo : World, wo = wr := ⟨_, rfl⟩
      have hnil := World.ownsRow_nil wo (w.heap.size + 1) 3 1
      go_wp2
      go_loopw [26, 6] (fun i v wr => ∃ (k : Nat), k ≤ xs.length ∧ i = .int .i64 k ∧ wr.ownsRow (w.heap.size + 1) 3 1 v (rootsTo xs k).length (intCells (rootsTo xs k)) ∧ Below (w.heap.size + 1) wo wr) (fun i _ _ => xs.length - (intOf i).toNat)
      case atStart => exact ⟨0, Nat.zero_le _, rfl, hnil, Below.refl _ _⟩
      case round =>
        clear hlt hk
        obtain ⟨k, hk, rfl, hown, hBw⟩ := hrel
        have hsz2 : w.heap.size + 1 ≤ wr.heap.size := Nat.le_trans hsz hBw.size
        have hrl := rootsTo_length xs k
        by_cases hlt : k < xs.length
        · obtain ⟨b1, o1, ha1, _, hc1⟩ := HX.out.getI hlt
          subst ha1
          have hb1 : b1 < w.heap.size := World.block_lt_of_cell? w _ hc1
          have hc2 := (hBw.cell (p := ⟨b1, o1 + k, none⟩) (Nat.lt_succ_of_lt hb1)).trans ((HBW.out.cell (p := ⟨b1, o1 + k, none⟩) hb1).trans hc1)
          have hxk := HB.out k hlt
          have e1 : xs[k]?.getD 0 = xs[k] := by rw [List.getElem?_eq_getElem hlt]; rfl
          obtain ⟨m, hm, hls, htest⟩ := HN.out.root hlt
          rw [e1] at hxk hls
          have hcl := (hBw.cell (p := ⟨w.heap.size, (xs[k]).toNat, none⟩) (Nat.lt_succ_self _)).trans (LiesI.cell HL.out hls)
          have HS := Lib.hid (rootsTo_succ xs k)
          have HOWN := Lib.hid hown
          have HBW2 := Lib.hid hBw
          clear hc1 hls e1 hown hBw
          cases hr : isRoot xs k with
          | true =>
            rw [hr] at htest
            have HR := Lib.hid hr
            clear hr
            go_wp2_with (at_builtin; refine wpList_app _ rfl elInt (.tmp 37) (.tmp 39) rfl (w.heap.size + 1) _ (rootsTo xs k).length (intCells (rootsTo xs k)) rfl (HOWN.out.alloc _) (fun _ => True) (some ⟨wr.heap.size, 0, none⟩) 1 1 (intCells [(k : Int)]) rfl rfl (fun _ => ⟨_, 0, rfl, trivial, fun j u hu => by simpa [intCells] using hu⟩) (intCells_one _) (by omega) (by simp; omega) ?_; intro v1 w1 hown1 hg1 hat1; have HO1 := Lib.hid hown1; have HG1 := Lib.hid hg1; clear hown1 hg1 hat1)
            go_roundw
            case rel =>
              have hs := HS.out
              rw [HR.out, if_pos rfl] at hs
              refine ⟨k + 1, by omega, by go_num, ?_, ?_⟩
              · rw [hs, intCells_append, List.length_append]
                exact HO1.out
              · have hz : w.heap.size + 1 ≤ wr.heap.size + 1 := by omega
                exact (HBW2.out.alloc hsz2 _).grown HG1.out (by simp; omega) (fun j e => (World.ownsRow.lt HOWN.out j e).1)
            case measure => simp [intOf]; omega
          | false =>
            rw [hr] at htest
            have HR := Lib.hid hr
            clear hr
            go_wp2
            go_roundw
            case rel =>
              have hs := HS.out
              rw [HR.out, if_neg (by simp), List.append_nil] at hs
              refine ⟨k + 1, by omega, by go_num, ?_, HBW2.out⟩
              rw [hs]
              exact HOWN.out
            case measure => simp [intOf]; omega
        · have hk2 : k = xs.length := by omega
          rw [hk2] at hown hrl
          have HOWN := Lib.hid hown
          have HBW2 := Lib.hid hBw
          have hv : ∃ a' c', u6 = .slice a' (rootsOf xs).length c' ∧ (rootsOf xs).length ≤ c' := by
            rcases hown.2 with ⟨h1, h2⟩ | ⟨g, cap, cur, h1, _, _, h2, _⟩
            · exact ⟨none, 0, by rw [h1]; congr 1; exact h2.symm, by unfold rootsOf; omega⟩
            · exact ⟨_, cap, h1, h2⟩
          clear hk2 hown hBw
          obtain ⟨a', c', rfl, hc'⟩ := hv
          have hrl' : (rootsOf xs).length ≤ 67108864 := by unfold rootsOf; omega
          go_wp2_with (go_at_call 45; refine (clipI_any a' (rootsOf xs).length c' _ hc' hrl').mono ?_; rintro e w' ⟨rfl, rfl⟩)
          go_ret
          refine ⟨a', rfl, (own_atW HOWN.out).mono (fun b _ h => by omega), HBW.out.trans (HBW2.out.mono (by omega))⟩
end Go.Proofs.Ytfajbkofbjcbbaa
