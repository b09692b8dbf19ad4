/- Walk: inarchref19.Part. -/
import Derived.Test.YtfajbkofbjcbbaaWG
import Derived.Deep.RegionLaw
import Derived.Deep.DeepCutAuto
import Derived.Deep.LoopGhost
namespace Go.Proofs.Ytfajbkofbjcbbaa
open Go.RowKit

theorem stRPost : StructTy Try.prog 38 3 := ⟨_, Try.underlying38, by kernel_rfl⟩
theorem elRLbl : Elem Try.prog 36 78 (.agg #[.bool false, .string .empty, .int .u8 0, .string .empty]) 4 48 := by
  obtain ⟨i, h1, h2, h3, h4⟩ := info_parts (P := Try.prog) (e := 78) (z := .agg #[.bool false, .string .empty, .int .u8 0, .string .empty]) (size := 4) (bytes := 48) (by kernel_rfl)
  exact ⟨Try.underlying36, ⟨i, h1, h2, h3, h4⟩, rfl, by decide, by decide⟩

theorem lies_three (w : World) (cs1 : Array Value) (t1 : TypeId) (cs2 : Array Value) (t2 : TypeId) (cs3 : Array Value) (t3 : TypeId) :
    Lies (((w.alloc (.cells cs1 t1)).alloc (.cells cs2 t2)).alloc (.cells cs3 t3)) w.heap.size t1 cs1 ∧ Lies (((w.alloc (.cells cs1 t1)).alloc (.cells cs2 t2)).alloc (.cells cs3 t3)) (w.heap.size + 1) t2 cs2 ∧
    Lies (((w.alloc (.cells cs1 t1)).alloc (.cells cs2 t2)).alloc (.cells cs3 t3)) (w.heap.size + 2) t3 cs3 := by
  refine ⟨(lies_two w cs1 t1 cs2 t2).1.alloc _, (lies_two w cs1 t1 cs2 t2).2.alloc _, ?_⟩
  have h := Lies.new ((w.alloc (.cells cs1 t1)).alloc (.cells cs2 t2)) t3 cs3
  rwa [World.size_alloc, World.size_alloc] at h

/-- the cells of the i-th label -/
theorem lblCells_get {ls : List Lbl} {i : Nat} (h : i < ls.length) : (lblCells ls)[i * 4]? = some (.bool ls[i].keyed) ∧ (lblCells ls)[i * 4 + 1]? = some (.string ls[i].key) ∧ (lblCells ls)[i * 4 + 2]? = some (.int .u8 ls[i].kind) ∧ (lblCells ls)[i * 4 + 3]? = some (.string ls[i].text) := by
  induction ls generalizing i with
  | nil => simp at h
  | cons l r ih =>
    cases i with
    | zero => exact ⟨rfl, rfl, rfl, rfl⟩
    | succ i =>
      obtain ⟨h0, h1, h2, h3⟩ := ih (i := i) (by simpa using h)
      refine ⟨?_, ?_, ?_, ?_⟩
      · rw [show (i + 1) * 4 = i * 4 + 4 by omega]; simpa [lblCells, lblCell] using h0
      · rw [show (i + 1) * 4 + 1 = i * 4 + 1 + 4 by omega]; simpa [lblCells, lblCell] using h1
      · rw [show (i + 1) * 4 + 2 = i * 4 + 2 + 4 by omega]; simpa [lblCells, lblCell] using h2
      · rw [show (i + 1) * 4 + 3 = i * 4 + 3 + 4 by omega]; simpa [lblCells, lblCell] using h3
theorem At.getL {S : Nat → Prop} {w : World} {a : Option Addr} {ls : List Lbl} (h : At S w a (lblCells ls)) {i : Nat} (hi : i < ls.length) :
    ∃ b o, a = some ⟨b, o, none⟩ ∧ S b ∧ w.cell? ⟨b, o + i * 4, none⟩ = some (.bool ls[i].keyed) ∧ w.cell? ⟨b, o + i * 4 + 1, none⟩ = some (.string ls[i].key) ∧ w.cell? ⟨b, o + i * 4 + 2, none⟩ = some (.int .u8 ls[i].kind) ∧ w.cell? ⟨b, o + i * 4 + 3, none⟩ = some (.string ls[i].text) := by
  obtain ⟨e0, e1, e2, e3⟩ := lblCells_get hi
  have hn : lblCells ls ≠ [] := by intro h0; rw [h0] at e0; simp at e0
  obtain ⟨b, o, ha, hS, hc⟩ := h hn
  exact ⟨b, o, ha, hS, hc _ _ e0, hc _ _ e1, hc _ _ e2, hc _ _ e3⟩

/-- rows of unlike types lie in unlike blocks -/
theorem own_types {w : World} {B B' : Nat} {e e' : TypeId} {size size' n n' : Nat} {v v' : Value} {xs xs' : List Value} (h : w.ownsRow B e size v n xs) (h' : w.ownsRow B' e' size' v' n' xs') (hne : e ≠ e') : v.ownBlock = none ∨ v.ownBlock ≠ v'.ownBlock := by
  rcases h.2 with ⟨rfl, _⟩ | ⟨g, cap, cur, rfl, _, hh, _⟩
  · exact .inl rfl
  · rcases h'.2 with ⟨rfl, _⟩ | ⟨g', cap', cur', rfl, _, hh', _⟩
    · exact .inr (by simp [Value.ownBlock])
    · refine .inr (fun e => ?_)
      have e1 : g = g' := by simpa [Value.ownBlock] using e
      subst e1
      rw [hh] at hh'
      injection hh' with hh'
      injection hh' with _ ht
      exact hne ht

set_option maxRecDepth 100000 in
set_option maxHeartbeats 2000000 in
theorem refPart_any (S : Nat → Prop) (la fa ra : Option Addr) (lc fc nr rc : Nat) (ls : List Lbl) (xs : List Int) (node : Int) (w : World) (hl : At S w la (lblCells ls)) (hf : At S w fa (intCells xs))
    (hlb : ls.length ≤ 16777216) (_hfb : xs.length ≤ 16777216) (hok : partOk ls xs node) :
    Calls Try.prog 20 #[.agg #[.slice la ls.length lc, .slice fa xs.length fc, .slice ra nr rc], .int .i64 node] w fun e w' =>
      (partFits xs node (partLen xs node) → ∃ (la' fa' ra' : Option Addr) (lc' fc' rc' : Nat), e = .returned (.tuple #[.agg #[.slice la' (partLabels ls xs node).length lc', .slice fa' (partLeft xs node).length fc',
            .slice ra' (rootsOf (partLeft xs node)).length rc'], .bool true]) ∧
          At (fun b => w.heap.size ≤ b) w' la' (lblCells (partLabels ls xs node)) ∧ At (fun b => w.heap.size ≤ b) w' fa' (intCells (partLeft xs node)) ∧ At (fun b => w.heap.size ≤ b) w' ra' (intCells (rootsOf (partLeft xs node)))) ∧
      (¬ partFits xs node (partLen xs node) → e = .returned noPost) ∧ Below w.heap.size w w' := by
  have hok1 := hok
  obtain ⟨h1, h2, h3, h4, h5⟩ := hok
  have hn : node.toNat < xs.length := by omega
  obtain ⟨b1, o1, ha1, _, hc1⟩ := hf.getI hn
  have e1 : xs[node.toNat]?.getD 0 = xs[node.toNat] := by rw [List.getElem?_eq_getElem hn]; rfl
  rw [e1] at h4 h5
  obtain ⟨nd, rfl⟩ := Int.eq_ofNat_of_zero_le h1
  obtain ⟨f, hfrom⟩ : ∃ f : Nat, f = partFrom xs (nd : Int) := ⟨_, rfl⟩
  have hff : xs[(nd : Int).toNat] = (f : Int) := by rw [hfrom]; unfold partFrom; rw [e1]; omega
  rw [hff] at hc1 h4 h5
  have hlabl := partLabels_length hok1
  have hplen : partLen xs nd = nd + 1 - f := by unfold partLen; rw [← hfrom]; rfl
  have g1 : decide ((nd : Int) < 0) = false := by simp
  have g2 : decide (ls.length ≤ nd) = false := by simp; omega
  have g3 : ((xs.length : Int) != (ls.length : Int)) = false := by simp; omega
  have g4 : decide ((f : Int) < 0) = false := by simp
  have g5 : decide (nd < f) = false := by simp; omega
  have hb1 : b1 < w.heap.size := World.block_lt_of_cell? w _ hc1
  have hb1' : b1 < w.heap.size + 1 := by omega
  have hb1'' : b1 < w.heap.size + 1 + 1 := by omega
  have hb1''' : b1 < w.heap.size + 2 := by omega
  have hnd2 : nd < xs.length := by omega
  have hnd3 : nd < ls.length := by omega
  have hfn : f ≤ nd := by omega
  subst ha1
  simp only [Int.toNat_natCast] at hc1
  have HOK := Lib.hid hok1
  have HF := Lib.hid hf
  have HL := Lib.hid hl
  have H3 := Lib.hid h3
  have HLL := Lib.hid hlabl
  have HPL := Lib.hid hplen
  have HFR := Lib.hid hfrom
  have L3 := lies_three w #[.slice la ls.length lc, .slice (some ⟨b1, o1, none⟩) xs.length fc, .slice ra nr rc] 38 #[.slice none 0 0, .slice none 0 0, .slice none 0 0] 38 #[.slice none 0 0, .slice none 0 0, .slice none 0 0] 38
  have HL3 := Lib.hid L3
  have nil1 := World.ownsRow_nil
  have HNIL := Lib.hid nil1
  clear hok1 hf hl h3 e1 hff hlabl hplen hfrom hn L3 nil1
  go_enter Try.func20, Try.ntmps20
  go_wp2_with fail
  go_loopg [8] (nd + 1 - f) (fun g i wr => ∃ (k j : Nat) (v1 v2 : Value), g + k = nd + 1 - f ∧ i = .int .i64 j ∧ Hid (j = f + k ∧ partFits xs nd k) ∧
      Lies wr w.heap.size 38 #[.slice la ls.length lc, .slice (some ⟨b1, o1, none⟩) xs.length fc, .slice ra nr rc] ∧
      Lies wr (w.heap.size + 1) 38 #[.slice none 0 0, .slice none 0 0, .slice none 0 0] ∧
      Lies wr (w.heap.size + 1 + 1) 38 #[v1, v2, .slice none 0 0] ∧
      wr.ownsRow (w.heap.size + 3) 78 4 v1 k (lblCells ((ls.drop f).take k)) ∧ wr.ownsRow (w.heap.size + 3) 3 1 v2 k (intCells (((xs.drop f).take k).map (· - (f : Int)))) ∧ Below w.heap.size w wr)
  case atStart =>
    exact ⟨0, f, .slice none 0 0, .slice none 0 0, rfl, rfl, ⟨rfl, fun i hi => absurd hi (by omega)⟩, HL3.out.1, HL3.out.2.1, HL3.out.2.2, HNIL.out _ _ _ _, HNIL.out _ _ _ _, (((Below.refl _ _).alloc (Nat.le_refl _) _).alloc (by simp) _).alloc (by simp; omega) _⟩
  case round =>
    obtain ⟨k, j, v1, v2, hgk, rfl, HP, hLa, hLb, hLq, hown1, hown2, hBw⟩ := hrel
    have hk : k ≤ nd + 1 - f := by omega
    have hgk1 : gk + k ≤ nd + 1 - f := by omega
    have hgk2 : nd + 1 - f ≤ gk + k := by omega
    clear hgk
    have p0 : wr.cell? ⟨w.heap.size, 0, none⟩ = some (.slice la ls.length lc) := hLa.cell 0
    have p1 : wr.cell? ⟨w.heap.size, 1, none⟩ = some (.slice (some ⟨b1, o1, none⟩) xs.length fc) := hLa.cell 1
    obtain ⟨a1, cp1, rfl, hcp1⟩ := own_slice hown1
    obtain ⟨a2, cp2, rfl, hcp2⟩ := own_slice hown2
    have q0 : wr.cell? ⟨w.heap.size + 1 + 1, 0, none⟩ = some (.slice a1 k cp1) := hLq.cell 0
    have q1 : wr.cell? ⟨w.heap.size + 1 + 1, 1, none⟩ = some (.slice a2 k cp2) := hLq.cell 1
    have q2 : wr.cell? ⟨w.heap.size + 1 + 1, 2, none⟩ = some (.slice none 0 0) := hLq.cell 2
    have q0f := hLq.frozen 0
    have q1f := hLq.frozen 1
    have q2f := hLq.frozen 2
    have HLA := Lib.hid hLa
    have HLB := Lib.hid hLb
    have HLQ := Lib.hid hLq
    have HO1 := Lib.hid hown1
    have HO2 := Lib.hid hown2
    have HBW := Lib.hid hBw
    have hszr := hLq.lt
    by_cases hlt : k < nd + 1 - f
    · have hjk : j = f + k := HP.out.1
      have hi : j < xs.length := by omega
      have hil : j < ls.length := by have := H3.out; omega
      have hfj : f ≤ j := by omega
      have hkj : j ≤ f + k := by omega
      have hjk2 : f + k ≤ j := by omega
      clear hjk
      obtain ⟨b2, o2, ha2, _, hcx⟩ := HF.out.getI hi
      injection ha2 with ha2
      injection ha2 with hb12 ho12
      subst hb12 ho12
      obtain ⟨b3, o3, ha3, _, l0, l1, l2, l3⟩ := HL.out.getL hil
      subst ha3
      have hb3 : b3 < w.heap.size := World.block_lt_of_cell? w _ l0
      have hcx2 := (hBw.cell (p := ⟨b1, o1 + j, none⟩) hb1).trans hcx
      have m0 := (hBw.cell (p := ⟨b3, o3 + j * 4, none⟩) hb3).trans l0
      have m1 := (hBw.cell (p := ⟨b3, o3 + j * 4 + 1, none⟩) hb3).trans l1
      have m2 := (hBw.cell (p := ⟨b3, o3 + j * 4 + 2, none⟩) hb3).trans l2
      have m3 := (hBw.cell (p := ⟨b3, o3 + j * 4 + 3, none⟩) hb3).trans l3
      have hxe : xs[j]?.getD 0 = xs[j] := by rw [List.getElem?_eq_getElem hi]; rfl
      have HXE := Lib.hid hxe
      obtain ⟨x, hx⟩ : ∃ x, xs[j] = x := ⟨_, rfl⟩
      rw [hx] at hcx2
      have HX := Lib.hid hx
      have hki : j ≤ nd := by omega
      clear hLa hLb hLq hown1 hown2 hBw hcx hxe hx l0 l1 l2 l3
      by_cases hfit : (f : Int) ≤ x ∧ x ≤ j
      · obtain ⟨t1, t2⟩ := hfit
        have t1' : decide (x < (f : Int)) = false := by simp; omega
        have t2' : decide ((j : Int) < x) = false := by simp; omega
        obtain ⟨lb, hlb2⟩ : ∃ lb, ls[j] = lb := ⟨_, rfl⟩
        rw [hlb2] at m0 m1 m2 m3
        have HLB2 := Lib.hid hlb2
        clear hlb2
        have hne12 : some (w.heap.size + 1 + 1) ≠ (Value.slice a1 k cp1).ownBlock := fun e => by have := (World.ownsRow.lt HO1.out _ e.symm).1; omega
        have hz3 : w.heap.size + 3 ≤ wr.heap.size := hszr
        have i2 : (j : Int) < (ls.length : Int) := by omega
        have i3 : (j : Int) < (xs.length : Int) := by omega
        go_upto_region 12 with (fail)
        go_cut [] (fun wx => ∃ (a1' : Option Addr) (cp1' : Nat), Lies wx w.heap.size 38 #[.slice (some ⟨b3, o3, none⟩) ls.length lc, .slice (some ⟨b1, o1, none⟩) xs.length fc, .slice ra nr rc] ∧
          Lies wx (w.heap.size + 1) 38 #[.slice none 0 0, .slice none 0 0, .slice none 0 0] ∧
          Lies wx (w.heap.size + 1 + 1) 38 #[.slice a1' (k + 1) cp1', .slice a2 k cp2, .slice none 0 0] ∧
          wx.ownsRow (w.heap.size + 3) 78 4 (.slice a1' (k + 1) cp1') (k + 1) (lblCells ((ls.drop f).take k ++ [lb])) ∧ wx.ownsRow (w.heap.size + 3) 3 1 (.slice a2 k cp2) k (intCells (((xs.drop f).take k).map (· - (f : Int)))) ∧ Below w.heap.size w wx)
        case first =>
          go_region_law
            (first | (refine step_app _ rfl elRLbl (.tmp 66) (.tmp 72) rfl (w.heap.size + 3) _ k (lblCells ((ls.drop f).take k)) rfl (HO1.out.alloc (.cells #[.bool lb.keyed, .string lb.key, .int .u8 lb.kind, .string lb.text] 78)).drew (fun _ => True) (some ⟨wr.heap.size, 0, none⟩) 1 1 (lblCell lb) rfl rfl (At.new wr (lblCell lb) 78 trivial) (lblCells_one [lb]) (by omega) (by simp; omega) ?_; intro v1' w1 hown1' hg1 hat1; have hb1k : Below (w.heap.size + 3) wr w1 := (((Below.refl _ wr).alloc hz3 _).drew).grown hg1 (by simp; omega) (fun j e => (World.ownsRow.lt HO1.out j e).1); have n0 := (hb1k.cell (p := ⟨w.heap.size, 0, none⟩) (by first | (simp; done) | (simp; omega))).trans p0; have n1 := (hb1k.cell (p := ⟨b3, o3 + j * 4, none⟩) (by first | (simp; done) | (simp; omega))).trans m0; have n2 := (hb1k.cell (p := ⟨b3, o3 + j * 4 + 1, none⟩) (by first | (simp; done) | (simp; omega))).trans m1; have n3 := (hb1k.cell (p := ⟨b3, o3 + j * 4 + 2, none⟩) (by first | (simp; done) | (simp; omega))).trans m2; have n4 := (hb1k.cell (p := ⟨b3, o3 + j * 4 + 3, none⟩) (by first | (simp; done) | (simp; omega))).trans m3; obtain ⟨a1', cp1', rfl, hcp1'⟩ := own_slice hown1'; have hq1 := HLQ.out.below hb1k (by omega); have r0 : w1.cell? ⟨w.heap.size + 1 + 1, 0, none⟩ = some (.slice a1 k cp1) := hq1.cell 0; have r0f := hq1.frozen 0; have HQ1 := Lib.hid hq1; have HB1K := Lib.hid hb1k; have HO1' := Lib.hid hown1'; have HG1 := Lib.hid hg1; clear hq1 hb1k hown1' hg1 hat1))
          all_goals
            go_wp2_with fail
            go_meet
            case rel =>
              refine ⟨a1', cp1', (HLA.out.below HB1K.out (by omega)).far (by simp; omega) _, (HLB.out.below HB1K.out (by omega)).far (by simp) _, HQ1.out.set 0 _, ?_, ?_, (HBW.out.trans (HB1K.out.mono (by omega))).setCell (by simp; omega) _⟩
              · rw [lblCells_append]
                exact ownsRow_setCell_below (by simpa [lblCells] using HO1'.out) (by simp) _
              · exact ownsRow_setCell_below ((HO2.out.alloc (.cells #[.bool lb.keyed, .string lb.key, .int .u8 lb.kind, .string lb.text] 78)).drew.kept HG1.out (own_types HO2.out HO1.out (by decide))) (by simp) _
        case rest =>
          obtain ⟨a1', cp1', hLa', hLb', hLq', hown1', hown2', hBw'⟩ := hcut
          clear p0 p1 q0 q1 q2 q0f q1f q2f m0 m1 m2 m3 hcx2 hne12
          have p1 : wc.cell? ⟨w.heap.size, 1, none⟩ = some (.slice (some ⟨b1, o1, none⟩) xs.length fc) := hLa'.cell 1
          have q1 : wc.cell? ⟨w.heap.size + 1 + 1, 1, none⟩ = some (.slice a2 k cp2) := hLq'.cell 1
          have q1f := hLq'.frozen 1
          have hcx2 : wc.cell? ⟨b1, o1 + j, none⟩ = some (.int .i64 x) := by
            obtain ⟨b2, o2, ha2, _, hcx⟩ := HF.out.getI hi
            injection ha2 with ha2
            injection ha2 with hb12 ho12
            subst hb12 ho12
            rw [← HX.out]
            exact (hBw'.cell (p := ⟨b1, o1 + j, none⟩) hb1).trans hcx
          have hszc := hLq'.lt
          have hz3c : w.heap.size + 3 ≤ wc.heap.size := hszc
          have HLAc := Lib.hid hLa'
          have HLBc := Lib.hid hLb'
          have HLQc := Lib.hid hLq'
          have HO1c := Lib.hid hown1'
          have HO2c := Lib.hid hown2'
          have HBWc := Lib.hid hBw'
          clear hLa' hLb' hLq' hown1' hown2' hBw'
          go_wp2_with fail
          have hwrap : IntKind.i64.wrap (x - (f : Int)) = x - (f : Int) := IntWalk.i64_in _ (by omega)
          go_region_law
            (first | (refine step_app _ rfl elInt (.tmp 76) (.tmp 84) rfl (w.heap.size + 3) _ k (intCells (((xs.drop f).take k).map (· - (f : Int)))) rfl (HO2c.out.alloc (.cells #[.int .i64 (x - f)] 3)).drew (fun _ => True) (some ⟨wc.heap.size, 0, none⟩) 1 1 (intCells [x - f]) rfl rfl (At.new wc (intCells [x - f]) 3 trivial) (intCells_one _) (by omega) (by simp; omega) ?_; intro v2' w1 hown2' hg1 hat1; have hb1k : Below (w.heap.size + 3) wc w1 := (((Below.refl _ wc).alloc hz3c _).drew).grown hg1 (by simp; omega) (fun j e => (World.ownsRow.lt HO2c.out j e).1); obtain ⟨a2', cp2', rfl, hcp2'⟩ := own_slice hown2'; have hq1 := HLQc.out.below hb1k (by omega); have r0 : w1.cell? ⟨w.heap.size + 1 + 1, 1, none⟩ = some (.slice a2 k cp2) := hq1.cell 1; have r0f := hq1.frozen 1; have HQ1 := Lib.hid hq1; have HB1K := Lib.hid hb1k; have HO2' := Lib.hid hown2'; have HG1 := Lib.hid hg1; clear hq1 hb1k hown2' hg1 hat1))
          all_goals
            go_wp2
            go_roundg (gk - 1)
            case measure => omega
            case rel =>
              have hjk : j = f + k := HP.out.1
              have hl1 : ls[f + k]? = some lb := by rw [← hjk, List.getElem?_eq_getElem hil, HLB2.out]
              have hx1 : xs[f + k]? = some x := by rw [← hjk, List.getElem?_eq_getElem hi, HX.out]
              have htl : (ls.drop f).take (k + 1) = (ls.drop f).take k ++ [lb] := by
                rw [List.take_add_one, List.getElem?_drop, hl1]; rfl
              have htx : ((xs.drop f).take (k + 1)).map (· - (f : Int)) = ((xs.drop f).take k).map (· - (f : Int)) ++ [x - f] := by
                rw [List.take_add_one, List.getElem?_drop, hx1]; simp
              refine ⟨k + 1, j + 1, .slice a1' (k + 1) cp1', .slice a2' (k + 1) cp2', by omega, by go_num, ⟨by omega, ?_⟩, (HLAc.out.below HB1K.out (by omega)).far (by simp; omega) _, (HLBc.out.below HB1K.out (by omega)).far (by simp) _, HQ1.out.set 1 _, ?_, ?_, (HBWc.out.trans (HB1K.out.mono (by omega))).setCell (by simp; omega) _⟩
              · intro i hi'
                by_cases e : i = k
                · subst e
                  rw [← HFR.out, hx1]
                  simp only [Option.getD_some]
                  omega
                · exact HP.out.2 i (by omega)
              · rw [htl]
                exact ownsRow_setCell_below ((HO1c.out.alloc (.cells #[.int .i64 (x - f)] 3)).drew.kept HG1.out (own_types HO1c.out HO2c.out (by decide))) (by simp) _
              · rw [htx, intCells_append]
                exact ownsRow_setCell_below HO2'.out (by simp) _
      · have hno : Hid (¬ partFits xs (nd : Int) (partLen xs nd)) := by
          intro h
          have hjk : j = f + k := HP.out.1
          have h := h k (by rw [HPL.out]; exact hlt)
          have hx1 : xs[f + k]? = some x := by rw [← hjk, List.getElem?_eq_getElem hi, HX.out]
          rw [← HFR.out, hx1] at h
          simp only [Option.getD_some] at h
          omega
        have hcase : decide (x < (f : Int)) = true ∨ (decide (x < (f : Int)) = false ∧ decide ((j : Int) < x) = true) := by
          by_cases h : x < (f : Int)
          · exact .inl (by simpa using h)
          · exact .inr ⟨by simpa using h, by simp; omega⟩
        clear hfit
        have r0 : wr.cell? ⟨w.heap.size + 1, 0, none⟩ = some (.slice none 0 0) := HLB.out.cell 0
        have r1 : wr.cell? ⟨w.heap.size + 1, 1, none⟩ = some (.slice none 0 0) := HLB.out.cell 1
        have r2 : wr.cell? ⟨w.heap.size + 1, 2, none⟩ = some (.slice none 0 0) := HLB.out.cell 2
        have r0f := HLB.out.frozen 0
        have r1f := HLB.out.frozen 1
        have r2f := HLB.out.frozen 2
        rcases hcase with t1' | ⟨t1', t2'⟩
        all_goals
          go_wp2
          refine bodyPost_ret (v := noPost) (ret2 rfl stRPost rfl rfl (((HLB.out.set 0 (.slice none 0 0)).set 1 (.slice none 0 0)).set 2 (.slice none 0 0))) rfl ⟨fun h => absurd h hno.out, fun _ => rfl, ?_⟩
          exact ((HBW.out.setCell (by simp) _).setCell (by simp) _).setCell (by simp) _
    · have hk2 : k = nd + 1 - f := by omega
      have hjk : j = f + k := HP.out.1
      have hj2 : nd < j := by omega
      have hfits : partFits xs (nd : Int) (partLen xs nd) := by
        rw [HPL.out, ← hk2]; exact HP.out.2
      have hlab : (ls.drop f).take k = partLabels ls xs nd := by unfold partLabels; rw [← HFR.out, HPL.out, hk2]
      have hlft : ((xs.drop f).take k).map (· - (f : Int)) = partLeft xs nd := by unfold partLeft; rw [← HFR.out, HPL.out, hk2]
      have hl1 := partLabels_length HOK.out
      have hl2 := partLeft_length HOK.out
      rw [HPL.out, ← hk2] at hl1 hl2
      rw [hlab] at hown1
      rw [hlft] at hown2
      have HFITS := Lib.hid hfits
      have HL1 := Lib.hid hl1
      have HL2 := Lib.hid hl2
      have HO1 := Lib.hid hown1
      have HO2 := Lib.hid hown2
      have hR := refRoot_any (fun b => w.heap.size + 3 ≤ b) (w.heap.size + 1 + 1) (.slice a1 k cp1) a2 cp2 (partLeft xs nd) wr (by rw [hl2]; exact HLQ.out) ((own_atW hown2).at_.mono (fun b _ h => h.1)) (fun b hb => by omega) (by omega)
      rw [hl2] at hR
      have HR := Lib.hid hR
      have hkb : k ≤ 16777217 := by omega
      clear hk2 hjk hfits hlab hlft hl1 hl2 hLa hLb hLq hown1 hown2 hBw hR
      go_wp2_with fail
      refine (HR.out).mono ?_
      rintro e w5 ⟨rfl, v3, hq5, hown3, hg5⟩
      obtain ⟨a3, cp3, rfl, hcp3⟩ := own_slice hown3
      have s0 : w5.cell? ⟨w.heap.size + 1 + 1, 0, none⟩ = some (.slice a1 k cp1) := hq5.cell 0
      have s1 : w5.cell? ⟨w.heap.size + 1 + 1, 1, none⟩ = some (.slice a2 k cp2) := hq5.cell 1
      have s2 : w5.cell? ⟨w.heap.size + 1 + 1, 2, none⟩ = some (.slice a3 (rootsOf (partLeft xs nd)).length cp3) := hq5.cell 2
      have hres := HLB.out.grown hg5 (by simp)
      have r0 : w5.cell? ⟨w.heap.size + 1, 0, none⟩ = some (.slice none 0 0) := hres.cell 0
      have r1 : w5.cell? ⟨w.heap.size + 1, 1, none⟩ = some (.slice none 0 0) := hres.cell 1
      have r2 : w5.cell? ⟨w.heap.size + 1, 2, none⟩ = some (.slice none 0 0) := hres.cell 2
      have r0f := hres.frozen 0
      have r1f := hres.frozen 1
      have r2f := hres.frozen 2
      have HRES := Lib.hid hres
      have HO3 := Lib.hid hown3
      have HG5 := Lib.hid hg5
      clear hq5 hown3 hg5 hres
      go_wp2
      have hfin : ∀ {B : Nat} {a : Option Addr} {cs : List Value}, w.heap.size + 3 ≤ B → At (fun b => B ≤ b) w5 a cs →
          At (fun b => w.heap.size ≤ b) (((w5.setCell ⟨w.heap.size + 1, 0, none⟩ (.slice a1 k cp1)).setCell ⟨w.heap.size + 1, 1, none⟩ (.slice a2 k cp2)).setCell ⟨w.heap.size + 1, 2, none⟩ (.slice a3 (rootsOf (partLeft xs nd)).length cp3)) a cs := fun hB h =>
        (((h.keep (Keeps.set _ (fun b hb => by simp; omega) _)).keep (Keeps.set _ (fun b hb => by simp; omega) _)).keep (Keeps.set _ (fun b hb => by simp; omega) _)).mono (fun b _ hb => by omega)
      refine bodyPost_ret (v := .tuple #[.agg #[.slice a1 k cp1, .slice a2 k cp2, .slice a3 (rootsOf (partLeft xs nd)).length cp3], .bool true])
        (ret2 rfl stRPost rfl rfl (((HRES.out.set 0 (.slice a1 k cp1)).set 1 (.slice a2 k cp2)).set 2 (.slice a3 (rootsOf (partLeft xs nd)).length cp3))) rfl ⟨fun _ => ?_, fun h => absurd HFITS.out h, ?_⟩
      · refine ⟨a1, a2, a3, cp1, cp2, cp3, by rw [HL1.out, HL2.out], ?_, ?_, ?_⟩
        · exact hfin (Nat.le_refl _) (((own_atW HO1.out).at_.mono (T := fun b => w.heap.size + 3 ≤ b) (fun b _ h => h.1)).keep (Keeps.of_grown HG5.out (fun b hb => by simp; omega)))
        · exact hfin (Nat.le_refl _) (((own_atW HO2.out).at_.mono (T := fun b => w.heap.size + 3 ≤ b) (fun b _ h => h.1)).keep (Keeps.of_grown HG5.out (fun b hb => by simp; omega)))
        · exact hfin (B := wr.heap.size) hszr ((own_atW HO3.out).at_.mono (fun b _ h => h.1))
      · have hB5 : Below w.heap.size w w5 := HBW.out.grownAt HG5.out HBW.out.size (by omega)
        exact ((hB5.setCell (by simp) _).setCell (by simp) _).setCell (by simp) _
end Go.Proofs.Ytfajbkofbjcbbaa
