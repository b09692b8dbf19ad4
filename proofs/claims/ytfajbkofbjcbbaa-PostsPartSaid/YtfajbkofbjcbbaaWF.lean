/- Walk: posts.Part, a part that may be taken. -/
import Derived.Test.YtfajbkofbjcbbaaWE
namespace Go.Proofs.Ytfajbkofbjcbbaa
open Go.RowKit

theorem lies_two (w : World) (cs1 : Array Value) (t1 : TypeId) (cs2 : Array Value) (t2 : TypeId) :
    Lies ((w.alloc (.cells cs1 t1)).alloc (.cells cs2 t2)) w.heap.size t1 cs1 ∧ Lies ((w.alloc (.cells cs1 t1)).alloc (.cells cs2 t2)) (w.heap.size + 1) t2 cs2 := by
  refine ⟨(Lies.new w t1 cs1).alloc _, ?_⟩
  have h := Lies.new (w.alloc (.cells cs1 t1)) t2 cs2
  rwa [World.size_alloc] at h
theorem Lies.new_at {w : World} {n : Nat} (h : n = w.heap.size) (t : TypeId) (cs : Array Value) : Lies (w.alloc (.cells cs t)) n t cs := by rw [h]; exact Lies.new w t cs
theorem stPost : StructTy Try.prog 33 3 := ⟨_, Try.underlying33, by kernel_rfl⟩
theorem LiesI.atW {w : World} {b : Nat} {xs : List Int} (h : LiesI w b xs) {S : Nat → Prop} (hS : S b) : AtW S w (some ⟨b, 0, none⟩) (intCells xs) := fun _ =>
  ⟨b, 0, rfl, hS, fun j u hu => by rw [Nat.zero_add, Lies.cell h]; simpa using hu, fun j => Lies.frozen h j⟩
theorem own_slice {w : World} {B : Nat} {e : TypeId} {size n : Nat} {v : Value} {xs : List Value} (h : w.ownsRow B e size v n xs) : ∃ a c, v = .slice a n c ∧ n ≤ c := by
  rcases h.2 with ⟨h1, h2⟩ | ⟨g, cap, cur, h1, _, _, h2, _⟩
  · exact ⟨none, 0, by rw [h1, h2], by omega⟩
  · exact ⟨_, cap, h1, h2⟩

set_option maxRecDepth 100000 in
set_option maxHeartbeats 2000000 in
theorem part_ok (S : Nat → Prop) (la fa ra : Option Addr) (lc fc nr rc : Nat) (ls : List Lbl) (xs : List Int) (node : Int) (w : World) (hl : At S w la (lblCells ls)) (hf : At S w fa (intCells xs))
    (hlc : ls.length ≤ lc) (hfc : xs.length ≤ fc) (hll : ls.length ≤ 16777216) (_hlb : lc ≤ 9223372036854775807) (hfb : fc ≤ 9223372036854775807) (hok : partOk ls xs node) :
    Calls Try.prog 19 #[.agg #[.slice la ls.length lc, .slice fa xs.length fc, .slice ra nr rc], .int .i64 node] w fun e w' =>
      (partFits xs node (partLen xs node) → ∃ la' fa' ra' : Option Addr, e = .returned (.tuple #[.agg #[.slice la' (partLabels ls xs node).length (partLabels ls xs node).length, .slice fa' (partLeft xs node).length (partLeft xs node).length,
            .slice ra' (rootsOf (partLeft xs node)).length (rootsOf (partLeft xs node)).length], .bool true]) ∧
          AtW (fun b => w.heap.size ≤ b) w' la' (lblCells (partLabels ls xs node)) ∧ AtW (fun b => w.heap.size ≤ b) w' fa' (intCells (partLeft xs node)) ∧ AtW (fun b => w.heap.size ≤ b) w' ra' (intCells (rootsOf (partLeft xs node)))) ∧
      (¬ partFits xs node (partLen xs node) → e = .returned noPost) ∧ Below w.heap.size w w' := by
  have hok1 := hok
  obtain ⟨h1, h2, h3, h4, h5⟩ := hok
  have hpl := partLen_le hok1
  have hn : node.toNat < xs.length := by omega
  obtain ⟨b1, o1, ha1, _, hc1⟩ := hf.getI hn
  have e1 : xs[node.toNat]?.getD 0 = xs[node.toNat] := by rw [List.getElem?_eq_getElem hn]; rfl
  rw [e1] at h4 h5
  obtain ⟨nd, rfl⟩ := Int.eq_ofNat_of_zero_le h1
  obtain ⟨f, hfrom⟩ : ∃ f : Nat, f = partFrom xs (nd : Int) := ⟨_, rfl⟩
  have hff : xs[(nd : Int).toNat] = (f : Int) := by rw [hfrom]; unfold partFrom; rw [e1]; omega
  rw [hff] at hc1 h4 h5
  have hA := hl.drop (f * 4)
  rw [← lblCells_drop] at hA
  have hA2 := hA.take ((nd + 1 - f) * 4)
  rw [← lblCells_take] at hA2
  have hlab : (ls.drop f).take (nd + 1 - f) = partLabels ls xs nd := by unfold partLabels partLen; rw [← hfrom]; rfl
  rw [hlab] at hA2
  have hlabl := partLabels_length hok1
  have hplen : partLen xs nd = nd + 1 - f := by unfold partLen; rw [← hfrom]; rfl
  have g1 : decide ((nd : Int) < 0) = false := by simp
  have g2 : decide (ls.length ≤ nd) = false := by simp; omega
  have g3 : ((xs.length : Int) != (ls.length : Int)) = false := by simp; omega
  have g4 : decide ((f : Int) < 0) = false := by simp
  have g5 : decide (nd < f) = false := by simp; omega
  have hb1 : b1 < w.heap.size := World.block_lt_of_cell? w _ hc1
  have hnd2 : nd < xs.length := by omega
  have hnd3 : nd < ls.length := by omega
  have hfn : f ≤ nd := by omega
  subst ha1
  simp only [Int.toNat_natCast] at hc1
  have HOK := Lib.hid hok1
  have HF := Lib.hid hf
  have HA := Lib.hid hA2
  have HL := Lib.hid hl
  have H3 := Lib.hid h3
  have HLL := Lib.hid hlabl
  have HPL := Lib.hid hplen
  have HFR := Lib.hid hfrom
  clear hok1 hf hA2 hA hl h3 hpl e1 hff hlab hlabl hplen hfrom hn
  go_enter Try.func19, Try.ntmps19
  go_wp2_with fail
  refine (cloneL_any S _ (nd + 1 - f) (nd + 1 - f) (lblCells (partLabels ls xs (nd : Int))) _ (HA.out.keep (Keeps.of_ext (((Below.refl _ w).alloc (Nat.le_refl _) _).alloc (by simp) _))) (by rw [lblCells_length, HLL.out, HPL.out]) (lblCells_one _) (by omega)).mono ?_
  rintro e w2 ⟨v1, rfl, hown1, hb2⟩
  obtain ⟨a1, c1, rfl, hc1'⟩ := own_slice hown1
  have hz2 : w.heap.size + 1 < w2.heap.size := by have := hb2.size; simp at this; omega
  have hz3 : w.heap.size < w2.heap.size := by omega
  have HO1 := Lib.hid hown1
  have HB2 := Lib.hid hb2
  -- the cells of the two boxes, behind the call
  have hL1 := (lies_two w _ _ _ _).1.ext hb2
  have hL2 := (lies_two w _ _ _ _).2.ext hb2
  have q0 : w2.cell? ⟨w.heap.size + 1, 0, none⟩ = some (.slice none 0 0) := hL2.cell 0
  have q0f := hL2.frozen 0
  have q1 : w2.cell? ⟨w.heap.size + 1, 1, none⟩ = some (.slice none 0 0) := hL2.cell 1
  have q1f := hL2.frozen 1
  have p1 : w2.cell? ⟨w.heap.size, 1, none⟩ = some (.slice (some ⟨b1, o1, none⟩) xs.length fc) := hL1.cell 1
  have HL1 := Lib.hid hL1
  have HL2 := Lib.hid hL2
  clear hL1 hL2
  have hmk := fun u : World => elInt_mk u (nd + 1 - f) (by omega)
  have hcast : ((nd + 1 - f : Nat) : Int) = (nd : Int) + 1 - (f : Int) := by omega
  rw [hcast] at hmk
  have HCAST := Lib.hid hcast
  clear hown1 hb2 hcast
  have hAt : AtW (fun b => w.heap.size + 2 ≤ b ∧ b < w2.heap.size) w2 a1 (lblCells (partLabels ls xs (nd : Int))) :=
    (own_atW HO1.out).mono (fun b hb h => ⟨by have := h.1; simpa using this, hb⟩)
  have HAT := Lib.hid hAt
  have hBw2 : Below w.heap.size w w2 := (((Below.refl _ w).alloc (Nat.le_refl _) _).alloc (by simp) _).trans (HB2.out.mono (by simp; omega))
  have HBW2 := Lib.hid hBw2
  clear hAt hBw2
  go_wp2
  go_loopw [75] (fun i wr => ∃ (k : Nat) (zs : List Int), k ≤ nd + 1 - f ∧ i = .int .i64 k ∧ zs.length = nd + 1 - f ∧ Hid (partFits xs nd k ∧ ∀ j, j < k → zs[j]? = some (xs[f + j]?.getD 0 - f)) ∧ LiesI wr w2.heap.size zs ∧
      Lies wr w.heap.size 33 #[.slice la ls.length lc, .slice (some ⟨b1, o1, none⟩) xs.length fc, .slice ra nr rc] ∧
      Lies wr (w.heap.size + 1) 33 #[.slice a1 (nd + 1 - f) c1, .slice (some ⟨w2.heap.size, 0, none⟩) (nd + 1 - f) (nd + 1 - f), .slice none 0 0] ∧
      AtW (fun b => w.heap.size + 2 ≤ b ∧ b < w2.heap.size) wr a1 (lblCells (partLabels ls xs (nd : Int))) ∧ Below w.heap.size w wr) (fun i _ => (nd + 1 - f) - (intOf i).toNat)
  case atStart =>
    refine ⟨0, List.replicate (nd + 1 - f) 0, Nat.zero_le _, rfl, by simp, ⟨fun i hi => absurd hi (by omega), fun j hj => absurd hj (by omega)⟩, Lies.new_at (by simp) _ _, ((HL1.out.far (by simp) _).far (by simp) _).alloc _, ((HL2.out.set 0 _).set 1 _).alloc _,
      ((HAT.out.keep (Keeps.set _ (fun b hb => by simp; omega) _)).keep (Keeps.set _ (fun b hb => by simp; omega) _)).keep (Keeps.alloc _ _), ((HBW2.out.setCell (by simp) _).setCell (by simp) _).alloc (by simp; omega) _⟩
  case round =>
    clear p1 q0 q0f q1 q1f
    obtain ⟨k, zs, hk, rfl, hzl, HP, hLI, hLa, hLb, hAt, hBw⟩ := hrel
    have p1 : wr.cell? ⟨w.heap.size, 1, none⟩ = some (.slice (some ⟨b1, o1, none⟩) xs.length fc) := hLa.cell 1
    have p2 : wr.cell? ⟨w.heap.size + 1, 1, none⟩ = some (.slice (some ⟨w2.heap.size, 0, none⟩) (nd + 1 - f) (nd + 1 - f)) := hLb.cell 1
    have HLI := Lib.hid hLI
    have HLA := Lib.hid hLa
    have HLB := Lib.hid hLb
    have HAt := Lib.hid hAt
    have HBw := Lib.hid hBw
    have HZL := Lib.hid hzl
    by_cases hlt : k < nd + 1 - f
    · have hi : f + k < xs.length := by omega
      obtain ⟨b2, o2, ha2, _, hcx⟩ := HF.out.getI hi
      injection ha2 with ha2
      injection ha2 with hb12 ho12
      subst hb12 ho12
      have hcx2 := (hBw.cell (p := ⟨b1, o1 + (f + k), none⟩) hb1).trans hcx
      have hzk : zs[k]? = some (zs[k]'(by omega)) := List.getElem?_eq_getElem (by omega)
      have hcz := hLI.cell hzk
      have hfz : wr.frozen? ⟨w2.heap.size, k, none⟩ = false := Lies.frozen hLI k
      have hxe : xs[f + k]?.getD 0 = xs[f + k] := by rw [List.getElem?_eq_getElem hi]; rfl
      have HXE := Lib.hid hxe
      obtain ⟨x, hx⟩ : ∃ x, xs[f + k] = x := ⟨_, rfl⟩
      rw [hx, ← Nat.add_assoc] at hcx2
      have HX := Lib.hid hx
      generalize zs[k]'(by omega) = z at hcz
      clear hLI hLa hLb hAt hBw hzl hcx hzk hxe hx
      by_cases hfit : (f : Int) ≤ x ∧ x ≤ f + k
      · obtain ⟨t1, t2⟩ := hfit
        have t1' : decide (x < (f : Int)) = false := by simp; omega
        have t2' : decide ((f : Int) + (k : Int) < x) = false := by simp; omega
        go_wp2
        go_roundw
        case rel =>
          obtain ⟨hp1, hp2⟩ := HP.out
          refine ⟨k + 1, zs.set k (x - f), by omega, by go_num, by rw [List.length_set]; exact HZL.out, ⟨fun i hi => ?_, fun j hj => ?_⟩, HLI.out.set k _, HLA.out.far (by simp; omega) _, HLB.out.far (by simp; omega) _,
            HAt.out.keep (Keeps.set _ (fun b hb => by simp; omega) _), HBw.out.setCell (by simp; omega) _⟩
          · by_cases e : i = k
            · subst e
              rw [← HFR.out, HXE.out, HX.out]; omega
            · exact hp1 i (by omega)
          · rw [List.getElem?_set]
            by_cases e : k = j
            · subst e
              rw [if_pos rfl, if_pos (by rw [HZL.out]; exact hlt), HXE.out, HX.out]
            · rw [if_neg e]; exact hp2 j (by omega)
        case measure => simp [intOf]; omega
      · have hno : Hid (¬ partFits xs (nd : Int) (partLen xs nd)) := by
          intro h
          have h := h k (by rw [HPL.out]; exact hlt)
          rw [← HFR.out, HXE.out, HX.out] at h
          omega
        have hcase : decide (x < (f : Int)) = true ∨ (decide (x < (f : Int)) = false ∧ decide ((f : Int) + (k : Int) < x) = true) := by
          by_cases h : x < (f : Int)
          · exact .inl (by simpa using h)
          · exact .inr ⟨by simpa using h, by simp; omega⟩
        clear hfit
        have p3 : wr.cell? ⟨w.heap.size + 1, 0, none⟩ = some (.slice a1 (nd + 1 - f) c1) := HLB.out.cell 0
        have p4 : wr.cell? ⟨w.heap.size + 1, 2, none⟩ = some (.slice none 0 0) := HLB.out.cell 2
        have f3 := HLB.out.frozen 0
        have f4 := HLB.out.frozen 1
        have f5 := HLB.out.frozen 2
        rcases hcase with t1' | ⟨t1', t2'⟩
        all_goals
          go_wp2
          refine bodyPost_ret (v := noPost) (ret2 rfl stPost rfl rfl ((((HLB.out.far (by simp; omega) _).set 0 (.slice none 0 0)).set 1 (.slice none 0 0)).set 2 (.slice none 0 0))) rfl ⟨fun h => absurd h hno.out, fun _ => rfl, ?_⟩
          exact (((HBw.out.setCell (by simp; omega) _).setCell (by simp) _).setCell (by simp) _).setCell (by simp) _
    · have hk2 : k = nd + 1 - f := by omega
      have p3 : wr.cell? ⟨w.heap.size + 1, 0, none⟩ = some (.slice a1 (nd + 1 - f) c1) := HLB.out.cell 0
      have p4 : wr.cell? ⟨w.heap.size + 1, 2, none⟩ = some (.slice none 0 0) := HLB.out.cell 2
      have f3 := HLB.out.frozen 0
      have f4 := HLB.out.frozen 1
      have f5 := HLB.out.frozen 2
      have hfits : partFits xs (nd : Int) (partLen xs nd) := by
        rw [HPL.out, ← hk2]; exact HP.out.1
      have hzs : zs = partLeft xs nd := by
        apply List.ext_getElem?
        intro j
        by_cases hj : j < nd + 1 - f
        · rw [HP.out.2 j (by omega)]
          have h1 := partLeft_get HOK.out (i := j) (by rw [HPL.out]; exact hj)
          have h2 := partLeft_length HOK.out
          rw [← HFR.out] at h1
          have h3 : (partLeft xs (nd : Int))[j]? = some ((partLeft xs (nd : Int))[j]'(by rw [h2, HPL.out]; exact hj)) := List.getElem?_eq_getElem _
          rw [h3] at h1 ⊢
          simp only [Option.getD_some] at h1
          rw [h1]
        · rw [List.getElem?_eq_none (by omega), List.getElem?_eq_none (by rw [partLeft_length HOK.out, HPL.out]; omega)]
      have HFITS := Lib.hid hfits
      have hroot := partLeft_fits HOK.out hfits
      rw [← hzs] at hroot
      have HROOT := Lib.hid hroot
      have hsz5 : w2.heap.size < wr.heap.size := Lies.lt HLI.out
      have HZS := Lib.hid hzs
      have hzl2 : zs.length ≤ 16777216 := by omega
      clear hk2 hfits hzs hroot hLI hLa hLb hAt hBw hzl
      have hR : ∀ W : World, LiesI W w2.heap.size zs → Hid (Calls Try.prog 46 #[.slice (some ⟨w2.heap.size, 0, none⟩) (nd + 1 - f) (nd + 1 - f)] W fun e w' => ∃ a', e = .returned (.slice a' (rootsOf zs).length (rootsOf zs).length) ∧
          AtW (fun b => W.heap.size ≤ b) w' a' (intCells (rootsOf zs)) ∧ Below W.heap.size W w') := by
        intro W hW
        have h := roots_any (fun _ => True) (some ⟨w2.heap.size, 0, none⟩) (nd + 1 - f) zs W (hW.atW trivial).at_ hzl2 HROOT.out
        rw [HZL.out] at h
        exact h
      go_wp2_with (first | (go_at_call 44; refine (clipL_any a1 (nd + 1 - f) c1 _ hc1' (by omega)).mono ?_; rintro e w' ⟨rfl, rfl⟩))
      refine (hR _ (Lies.far HLI.out (by simp; omega) _)).out.mono ?_
      rintro e w5 ⟨ra', rfl, hra, hb5⟩
      have hsz6 : wr.heap.size ≤ w5.heap.size := by simpa using hb5.size
      have hsz7 : w.heap.size + 1 < w5.heap.size := by omega
      have hsz8 : w.heap.size < w5.heap.size := by omega
      have hLb5 := (HLB.out.set 0 (.slice a1 (nd + 1 - f) (nd + 1 - f))).ext hb5
      have q2 : w5.cell? ⟨w.heap.size + 1, 2, none⟩ = some (.slice none 0 0) := hLb5.cell 2
      have q0 : w5.cell? ⟨w.heap.size + 1, 0, none⟩ = some (.slice a1 (nd + 1 - f) (nd + 1 - f)) := hLb5.cell 0
      have q1 : w5.cell? ⟨w.heap.size + 1, 1, none⟩ = some (.slice (some ⟨w2.heap.size, 0, none⟩) (nd + 1 - f) (nd + 1 - f)) := hLb5.cell 1
      have q0f := hLb5.frozen 0
      have q1f := hLb5.frozen 1
      have q2f := hLb5.frozen 2
      have HLB5 := Lib.hid hLb5
      have HRA := Lib.hid hra
      have HB5 := Lib.hid hb5
      clear hLb5 hra hb5 p3 p4 f3 f4 f5 p1 p2
      go_wp2
      refine bodyPost_ret (v := .tuple #[.agg #[.slice a1 (nd + 1 - f) (nd + 1 - f), .slice (some ⟨w2.heap.size, 0, none⟩) (nd + 1 - f) (nd + 1 - f), .slice ra' (rootsOf zs).length (rootsOf zs).length], .bool true])
        (ret2 rfl stPost rfl rfl ((((HLB5.out.set 2 _).set 0 (.slice a1 (nd + 1 - f) (nd + 1 - f))).set 1 (.slice (some ⟨w2.heap.size, 0, none⟩) (nd + 1 - f) (nd + 1 - f))).set 2 (.slice ra' (rootsOf zs).length (rootsOf zs).length))) rfl ⟨fun _ => ?_, fun h => absurd HFITS.out h, ?_⟩
      · have hz := HZS.out
        have l1 := partLabels_length HOK.out
        have l2 := partLeft_length HOK.out
        rw [HPL.out] at l1 l2
        refine ⟨a1, some ⟨w2.heap.size, 0, none⟩, ra', by rw [l1, l2, ← hz], ?_, ?_, ?_⟩
        · have h1 := ((HAt.out.keep (Keeps.set (p := ⟨w.heap.size + 1, 0, none⟩) _ (fun b hb => by simp; omega) (.slice a1 (nd + 1 - f) (nd + 1 - f)))).keep (Keeps.of_ext HB5.out))
          have h2 := (((h1.keep (Keeps.set (p := ⟨w.heap.size + 1, 2, none⟩) _ (fun b hb => by simp; omega) (.slice ra' (rootsOf zs).length (rootsOf zs).length))).keep (Keeps.set (p := ⟨w.heap.size + 1, 0, none⟩) _ (fun b hb => by simp; omega) (.slice a1 (nd + 1 - f) (nd + 1 - f)))).keep (Keeps.set (p := ⟨w.heap.size + 1, 1, none⟩) _ (fun b hb => by simp; omega) (.slice (some ⟨w2.heap.size, 0, none⟩) (nd + 1 - f) (nd + 1 - f)))).keep (Keeps.set (p := ⟨w.heap.size + 1, 2, none⟩) _ (fun b hb => by simp; omega) (.slice ra' (rootsOf zs).length (rootsOf zs).length))
          exact h2.mono (fun b _ hb => by omega)
        · rw [← hz]
          have h1 : LiesI w5 w2.heap.size zs := Lies.ext (Lies.far (p := ⟨w.heap.size + 1, 0, none⟩) HLI.out (by simp; omega) (.slice a1 (nd + 1 - f) (nd + 1 - f))) HB5.out
          have h2 := Lies.far (p := ⟨w.heap.size + 1, 2, none⟩) (Lies.far (p := ⟨w.heap.size + 1, 1, none⟩) (Lies.far (p := ⟨w.heap.size + 1, 0, none⟩) (Lies.far (p := ⟨w.heap.size + 1, 2, none⟩) h1 (by simp; omega) (.slice ra' (rootsOf zs).length (rootsOf zs).length)) (by simp; omega) (.slice a1 (nd + 1 - f) (nd + 1 - f))) (by simp; omega) (.slice (some ⟨w2.heap.size, 0, none⟩) (nd + 1 - f) (nd + 1 - f))) (by simp; omega) (.slice ra' (rootsOf zs).length (rootsOf zs).length)
          exact LiesI.atW h2 (by omega)
        · rw [← hz]
          have hW : w.heap.size + 1 < (wr.setCell ⟨w.heap.size + 1, 0, none⟩ (.slice a1 (nd + 1 - f) (nd + 1 - f))).heap.size := by simp; omega
          have h2 := (((HRA.out.keep (Keeps.set (p := ⟨w.heap.size + 1, 2, none⟩) _ (fun b hb => by simp at hb ⊢; omega) (.slice ra' (rootsOf zs).length (rootsOf zs).length))).keep (Keeps.set (p := ⟨w.heap.size + 1, 0, none⟩) _ (fun b hb => by simp at hb ⊢; omega) (.slice a1 (nd + 1 - f) (nd + 1 - f)))).keep (Keeps.set (p := ⟨w.heap.size + 1, 1, none⟩) _ (fun b hb => by simp at hb ⊢; omega) (.slice (some ⟨w2.heap.size, 0, none⟩) (nd + 1 - f) (nd + 1 - f)))).keep (Keeps.set (p := ⟨w.heap.size + 1, 2, none⟩) _ (fun b hb => by simp at hb ⊢; omega) (.slice ra' (rootsOf zs).length (rootsOf zs).length))
          exact h2.mono (fun b _ hb => by simp at hb; omega)
      · have h1 := (HBw.out.setCell (p := ⟨w.heap.size + 1, 0, none⟩) (by simp) (.slice a1 (nd + 1 - f) (nd + 1 - f))).trans (HB5.out.mono (by simp; omega))
        exact (((h1.setCell (by simp) _).setCell (by simp) _).setCell (by simp) _).setCell (by simp) _
end Go.Proofs.Ytfajbkofbjcbbaa
