/- Walk: inarchlaw19.Same, of what is the same. -/
import Derived.Test.YtfajbkofbjcbbaaXE
namespace Go.Proofs.Ytfajbkofbjcbbaa
open Go.RowKit Go.Sort Go.Shelf

theorem sameNums_same (S T : Nat → Prop) (aa ab : Option Addr) (ca cb : Nat) (xs : List Int) (w : World) (hx : At S w aa (intCells xs)) (hy : At T w ab (intCells xs)) (hxl : xs.length ≤ 16777216) :
    Calls Try.prog 38 #[.slice aa xs.length ca, .slice ab xs.length cb] w fun e w' => e = .returned (.bool true) ∧ ∃ n, w' = w.drewN n :=
  (sameNums_any S T aa ab ca cb xs xs w hx hy hxl hxl).mono fun e w' ⟨h1, h2⟩ => ⟨by simpa using h1, h2⟩

set_option maxRecDepth 100000 in
set_option maxHeartbeats 4000000 in
theorem same_true (S T : Nat → Prop) (la fa ra lb fb rb : Option Addr) (lc fc rc : Nat) (ls : List Lbl) (xs rs : List Int) (w : World) (hl : At S w la (lblCells ls)) (hf : At S w fa (intCells xs)) (hr : At S w ra (intCells rs))
    (kl : At T w lb (lblCells ls)) (kf : At T w fb (intCells xs)) (kr : At T w rb (intCells rs)) (hlb : ls.length ≤ 16777216) (hfb : xs.length ≤ 16777216) (hrb : rs.length ≤ 16777216) :
    Calls Try.prog 17 #[.agg #[.slice la ls.length ls.length, .slice fa xs.length xs.length, .slice ra rs.length rs.length], .agg #[.slice lb ls.length lc, .slice fb xs.length fc, .slice rb rs.length rc]] w fun e w' => e = .returned (.bool true) ∧ Below w.heap.size w w' := by
  have L2 := lies_two w #[.slice la ls.length ls.length, .slice fa xs.length xs.length, .slice ra rs.length rs.length] 33 #[.slice lb ls.length lc, .slice fb xs.length fc, .slice rb rs.length rc] 38
  have hB2 : Below w.heap.size w ((w.alloc (.cells #[.slice la ls.length ls.length, .slice fa xs.length xs.length, .slice ra rs.length rs.length] 33)).alloc (.cells #[.slice lb ls.length lc, .slice fb xs.length fc, .slice rb rs.length rc] 38)) := ((Below.refl _ _).alloc (Nat.le_refl _) _).alloc (by simp) _
  have HC1 := Lib.hid (fun n => sameNums_same S T fa fb xs.length fc xs _ ((hf.keep (Keeps.of_ext hB2)).keep (Keeps.of_ext (Below.drewN_ (Below.refl _ _) n))) ((kf.keep (Keeps.of_ext hB2)).keep (Keeps.of_ext (Below.drewN_ (Below.refl _ _) n))) hfb)
  have HC2 := Lib.hid (fun n => sameNums_same S T ra rb rs.length rc rs _ ((hr.keep (Keeps.of_ext hB2)).keep (Keeps.of_ext (Below.drewN_ (Below.refl _ _) n))) ((kr.keep (Keeps.of_ext hB2)).keep (Keeps.of_ext (Below.drewN_ (Below.refl _ _) n))) hrb)
  have HL := Lib.hid hl
  have KL := Lib.hid kl
  have HB2 := Lib.hid hB2
  have HL2 := Lib.hid L2
  clear hl hf hr kl kf kr L2 hB2
  go_enter Try.func17, Try.ntmps17
  go_wp2_with fail
  refine (HC1.out 0).mono ?_
  rintro e w' ⟨rfl, n1, rfl⟩
  go_wp2_with fail
  refine (HC2.out n1).mono ?_
  rintro e w' ⟨rfl, n2, rfl⟩
  go_wp2
  go_loopw [5] (fun i wr => ∃ j : Nat, j ≤ ls.length ∧ i = .int .i64 j ∧ Lies wr w.heap.size 33 #[.slice la ls.length ls.length, .slice fa xs.length xs.length, .slice ra rs.length rs.length] ∧
      Lies wr (w.heap.size + 1) 38 #[.slice lb ls.length lc, .slice fb xs.length fc, .slice rb rs.length rc] ∧ Below w.heap.size w wr) (fun i _ => ls.length - (intOf i).toNat)
  case atStart => exact ⟨0, Nat.zero_le _, rfl, HL2.out.1, HL2.out.2, Below.drewN_ HB2.out _⟩
  case round =>
    obtain ⟨j, hj, rfl, hLa, hLb, hBw⟩ := hrel
    have p0 : wr.cell? ⟨w.heap.size, 0, none⟩ = some (.slice la ls.length ls.length) := hLa.cell 0
    have q0 : wr.cell? ⟨w.heap.size + 1, 0, none⟩ = some (.slice lb ls.length lc) := hLb.cell 0
    have hpl := hLa.lt
    have hql := hLb.lt
    by_cases hlt : j < ls.length
    · obtain ⟨b, o, ha, _, l0, l1, l2, l3⟩ := HL.out.getL hlt
      obtain ⟨b', o', ha', _, k0, k1, k2, k3⟩ := KL.out.getL hlt
      subst ha ha'
      have hb : b < w.heap.size := World.block_lt_of_cell? w _ l0
      have hb' : b' < w.heap.size := World.block_lt_of_cell? w _ k0
      have m0 := (hBw.cell (p := ⟨b, o + j * 4, none⟩) hb).trans l0
      have m1 := (hBw.cell (p := ⟨b, o + j * 4 + 1, none⟩) hb).trans l1
      have m2 := (hBw.cell (p := ⟨b, o + j * 4 + 2, none⟩) hb).trans l2
      have m3 := (hBw.cell (p := ⟨b, o + j * 4 + 3, none⟩) hb).trans l3
      have r0 := (hBw.cell (p := ⟨b', o' + j * 4, none⟩) hb').trans k0
      have r1 := (hBw.cell (p := ⟨b', o' + j * 4 + 1, none⟩) hb').trans k1
      have r2 := (hBw.cell (p := ⟨b', o' + j * 4 + 2, none⟩) hb').trans k2
      have r3 := (hBw.cell (p := ⟨b', o' + j * 4 + 3, none⟩) hb').trans k3
      have hbw : b < wr.heap.size := World.block_lt_of_cell? wr _ m0
      have hbw' : b' < wr.heap.size := World.block_lt_of_cell? wr _ r0
      have hj0 : (0 : Int) ≤ (j : Int) := by omega
      have hj1 : (j : Int) < (ls.length : Int) := by omega
      have HLA := Lib.hid hLa
      have HLB := Lib.hid hLb
      have HBW := Lib.hid hBw
      generalize ls[j] = lb0 at m0 m1 m2 m3 r0 r1 r2 r3
      clear hLa hLb hBw l0 l1 l2 l3 k0 k1 k2 k3
      go_upto_region 7 with (fail)
      have hbx := Lies.new wr 46 #[.bool lb0.keyed, .string lb0.key, .int .u8 lb0.kind, .string lb0.text]
      go_quiet (fail)
      go_wp2
      go_roundw
      case rel => exact ⟨j + 1, by omega, by go_num, HLA.out.alloc _, HLB.out.alloc _, Below.drewN_ (HBW.out.alloc HBW.out.size _) nq⟩
      case measure => simp [intOf]; omega
    · go_wp2
      go_ret
      exact ⟨rfl, hBw⟩
end Go.Proofs.Ytfajbkofbjcbbaa
