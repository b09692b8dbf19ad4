/- Walks: values.within, values.May. -/
import Derived.Test.YtfajbkofbjcbbaaWN
namespace Go.Proofs.Ytfajbkofbjcbbaa
open Go.RowKit

/-- values.shape -/
theorem shape_any (S : Nat → Prop) (k : Nat) (t : ByteArray) (la ka : Option Addr) (n lc kc : Nat) (ks : List ByteArray) (w : World) (hk : k < 256) (hn : n ≤ 16777216) (hm : ks.length ≤ 16777216) (h : At S w ka (strCells ks)) :
    Calls Try.prog 70 #[.agg #[.int .u8 k, .string t, .slice la n lc, .slice ka ks.length kc]] w fun e w' => e = .returned (.bool (shapeB k t n ks)) ∧ Below w.heap.size w w' := by
  match k, hk with
  | 0, _ => exact shape0 t la ka n lc kc ks w hn hm
  | 1, _ => exact shape1 t la ka n lc kc ks w hn hm
  | 2, _ => exact shape2 t la ka n lc kc ks w hn hm
  | 3, _ => exact shape3 t la ka n lc kc ks w hn hm
  | 4, _ => exact shape4 t la ka n lc kc ks w hn hm
  | 5, _ => exact shape5 t la ka n lc kc ks w hn hm
  | 6, _ => exact shape6 t la ka n lc kc ks w hn hm
  | 7, _ => exact shape7 t la ka n lc kc ks w hn hm
  | 8, _ => exact shape8 S t la ka n lc kc ks w hn hm h
  | k + 9, hk => exact shape9 (k + 9) (by omega) hk t la ka n lc kc ks w hn hm

/-- what within promises of a value -/
def WithinOk (v : V) : Prop := ∀ (S : Nat → Prop) (w : World) (cs : List Value) (left : Nat), IsV S w v cs → left ≤ 256 →
  Calls Try.prog 56 #[.agg cs.toArray, .int .i64 left] w fun e w' => e = .returned (.bool (v.ok left)) ∧ Below w.heap.size w w'

set_option maxRecDepth 100000 in
set_option maxHeartbeats 1000000 in
theorem within1_any (v : V) (hv : WithinOk v) (S : Nat → Prop) (w : World) (cs : List Value) (b : Bool) (p left : Nat) (h : IsV S w v cs) (hl : left ≤ 256) (hl1 : 1 ≤ left) (hp : w.cell? ⟨p, 0, none⟩ = some (.int .i64 left)) :
    Calls Try.prog 72 #[.bool b, .agg cs.toArray, .pointer (some ⟨p, 0, none⟩)] w fun e w' => e = .returned (.bool (b && v.ok (left - 1))) ∧ Below w.heap.size w w' := by
  have hC : ∀ W, Below w.heap.size w W → Calls Try.prog 56 #[.agg cs.toArray, .int .i64 ((left : Int) - 1)] W fun e w' => e = .returned (.bool (v.ok (left - 1))) ∧ Below W.heap.size W w' := fun W hW => by
    have := hv S W cs (left - 1) (h.keep (Keeps.of_ext hW)) (by omega)
    rwa [show (((left - 1 : Nat) : Int)) = (left : Int) - 1 by omega] at this
  have hpb : p < w.heap.size := World.block_lt_of_cell? w _ hp
  have hB0 := (Below.refl w.heap.size w).alloc (Nat.le_refl _) (.cells cs.toArray 26)
  obtain ⟨k, t, l, ks⟩ := v
  obtain ⟨la, lc, ka, kc, rfl, hk256, h1, h2, h3, h4, h5, cells, h6, h7⟩ := h
  have HC := Lib.hid hC
  have HB := Lib.hid hB0
  clear hC hB0 hv h5 h6 h7
  go_enter Try.func72, Try.ntmps72
  cases b with
  | true =>
    go_wp2_with fail
    refine (HC.out _ HB.out).mono ?_
    rintro e w1 ⟨rfl, hb⟩
    go_wp2
    go_ret
    exact ⟨by simp, HB.out.trans (hb.mono (by simp))⟩
  | false =>
    go_wp2
    go_ret
    exact ⟨rfl, HB.out⟩

set_option maxRecDepth 100000 in
set_option maxHeartbeats 2000000 in
theorem within_any : ∀ v : V, WithinOk v := V.byWt fun v ih => by
  intro S w cs left h hl
  obtain ⟨k, t, l, ks⟩ := v
  obtain ⟨la, lc, ka, kc, rfl, hk256, h1, h2, h3, h4, h5, cells, h6, h7⟩ := h
  have hwb := h6.length
  have hB1 := ((Below.refl w.heap.size w).alloc (Nat.le_refl _) (.cells #[.int .u8 k, .string t, .slice la l.length lc, .slice ka ks.length kc] 26)).alloc (by simp) (.cells #[.int .i64 left] 3)
  have hC := shape_any S k t la ka l.length lc kc ks _ hk256 (by omega) (by omega) (h5.keep (Keeps.of_ext hB1))
  have hIs := IsVs.keep (Keeps.of_ext hB1) h6
  have hAt := h7.keep (Keeps.of_ext hB1)
  have hIH : ∀ (i : Nat) (hi : i < l.length), WithinOk l[i] := fun i hi => ih _ (by have := wts_get hi; simp only [V.wt]; omega)
  cases hsh : shapeB k t l.length ks with
  | false =>
    rw [hsh] at hC
    have HC := Lib.hid hC
    have HB := Lib.hid hB1
    have HR : Hid ((V.mk k t l ks).ok left = false) := Lib.hid (by simp [V.ok, hsh])
    clear hC hB1 h5 h6 h7 hIs hAt hIH ih hsh
    go_enter Try.func56, Try.ntmps56
    go_wp2_with fail
    refine HC.out.mono ?_
    rintro e w3 ⟨rfl, hb3⟩
    go_wp2
    go_ret
    exact ⟨by rw [HR.out]; rfl, HB.out.trans (hb3.mono (by simp; omega))⟩
  | true =>
    rw [hsh] at hC
    have HC := Lib.hid hC
    have HB := Lib.hid hB1
    have HIS := Lib.hid hIs
    have HAT := Lib.hid hAt
    have HIH := Lib.hid hIH
    have hsm : ∀ h : k < 7, l.length = 0 := fun h => (shapeB_small hsh h).1
    have HSM := Lib.hid hsm
    by_cases hbad : left = 0 ∧ 7 ≤ k
    · obtain ⟨rfl, hk7⟩ := hbad
      have HR : Hid ((V.mk k t l ks).ok 0 = false) := Lib.hid (by simp [V.ok, hsh, hk7])
      have hd : decide ((7 : Int) ≤ (k : Int)) = true := by simp; omega
      clear hC hB1 h5 h6 h7 hIs hAt hIH ih hsm hsh
      go_enter Try.func56, Try.ntmps56
      go_wp2_with fail
      refine HC.out.mono ?_
      rintro e w3 ⟨rfl, hb3⟩
      have hLv := ((Lies.new w 26 #[.int .u8 k, .string t, .slice la l.length lc, .slice ka ks.length kc]).alloc (.cells #[.int .i64 0] 3)).ext hb3
      have hLl := (Lies.new (w.alloc (.cells #[.int .u8 k, .string t, .slice la l.length lc, .slice ka ks.length kc] 26)) 3 #[.int .i64 0]).ext hb3
      rw [World.size_alloc] at hLl
      have x0 : w3.cell? ⟨w.heap.size, 0, none⟩ = some (.int .u8 k) := hLv.cell 0
      have y0 : w3.cell? ⟨w.heap.size + 1, 0, none⟩ = some (.int .i64 0) := hLl.cell 0
      have HB3 := Lib.hid hb3
      clear hLv hLl hb3
      go_wp2
      go_ret
      exact ⟨by rw [HR.out]; rfl, HB.out.trans (HB3.out.mono (by simp; omega))⟩
    · have HR : Hid ((V.mk k t l ks).ok left = oks l (left - 1)) := Lib.hid (by
        have : (left == 0 && decide (7 ≤ k)) = false := by
          rw [Bool.eq_false_iff]; simp; omega
        simp [V.ok, hsh, this])
      have hl1 : 0 < l.length → 1 ≤ left := fun h => by
        rcases Nat.lt_or_ge k 7 with h7' | h7'
        · have := hsm h7'; omega
        · have : left ≠ 0 := fun e => hbad ⟨e, h7'⟩
          omega
      have HL1 := Lib.hid hl1
      clear hC hB1 h5 h6 h7 hIs hAt hIH ih hsm hsh hl1
      go_enter Try.func56, Try.ntmps56
      go_wp2_with fail
      refine HC.out.mono ?_
      rintro e w3 ⟨rfl, hb3⟩
      have hLv := ((Lies.new w 26 #[.int .u8 k, .string t, .slice la l.length lc, .slice ka ks.length kc]).alloc (.cells #[.int .i64 left] 3)).ext hb3
      have hLl := (Lies.new (w.alloc (.cells #[.int .u8 k, .string t, .slice la l.length lc, .slice ka ks.length kc] 26)) 3 #[.int .i64 left]).ext hb3
      rw [World.size_alloc] at hLl
      have x0 : w3.cell? ⟨w.heap.size, 0, none⟩ = some (.int .u8 k) := hLv.cell 0
      have x2 : w3.cell? ⟨w.heap.size, 2, none⟩ = some (.slice la l.length lc) := hLv.cell 2
      have y0 : w3.cell? ⟨w.heap.size + 1, 0, none⟩ = some (.int .i64 left) := hLl.cell 0
      have hlp : w.heap.size + 1 < w3.heap.size := hLl.lt
      have hF := foldB_any (fun b => b < w3.heap.size) l cells la lc (left - 1) w3.heap.size 72 (.pointer (some ⟨w.heap.size + 1, 0, none⟩)) w3
        ((IsVs.keep (Keeps.of_ext hb3) HIS.out).mono fun b h _ => h) ((HAT.out.keep (Keeps.of_ext hb3)).mono fun b h _ => h) (by omega) (fun b h => h) (Nat.le_refl _)
        (fun i hi b W cs' hW hv => within1_any l[i] (HIH.out i hi) _ W cs' b _ left hv hl (HL1.out (by omega)) ((hW.cell (p := ⟨w.heap.size + 1, 0, none⟩) hlp).trans y0))
        (enters_of Try.func72 (by kernel_rfl) rfl)
      have HF := Lib.hid hF
      have HB3 := Lib.hid hb3
      clear hLv hLl hb3 hF
      rcases Nat.eq_zero_or_pos left with rfl | hpos
      · have hd : decide ((7 : Int) ≤ (k : Int)) = false := by simp; omega
        go_wp2_with fail
        refine HF.out.mono ?_
        rintro e w5 ⟨rfl, hb5⟩
        go_wp2
        go_ret
        exact ⟨by rw [HR.out]; rfl, (HB.out.trans (HB3.out.mono (by simp; omega))).trans (hb5.mono (by omega))⟩
      · have hd : ((left : Int) == 0) = false := by simp; omega
        go_wp2_with fail
        refine HF.out.mono ?_
        rintro e w5 ⟨rfl, hb5⟩
        go_wp2
        go_ret
        exact ⟨by rw [HR.out]; rfl, (HB.out.trans (HB3.out.mono (by simp; omega))).trans (hb5.mono (by omega))⟩

set_option maxRecDepth 100000 in
set_option maxHeartbeats 1000000 in
theorem may_any (v : V) (S : Nat → Prop) (w : World) (cs : List Value) (h : IsV S w v cs) :
    Calls Try.prog 30 #[.agg cs.toArray] w fun e w' => e = .returned (.bool v.may) ∧ Below w.heap.size w w' := by
  have hB := (Below.refl w.heap.size w).alloc (Nat.le_refl _) (.cells cs.toArray 26)
  have hC := within_any v S _ cs 256 (h.keep (Keeps.of_ext hB)) (Nat.le_refl _)
  obtain ⟨k, t, l, ks⟩ := v
  obtain ⟨la, lc, ka, kc, rfl, hk256, h1, h2, h3, h4, h5, cells, h6, h7⟩ := h
  have HC := Lib.hid hC
  have HB := Lib.hid hB
  clear hC hB h5 h6 h7
  go_enter Try.func30, Try.ntmps30
  go_wp2_with fail
  refine HC.out.mono ?_
  rintro e w1 ⟨rfl, hb⟩
  go_wp2
  go_ret
  exact ⟨rfl, HB.out.trans (hb.mono (by simp))⟩
end Go.Proofs.Ytfajbkofbjcbbaa
