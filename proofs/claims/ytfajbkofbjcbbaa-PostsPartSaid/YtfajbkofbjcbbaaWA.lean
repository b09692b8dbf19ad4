import Derived.Test.YtfajbkofbjcbbaaProg
import Derived.WalkKit
import Derived.WalkSpells
import Derived.WalkLawsBesides
import Derived.Deep.QuietTactic
import Derived.BigQuiet
import Derived.Lib.Hide
import Derived.Outline
import Derived.Test.YtfajbkofbjcbbaaMem
namespace Go.Proofs.Ytfajbkofbjcbbaa
open Go.RowKit

/-- what Weight comes to: the weight, or some number from 100000 on that is no more -/
def Heavy (x : Nat) (n : Nat) : Prop := n ≤ x ∧ (n = x ∨ 100000 ≤ n)
theorem Heavy.more {x n : Nat} (h : Heavy x n) (hn : n < 100000) {y m : Nat} (hm : Heavy y m) : Heavy (x + y) (n + m) := by
  unfold Heavy at *; omega
theorem Heavy.stop {x n : Nat} (h : Heavy x n) (hn : ¬ n < 100000) {y : Nat} (hy : x ≤ y) : Heavy y n := by
  unfold Heavy at *; omega

theorem bcell {W w1 : World} (hb : Below W.heap.size W w1) : (∀ b o, b < W.heap.size → w1.cell? ⟨b, o, none⟩ = W.cell? ⟨b, o, none⟩) ∧ (∀ b o, b < W.heap.size → w1.frozen? ⟨b, o, none⟩ = W.frozen? ⟨b, o, none⟩) :=
  ⟨fun b o h => hb.cell (p := ⟨b, o, none⟩) h, fun b o h => hb.frozen (p := ⟨b, o, none⟩) h⟩
/-- a block of the call's own lies -/
def Lies (w : World) (b : Nat) (t : TypeId) (cs : Array Value) : Prop := w.heap[b]? = some (.cells cs t (0, 0))
theorem Lies.lt {w : World} {b : Nat} {t : TypeId} {cs : Array Value} (h : Lies w b t cs) : b < w.heap.size := by
  rcases Nat.lt_or_ge b w.heap.size with hlt | hge
  · exact hlt
  · unfold Lies at h; rw [Array.getElem?_eq_none hge] at h; cases h
theorem Lies.cell {w : World} {b : Nat} {t : TypeId} {cs : Array Value} (h : Lies w b t cs) (i : Nat) : w.cell? ⟨b, i, none⟩ = cs[i]? := by
  unfold Lies at h; simp [World.cell?, h]
theorem Lies.frozen {w : World} {b : Nat} {t : TypeId} {cs : Array Value} (h : Lies w b t cs) (i : Nat) : w.frozen? ⟨b, i, none⟩ = false := by
  unfold Lies at h; simp [World.frozen?, h]
theorem Lies.new (w : World) (t : TypeId) (cs : Array Value) : Lies (w.alloc (.cells cs t)) w.heap.size t cs := heap_alloc_new w _
theorem Lies.alloc {w : World} {b : Nat} {t : TypeId} {cs : Array Value} (h : Lies w b t cs) (o : Obj) : Lies (w.alloc o) b t cs := (Below.heap_alloc w o b h.lt).trans h
theorem Lies.below {w w' : World} {B b : Nat} {t : TypeId} {cs : Array Value} (h : Lies w b t cs) (hb : Below B w w') (hB : b < B) : Lies w' b t cs := (hb.block b hB).trans h
theorem Lies.far {w : World} {b : Nat} {t : TypeId} {cs : Array Value} (h : Lies w b t cs) {p : Addr} (hp : b ≠ p.block) (u : Value) : Lies (w.setCell p u) b t cs := (Below.heap_setCell w p u b hp).trans h
theorem Lies.grown {w w' : World} {b : Nat} {t : TypeId} {cs : Array Value} {row : Option Nat} (h : Lies w b t cs) (hg : w.grownBy w' row) (hne : some b ≠ row) : Lies w' b t cs := (hg.block b h.lt hne).trans h
theorem Lies.ext {w w' : World} {b : Nat} {t : TypeId} {cs : Array Value} (h : Lies w b t cs) (hb : Below w.heap.size w w') : Lies w' b t cs := h.below hb h.lt

/-- a struct's type of so many cells -/
def StructTy (P : Program) (ty : TypeId) (n : Nat) : Prop :=
  ∃ fs, P.underlying ty = some (.struct fs) ∧ (P.info? ty).map (·.size) = some n
theorem loadVar_lies {P : Program} {w : World} {g : Nat} {t ty : TypeId} {cs : Array Value} (hT : StructTy P ty cs.size) (hL : Lies w g t cs) : (loadVar ty ⟨g, 0, none⟩).run P w = .ok (.agg cs) w := by
  obtain ⟨fs, hu, hi⟩ := hT
  exact run_loadVar_row w g t ty cs (0, 0) _ hL hu rfl hi
theorem ret1 {P : Program} {fn : Func} {p : Tmp} {ty : TypeId} (h : fn.results = #[.cell p ty]) {tmps : Array Value} {w : World} {g : Nat} {t : TypeId} {cs : Array Value} (hT : StructTy P ty cs.size)
    (hp : tmps.getD p undef = .pointer (some ⟨g, 0, none⟩)) (hL : Lies w g t cs) : (results fn tmps).run P w = .ok (.agg cs) w := by
  obtain ⟨fs, hu, hi⟩ := hT
  exact results_cell_row h tmps w g t cs (0, 0) _ hp hL hu rfl hi
theorem ret2 {P : Program} {fn : Func} {p u : Tmp} {ty : TypeId} (h : fn.results = #[.cell p ty, .tmp u]) {tmps : Array Value} {w : World} {g : Nat} {t : TypeId} {cs : Array Value} {x : Value} (hT : StructTy P ty cs.size)
    (hp : tmps.getD p undef = .pointer (some ⟨g, 0, none⟩)) (hx : tmps.getD u undef = x) (hL : Lies w g t cs) : (results fn tmps).run P w = .ok (.tuple #[.agg cs, x]) w := by
  rw [results_cell_tmp h, hp]
  simp [asAddr, loadVar_lies hT hL, Result.andThen]
  simpa using hx

set_option maxRecDepth 100000 in
set_option maxHeartbeats 1000000 in
theorem weight_any : ∀ (v : V) (S : Nat → Prop) (w : World) (cs : List Value), IsV S w v cs → v.wt ≤ 16777216 →
    Calls Try.prog 33 #[.agg cs.toArray] w fun e w' => ∃ n : Nat, Heavy v.wt n ∧ e = .returned (.int .i64 n) ∧ Below w.heap.size w w' := by
  intro v
  induction v using V.byWt with
  | h v ih =>
  intro S w cs hv hwt
  obtain ⟨k, t, l, ks⟩ := v
  obtain ⟨la, lc, ka, kc, rfl, hk, h2, h3, h4, h5, hks, cells, hl, hla⟩ := hv
  have hwe := V.wt_eq (.mk k t l ks)
  simp only [V.text, V.keys, V.list] at hwe
  have b1 : 1 + t.size + ks.length + sizes ks + wts l ≤ 16777216 := by omega
  have hWE := Lib.hid hwe
  have HKS := Lib.hid hks
  have HL := Lib.hid hl
  have HLA := Lib.hid hla
  have HIH := Lib.hid ih
  have hWT := Lib.hid hwt
  clear hwe hks hl hla ih hwt
  go_enter Try.func33, Try.ntmps33
  go_wp2
  go_loopw [3, 4] (fun x i wr => ∃ j n : Nat, j ≤ ks.length ∧ i = .int .i64 j ∧ x = .int .i64 n ∧ Hid (Heavy (1 + t.size + ks.length + sizes (ks.take j)) n) ∧ n ≤ 16777216 ∧ wr = w.alloc (.cells #[.int .u8 k, .string t, .slice la l.length lc, .slice ka ks.length kc] 26)) (fun _ i _ => ks.length - (intOf i).toNat)
  case atStart => exact ⟨0, 1 + t.size + ks.length, Nat.zero_le _, rfl, by go_num, by simp [Hid, Heavy, sizes], by omega, rfl⟩
  case round =>
    obtain ⟨j, n, hj, rfl, rfl, HN, hnb, rfl⟩ := hrel
    have hsz := sizes_take_le ks j
    by_cases hgo : j < ks.length ∧ n < 100000
    · obtain ⟨hlt, hlt2⟩ := hgo
      have hI : decide ((n : Int) < 100000) = true := by simp; omega
      obtain ⟨b, o, ha, _, hc⟩ := HKS.out.getS hlt
      subst ha
      have hb : b < w.heap.size := World.block_lt_of_cell? w _ hc
      have hs1 := sizes_take_succ ks j hlt
      have hs2 := sizes_take_le ks (j + 1)
      have hs3 : ks[j].size ≤ 16777216 := by omega
      have hN' : Hid (Heavy (1 + t.size + ks.length + sizes (ks.take (j + 1))) (n + ks[j].size) ∧ n + ks[j].size ≤ 16777216) := by
        have h := (HN.out).more hlt2 (y := ks[j].size) (m := ks[j].size) ⟨Nat.le_refl _, .inl rfl⟩
        rw [hs1, ← Nat.add_assoc]
        exact ⟨h, by have := h.1; omega⟩
      clear hlt2 hs1 hs2 hsz
      go_wp2
      go_roundw
      case rel => exact ⟨j + 1, n + ks[j].size, by omega, by go_num, by go_num, hN'.out.1, hN'.out.2, trivial⟩
      case measure => simp [intOf]; omega
    · have HN2 : Hid (Heavy (1 + t.size + ks.length + sizes ks) n) := by
        by_cases hlt : j < ks.length
        · exact (HN.out).stop (by omega) (by omega)
        · have hj2 : j = ks.length := by omega
          have h := HN.out
          rw [hj2, List.take_length] at h
          exact h
      have hcase : (j < ks.length ∧ decide ((n : Int) < 100000) = false) ∨ ¬ j < ks.length := by
        by_cases hlt : j < ks.length
        · exact .inl ⟨hlt, by simp; omega⟩
        · exact .inr hlt
      clear hgo hsz HN
      rcases hcase with ⟨hlt, hI⟩ | hlt
      all_goals
        go_wp2
        go_loopw [3, 5] (fun x i wr => ∃ j n : Nat, j ≤ l.length ∧ i = .int .i64 j ∧ x = .int .i64 n ∧ Hid (Heavy (1 + t.size + ks.length + sizes ks + wts (l.take j)) n) ∧ n ≤ 16777216 ∧ Below w.heap.size w wr ∧ Lies wr w.heap.size 26 #[.int .u8 k, .string t, .slice la l.length lc, .slice ka ks.length kc]) (fun _ i _ => l.length - (intOf i).toNat)
        case atStart => exact ⟨0, n, Nat.zero_le _, rfl, rfl, by simpa [wts] using HN2, hnb, (Below.refl _ _).alloc (Nat.le_refl _) _, Lies.new _ _ _⟩
        case round =>
          try clear hI
          clear hlt hj hnb HN2
          obtain ⟨j, n, hj, rfl, rfl, HN, hnb, hB, hLi⟩ := hrel
          have hc2 : wr.cell? ⟨w.heap.size, 2, none⟩ = some (.slice la l.length lc) := hLi.cell 2
          have HLI := Lib.hid hLi
          clear hLi
          have hsz := wts_take_le l j
          by_cases hgo : j < l.length ∧ n < 100000
          · obtain ⟨hlt, hlt2⟩ := hgo
            have hI : decide ((n : Int) < 100000) = true := by simp; omega
            obtain ⟨b, o, c0, c1, c2, c3, ha, hSb, g0, g1, g2, g3, hv⟩ := HLA.out.getV HL.out hlt
            subst ha
            have hb : b < w.heap.size := World.block_lt_of_cell? w _ g0
            have hx0 := (hB.cell (p := ⟨b, o + j * 4, none⟩) hb).trans g0
            have hx1 := (hB.cell (p := ⟨b, o + j * 4 + 1, none⟩) hb).trans g1
            have hx2 := (hB.cell (p := ⟨b, o + j * 4 + 2, none⟩) hb).trans g2
            have hx3 := (hB.cell (p := ⟨b, o + j * 4 + 3, none⟩) hb).trans g3
            clear g0 g1 g2 g3
            have hv' := Lib.hid (hv.keep (Keeps.of_ext hB))
            clear hv
            have hs1 := wts_take_succ l j hlt
            have hs2 := wts_take_le l (j + 1)
            have hlt' : l[j].wt < (V.mk k t l ks).wt := V.list_lt (.mk k t l ks) hlt
            have hwj : l[j].wt ≤ 16777216 := by omega
            have HC : ∀ W, Keeps S wr W → Hid (Calls Try.prog 33 #[.agg #[c0, c1, c2, c3]] W fun e w' => ∃ n : Nat, Heavy l[j].wt n ∧ e = .returned (.int .i64 n) ∧ Below W.heap.size W w') :=
              fun W hW => HIH.out l[j] hlt' S W _ (hv'.out.keep hW) hwj
            have HS1 := Lib.hid hs1
            clear hs1 hs2 hlt' hlt2 hsz
            go_wp2_with (go_at_call 33; refine (HC _ (Keeps.refl _ _)).out.mono ?_; rintro e w' ⟨m, hm, rfl, hb'⟩; have hmb : m ≤ 16777216 := Nat.le_trans hm.1 hwj)
            go_roundw
            case rel =>
              have h := (HN.out).more (by have := of_decide_eq_true hI; omega) hm
              rw [Nat.add_assoc, ← HS1.out] at h
              exact ⟨j + 1, n + m, by omega, by go_num, by go_num, h, by have := h.1; have := wts_take_le l (j + 1); omega, hB.trans (hb'.mono hB.size), HLI.out.below hb' HLI.out.lt⟩
            case measure => simp [intOf]; omega
          · have hout : Hid (Heavy (V.mk k t l ks).wt n) := by
              show Heavy _ _
              rw [hWE.out]
              by_cases hlt : j < l.length
              · exact (HN.out).stop (by omega) (by omega)
              · have hj2 : j = l.length := by omega
                have h := HN.out
                rw [hj2, List.take_length] at h
                exact h
            have hcase : (j < l.length ∧ decide ((n : Int) < 100000) = false) ∨ ¬ j < l.length := by
              by_cases hlt : j < l.length
              · exact .inl ⟨hlt, by simp; omega⟩
              · exact .inr hlt
            clear hgo hsz HN
            rcases hcase with ⟨hlt, hI⟩ | hlt
            all_goals
              go_wp2
              go_ret
              exact ⟨n, hout.out, rfl, hB⟩

end Go.Proofs.Ytfajbkofbjcbbaa
