/- Walk: inarchlaw19.PostsPart. -/
import Derived.Test.YtfajbkofbjcbbaaXGa
namespace Go.Proofs.Ytfajbkofbjcbbaa
open Go.RowKit Go.Sort Go.Shelf

/-- what the law has made of its argument -/
def Tw (w wx : World) (g : Nat) (a1 : Option Addr) (c1 g2 g3 : Nat) (la fa ra : Option Addr) (lc fc rc : Nat) (ls : List Lbl) (xs rs : List Int) : Prop :=
  Lies wx g 33 #[.slice a1 ls.length c1, .slice (some ⟨g2, 0, none⟩) xs.length (xs.length + 2), .slice (some ⟨g3, 0, none⟩) rs.length (rs.length + 2)] ∧ At (fun _ => True) wx a1 (lblCells ls) ∧
    At (fun _ => True) wx (some ⟨g2, 0, none⟩) (intCells (xs ++ [90, 90])) ∧ At (fun _ => True) wx (some ⟨g3, 0, none⟩) (intCells (rs ++ [90, 90])) ∧
    Lies wx w.heap.size 33 #[.slice la ls.length lc, .slice fa xs.length fc, .slice ra rs.length rc] ∧ Below w.heap.size w wx ∧ ls.length ≤ c1 ∧ c1 ≤ 9223372036854775807

theorem own_ext {w w' : World} {B : Nat} {e : TypeId} {size n : Nat} {v : Value} {xs : List Value} (h : w.ownsRow B e size v n xs) (hb : Below w.heap.size w w') : w'.ownsRow B e size v n xs := by
  refine h.kept ⟨hb.os, hb.tape, hb.output, hb.size, fun k hk _ => hb.block k hk⟩ (row := none) ?_
  cases v.ownBlock with
  | none => exact .inl rfl
  | some k => exact .inr (by simp)
theorem own_cap {w : World} {B : Nat} {e : TypeId} {size n c : Nat} {a : Option Addr} {xs : List Value} (h : w.ownsRow B e size (.slice a n c) n xs) : c ≤ 9223372036854775807 := by
  rcases h.2 with ⟨h1, h2⟩ | ⟨g, cap, cur, h1, _, _, h2, h3, _⟩
  · injection h1 with _ _ h3; omega
  · injection h1 with _ _ h4
    have : maxLen = 9223372036854775807 := rfl
    omega
theorem fin_at {w : World} {B g n c : Nat} {e t : TypeId} {size : Nat} {a : Option Addr} {xs : List Value} {Z : Array Value} (h : w.ownsRow B e size (.slice a n c) n xs) (hg : Lies w g t Z) (he : e ≠ t) (u0 u1 u2 : Value) :
    At (fun _ => True) (((w.setCell ⟨g, 0, none⟩ u0).setCell ⟨g, 1, none⟩ u1).setCell ⟨g, 2, none⟩ u2) a xs := by
  have h1 := (own_atW h).at_.mono (T := fun b => b ≠ g) (fun b _ hb => by
    obtain ⟨_, cs, hc⟩ := own_row h hb.2
    rintro rfl
    have h9 : w.heap[b]? = _ := hg
    rw [hc] at h9
    injection h9 with h9
    injection h9 with _ h9
    exact he h9)
  exact (((h1.keep (Keeps.set (p := ⟨g, 0, none⟩) _ (fun b hb => hb) u0)).keep (Keeps.set (p := ⟨g, 1, none⟩) _ (fun b hb => hb) u1)).keep (Keeps.set (p := ⟨g, 2, none⟩) _ (fun b hb => hb) u2)).mono (fun _ _ _ => trivial)
theorem fin_at0 {w : World} {B n c : Nat} {e : TypeId} {size : Nat} {a : Option Addr} {xs : List Value} (h : w.ownsRow B e size (.slice a n c) n xs) (o : Obj) : At (fun _ => True) (w.alloc o) a xs :=
  ((own_atW h).at_.keep (Keeps.alloc _ _)).mono (fun _ _ _ => trivial)
theorem heldc {W0 W' : World} {b : Nat} {t : TypeId} {u0 u1 u2 : Value} (h : Lies W0 b t #[u0, u1, u2]) (hb : Below W0.heap.size W0 W') : W'.cell? ⟨b, 0, none⟩ = some u0 ∧ W'.cell? ⟨b, 1, none⟩ = some u1 ∧ W'.cell? ⟨b, 2, none⟩ = some u2 :=
  ⟨(h.ext hb).cell 0, (h.ext hb).cell 1, (h.ext hb).cell 2⟩
theorem below_none {W W' : World} (h : W.grownBy W' none) : Below W.heap.size W W' := (Below.refl _ _).grown h (Nat.le_refl _) (fun k e => by cases e)

set_option maxRecDepth 100000 in
set_option maxHeartbeats 4000000 in
theorem postsPart_small (la fa ra : Option Addr) (lc fc rc : Nat) (ls : List Lbl) (xs rs : List Int) (node : Int) (w : World) (hl : At (· < w.heap.size) w la (lblCells ls)) (hf : At (· < w.heap.size) w fa (intCells xs)) (hr : At (· < w.heap.size) w ra (intCells rs))
    (hlb : ls.length ≤ 100) (hfb : xs.length ≤ 100) (hrb : rs.length ≤ 100) :
    Calls Try.prog 4 #[.agg #[.slice la ls.length lc, .slice fa xs.length fc, .slice ra rs.length rc], .int .i64 node] w fun e w' => e = .returned (.bool true) ∧ Below w.heap.size w w' := by
  have h0 := Lies.new w 33 #[.slice la ls.length lc, .slice fa xs.length fc, .slice ra rs.length rc]
  have hB0 : Below w.heap.size w (w.alloc (.cells #[.slice la ls.length lc, .slice fa xs.length fc, .slice ra rs.length rc] 33)) := (Below.refl _ _).alloc (Nat.le_refl _) _
  have g1 : decide (100 < ls.length) = false := by simp; omega
  have g2 : decide (100 < xs.length) = false := by simp; omega
  have g3 : decide (100 < rs.length) = false := by simp; omega
  have hll : ls.length ≤ 16777216 := by omega
  have hTL : ∀ W, Below w.heap.size w W → Hid (Calls Try.prog 21 #[.slice fa xs.length fc] W fun e w' => e = .returned (.slice (some ⟨W.heap.size, 0, none⟩) xs.length (xs.length + 2)) ∧
      w'.ownsRow W.heap.size 3 1 (.slice (some ⟨W.heap.size, 0, none⟩) (xs.length + 2) (xs.length + 2)) (xs.length + 2) (intCells (xs ++ [90, 90])) ∧ Below W.heap.size W w') :=
    fun W hW => twinNums_any (· < w.heap.size) fa fc xs W (hf.keep (Keeps.of_below hW fun _ h _ => h)) (by omega)
  have hTR : ∀ W, Below w.heap.size w W → Hid (Calls Try.prog 21 #[.slice ra rs.length rc] W fun e w' => e = .returned (.slice (some ⟨W.heap.size, 0, none⟩) rs.length (rs.length + 2)) ∧
      w'.ownsRow W.heap.size 3 1 (.slice (some ⟨W.heap.size, 0, none⟩) (rs.length + 2) (rs.length + 2)) (rs.length + 2) (intCells (rs ++ [90, 90])) ∧ Below W.heap.size W w') :=
    fun W hW => twinNums_any (· < w.heap.size) ra rc rs W (hr.keep (Keeps.of_below hW fun _ h _ => h)) (by omega)
  have HL := Lib.hid hl
  have HF := Lib.hid hf
  have HR := Lib.hid hr
  have H0 := Lib.hid h0
  have HB0 := Lib.hid hB0
  have hlen := lblCells_length ls
  have HLEN := Lib.hid hlen
  have HNIL := Lib.hid World.ownsRow_nil
  clear hl hf hr h0 hB0 hlen
  go_enter Try.func4, Try.ntmps4
  go_upto_region 3 with (fail)
  have tok1 : True := trivial
  have hbc : Below w.heap.size w (w.alloc (.cells #[.slice la ls.length lc, .slice fa xs.length fc, .slice ra rs.length rc] 33)) := HB0.out
  have x0 : (w.alloc (.cells #[.slice la ls.length lc, .slice fa xs.length fc, .slice ra rs.length rc] 33)).cell? ⟨w.heap.size, 0, none⟩ = some (.slice la ls.length lc) := H0.out.cell 0
  have x1 : (w.alloc (.cells #[.slice la ls.length lc, .slice fa xs.length fc, .slice ra rs.length rc] 33)).cell? ⟨w.heap.size, 1, none⟩ = some (.slice fa xs.length fc) := H0.out.cell 1
  have x2 : (w.alloc (.cells #[.slice la ls.length lc, .slice fa xs.length fc, .slice ra rs.length rc] 33)).cell? ⟨w.heap.size, 2, none⟩ = some (.slice ra rs.length rc) := H0.out.cell 2
  have hz : (w.alloc (.cells #[.slice la ls.length lc, .slice fa xs.length fc, .slice ra rs.length rc] 33)).heap.size = w.heap.size + 1 := by simp
  obtain ⟨W0, hW0⟩ : ∃ W0, w.alloc (.cells #[.slice la ls.length lc, .slice fa xs.length fc, .slice ra rs.length rc] 33) = W0 := ⟨_, rfl⟩
  rw [hW0] at hbc x0 x1 x2 hz ⊢
  have H0' : Hid (Lies W0 w.heap.size 33 #[.slice la ls.length lc, .slice fa xs.length fc, .slice ra rs.length rc]) := by rw [← hW0]; exact H0
  clear hW0 H0 HB0
  have hwlt : w.heap.size < W0.heap.size := by omega
  clear hz
  go_cut [5] (fun s wx => ∃ g a1 c1 g2 g3, s = .pointer (some ⟨g, 0, none⟩) ∧ Tw w wx g a1 c1 g2 g3 la fa ra lc fc rc ls xs rs)
  case first =>
    have hbw : ∀ W', Below W0.heap.size W0 W' → Below w.heap.size w W' := fun W' h => hbc.trans (h.mono hbc.size)
    go_region_held3 (fun W' => W'.cell? ⟨w.heap.size, 0, none⟩ = some (.slice la ls.length lc) ∧ W'.cell? ⟨w.heap.size, 1, none⟩ = some (.slice fa xs.length fc) ∧ W'.cell? ⟨w.heap.size, 2, none⟩ = some (.slice ra rs.length rc)) (first | assumption | exact heldc H0'.out (by repeat (first | assumption | exact Below.refl _ _ | apply Below.drew | refine Below.alloc ?_ (by first | exact Nat.le_refl _ | omega | (simp; done) | (simp; omega)) _ | refine Below.setCell ?_ (by first | (simp; done) | (simp; omega) | omega) _)))
      (first
        | (refine step_app _ rfl elLbl (.const (.slice none 0 0)) (.tmp 29) rfl w.heap.size (.slice none 0 0) 0 [] rfl (HNIL.out _ _ _ _) (· < w.heap.size) la ls.length lc (lblCells ls) rfl HLEN.out (HL.out.keep (Keeps.of_below (hbw _ (by repeat (first | assumption | exact Below.refl _ _ | apply Below.drew | refine Below.alloc ?_ (by first | exact Nat.le_refl _ | omega | (simp; done) | (simp; omega)) _ | refine Below.setCell ?_ (by first | (simp; done) | (simp; omega) | omega) _))) fun _ h _ => h)) (lblCells_one _) (by omega) (by first | (simp; done) | (simp; omega) | omega) ?_; intro v1 w1 hown1 hg1 _; simp only [Nat.zero_add, List.nil_append] at hown1; obtain ⟨a1, c1, rfl, hc1⟩ := own_slice hown1; have hW1 : Below W0.heap.size W0 w1 := (Below.trans (by repeat (first | assumption | exact Below.refl _ _ | apply Below.drew | refine Below.alloc ?_ (by first | exact Nat.le_refl _ | omega | (simp; done) | (simp; omega)) _ | refine Below.setCell ?_ (by first | (simp; done) | (simp; omega) | omega) _)) ((below_none hg1).mono (by first | (simp; done) | (simp; omega) | omega))); have hs1 := heldc H0'.out hW1; have hz1 := hW1.size; have HO1 := Lib.hid hown1; have HG1 := Lib.hid hg1; (try (have hq := ((by first | exact Lies.new _ _ _ | exact Lies.drew (Lies.new W0 _ _)) : Lies _ W0.heap.size 33 #[.slice none 0 0, .slice none 0 0, .slice none 0 0]).ext (below_none hg1); have zc0 := hq.cell 0; have zc1 := hq.cell 1; have zc2 := hq.cell 2; have zf0 := hq.frozen 0; have zf1 := hq.frozen 1; have zf2 := hq.frozen 2; have zl := hq.lt; have HZ1 := Lib.hid hq; clear hq)); clear hown1 hg1)
        | (have _t := tok1; go_simp; go_at_call 21; refine ((hTL _ (hbw _ (by repeat (first | assumption | exact Below.refl _ _ | apply Below.drew | refine Below.alloc ?_ (by first | exact Nat.le_refl _ | omega | (simp; done) | (simp; omega)) _ | refine Below.setCell ?_ (by first | (simp; done) | (simp; omega) | omega) _)))).out).mono ?_; rintro e w2 ⟨rfl, hown2, hb2⟩; have hW2 : Below W0.heap.size W0 w2 := (Below.trans (by repeat (first | assumption | exact Below.refl _ _ | apply Below.drew | refine Below.alloc ?_ (by first | exact Nat.le_refl _ | omega | (simp; done) | (simp; omega)) _ | refine Below.setCell ?_ (by first | (simp; done) | (simp; omega) | omega) _)) (hb2.mono (by first | (simp; done) | (simp; omega) | omega))); have hs2 := heldc H0'.out hW2; have hz2 := hW2.size; have HO2 := Lib.hid hown2; have HB2 := Lib.hid hb2; (try (have hq := (Lies.new _ 33 #[.slice none 0 0, .slice none 0 0, .slice none 0 0]).ext hb2; have zc0 := hq.cell 0; have zc1 := hq.cell 1; have zc2 := hq.cell 2; have zf0 := hq.frozen 0; have zf1 := hq.frozen 1; have zf2 := hq.frozen 2; have zl := hq.lt; have HZ2 := Lib.hid hq; clear hq)); (try (have hq := HZ1.out.ext hb2; have zc0 := hq.cell 0; have zc1 := hq.cell 1; have zc2 := hq.cell 2; have zf0 := hq.frozen 0; have zf1 := hq.frozen 1; have zf2 := hq.frozen 2; have zl := hq.lt; have HZ2 := Lib.hid hq; clear hq)); clear hown2 hb2 tok1)
        | (go_simp; go_at_call 21; refine ((hTR _ (hbw _ (by repeat (first | assumption | exact Below.refl _ _ | apply Below.drew | refine Below.alloc ?_ (by first | exact Nat.le_refl _ | omega | (simp; done) | (simp; omega)) _ | refine Below.setCell ?_ (by first | (simp; done) | (simp; omega) | omega) _)))).out).mono ?_; rintro e w3 ⟨rfl, hown3, hb3⟩; have hW3 : Below W0.heap.size W0 w3 := (Below.trans (by repeat (first | assumption | exact Below.refl _ _ | apply Below.drew | refine Below.alloc ?_ (by first | exact Nat.le_refl _ | omega | (simp; done) | (simp; omega)) _ | refine Below.setCell ?_ (by first | (simp; done) | (simp; omega) | omega) _)) (hb3.mono (by first | (simp; done) | (simp; omega) | omega))); have hs3 := heldc H0'.out hW3; have hz3 := hW3.size; have HO3 := Lib.hid hown3; have HB3 := Lib.hid hb3; (try (have hq := (Lies.new _ 33 #[.slice none 0 0, .slice none 0 0, .slice none 0 0]).ext hb3; have zc0 := hq.cell 0; have zc1 := hq.cell 1; have zc2 := hq.cell 2; have zf0 := hq.frozen 0; have zf1 := hq.frozen 1; have zf2 := hq.frozen 2; have zl := hq.lt; have HZ3 := Lib.hid hq; clear hq)); (try (have hq := HZ2.out.ext hb3; have zc0 := hq.cell 0; have zc1 := hq.cell 1; have zc2 := hq.cell 2; have zf0 := hq.frozen 0; have zf1 := hq.frozen 1; have zf2 := hq.frozen 2; have zl := hq.lt; have HZ3 := Lib.hid hq; clear hq)); clear hown3 hb3))
    all_goals
      go_wp2_with fail
      go_meet
      case rel =>
        have h12 : Below w1.heap.size w1 w2 := Below.trans (by repeat (first | assumption | exact Below.refl _ _ | apply Below.drew | refine Below.alloc ?_ (by first | exact Nat.le_refl _ | omega | (simp; done) | (simp; omega)) _ | refine Below.setCell ?_ (by first | (simp; done) | (simp; omega) | omega) _)) (HB2.out.mono (by first | (simp; done) | (simp; omega) | omega))
        have h23 : Below w2.heap.size w2 w3 := Below.trans (by repeat (first | assumption | exact Below.refl _ _ | apply Below.drew | refine Below.alloc ?_ (by first | exact Nat.le_refl _ | omega | (simp; done) | (simp; omega)) _ | refine Below.setCell ?_ (by first | (simp; done) | (simp; omega) | omega) _)) (HB3.out.mono (by first | (simp; done) | (simp; omega) | omega))
        have o1 := own_ext (own_ext HO1.out h12) h23
        have o2 := own_ext HO2.out h23
        have o3 := HO3.out
        try simp only [World.size_alloc] at o2
        try simp only [World.size_alloc] at o3
        have hbx := H0'.out.ext hW3
        have hcap := own_cap HO1.out
        first
          | exact ⟨_, a1, c1, _, _, rfl, Lies.new w3 _ _, fin_at0 o1 _, fin_at0 o2 _, fin_at0 o3 _, hbx.alloc _, hbw _ (by repeat (first | assumption | exact Below.refl _ _ | apply Below.drew | refine Below.alloc ?_ (by first | exact Nat.le_refl _ | omega | (simp; done) | (simp; omega)) _ | refine Below.setCell ?_ (by first | (simp; done) | (simp; omega) | omega) _)), hc1, hcap⟩
          | exact ⟨_, a1, c1, _, _, rfl, ((HZ3.out.set 0 _).set 1 _).set 2 _, fin_at o1 HZ3.out (by decide) _ _ _, fin_at o2 HZ3.out (by decide) _ _ _, fin_at o3 HZ3.out (by decide) _ _ _, ((hbx.far (by simp; omega) _).far (by simp; omega) _).far (by simp; omega) _, hbw _ (by repeat (first | assumption | exact Below.refl _ _ | apply Below.drew | refine Below.alloc ?_ (by first | exact Nat.le_refl _ | omega | (simp; done) | (simp; omega)) _ | refine Below.setCell ?_ (by first | (simp; done) | (simp; omega) | omega) _)), hc1, hcap⟩
  case rest =>
    obtain ⟨g, a1, c1, g2', g3', rfl, hT⟩ := hcut
    obtain ⟨t0, t1, t2, t3, t4, t5, t6, t7⟩ := hT
    clear x0 x1 x2 hbc tok1 hwlt
    have y0 : wc.cell? ⟨g, 0, none⟩ = some (.slice a1 ls.length c1) := t0.cell 0
    have y1 : wc.cell? ⟨g, 1, none⟩ = some (.slice (some ⟨g2', 0, none⟩) xs.length (xs.length + 2)) := t0.cell 1
    have y2 : wc.cell? ⟨g, 2, none⟩ = some (.slice (some ⟨g3', 0, none⟩) rs.length (rs.length + 2)) := t0.cell 2
    have hgl := t0.lt
    have hwl := t4.lt
    have hpc := part_any (fun _ => True) a1 (some ⟨g2', 0, none⟩) (some ⟨g3', 0, none⟩) c1 (xs.length + 2) rs.length (rs.length + 2) ls xs node wc t1 (by
      have h := t2.take xs.length
      rw [intCells_append, List.take_left' (by rw [intCells_length])] at h
      exact h) t6 (by omega) (by omega) (by omega) t7 (by omega)
    have HP := Lib.hid hpc
    have T0 := Lib.hid t0
    have T1 := Lib.hid t1
    have T2 := Lib.hid t2
    have T3 := Lib.hid t3
    have T4 := Lib.hid t4
    have T5 := Lib.hid t5
    clear hpc t0 t1 t2 t3 t4 t5
    go_wp2_with fail
    refine HP.out.mono ?_
    rintro e w4 ⟨pa, fa', ra', rfl, k1, k2, k3, hb4⟩
    have z4 := T4.out.ext hb4
    have v4 := T0.out.ext hb4
    have z40 : w4.cell? ⟨w.heap.size, 0, none⟩ = some (.slice la ls.length lc) := z4.cell 0
    have z41 : w4.cell? ⟨w.heap.size, 1, none⟩ = some (.slice fa xs.length fc) := z4.cell 1
    have z42 : w4.cell? ⟨w.heap.size, 2, none⟩ = some (.slice ra rs.length rc) := z4.cell 2
    have z4l := z4.lt
    have hB4 := T5.out.trans (hb4.mono T5.out.size)
    have hB4' := hB4.alloc hB4.size (.cells #[.slice pa (pLbl ls xs node).length (pLbl ls xs node).length, .slice fa' (pLeft ls xs node).length (pLeft ls xs node).length, .slice ra' (pRoots ls xs node).length (pRoots ls xs node).length] 33)
    have hoc := other_any (· < w.heap.size) la fa ra lc xs.length fc rs.length rc ls _ (HL.out.keep (Keeps.of_below hB4' fun _ h _ => h)) (by omega)
    have HO := Lib.hid hoc
    have HB4 := Lib.hid hB4
    have HB4' := Lib.hid hB4'
    have Z4 := Lib.hid z4
    have V4 := Lib.hid v4
    have K1 := Lib.hid k1
    have K2 := Lib.hid k2
    have K3 := Lib.hid k3
    have Hb4 := Lib.hid hb4
    clear hoc hB4 hB4' z4 v4 k1 k2 k3 hb4 y0 y1 y2
    go_wp2_with fail
    refine HO.out.mono ?_
    rintro e w5 ⟨oa, oc, rfl, ho, hb5⟩
    have hB5 := HB4'.out.trans (hb5.mono (by have := HB4.out.size; simp; omega))
    have hrc := rpart_any (fun b => b < w.heap.size ∨ w4.heap.size ≤ b) oa fa ra oc fc rs.length rc ls xs node w5 (ho.mono (fun b _ h => .inr (by simp at h; omega))) ((HF.out.keep (Keeps.of_below hB5 fun _ h _ => h)).mono (fun b _ h => .inl h)) (by omega) (by omega)
    have HRC := Lib.hid hrc
    have HB5 := Lib.hid hB5
    have Hb5 := Lib.hid hb5
    clear hrc ho hb5 hB5
    go_wp2_with fail
    refine HRC.out.mono ?_
    rintro e w6 ⟨qa, qf, qr, ql, qlf, qlr, rfl, q1, q2, q3, hb6⟩
    have hB6 := HB5.out.trans (hb6.mono HB5.out.size)
    have hx6 := ((Lies.new w4 33 #[.slice pa (pLbl ls xs node).length (pLbl ls xs node).length, .slice fa' (pLeft ls xs node).length (pLeft ls xs node).length, .slice ra' (pRoots ls xs node).length (pRoots ls xs node).length]).ext Hb5.out).ext hb6
    have v6 := ((V4.out.alloc (.cells #[.slice pa (pLbl ls xs node).length (pLbl ls xs node).length, .slice fa' (pLeft ls xs node).length (pLeft ls xs node).length, .slice ra' (pRoots ls xs node).length (pRoots ls xs node).length] 33)).ext Hb5.out).ext hb6
    have z6 := ((Z4.out.alloc (.cells #[.slice pa (pLbl ls xs node).length (pLbl ls xs node).length, .slice fa' (pLeft ls xs node).length (pLeft ls xs node).length, .slice ra' (pRoots ls xs node).length (pRoots ls xs node).length] 33)).ext Hb5.out).ext hb6
    have e0 : w6.cell? ⟨w4.heap.size, 0, none⟩ = some (.slice pa (pLbl ls xs node).length (pLbl ls xs node).length) := hx6.cell 0
    have e1 : w6.cell? ⟨w4.heap.size, 1, none⟩ = some (.slice fa' (pLeft ls xs node).length (pLeft ls xs node).length) := hx6.cell 1
    have e2 : w6.cell? ⟨w4.heap.size, 2, none⟩ = some (.slice ra' (pRoots ls xs node).length (pRoots ls xs node).length) := hx6.cell 2
    have hl6 := hx6.lt
    have hgl6 := v6.lt
    have hwl6 := z6.lt
    have hk4 : Below w4.heap.size w4 (w6.alloc (.cells #[.slice qa (pLbl ls xs node).length ql, .slice qf (pLeft ls xs node).length qlf, .slice qr (pRoots ls xs node).length qlr] 38)) := ((((Below.refl _ w4).alloc (Nat.le_refl _) (.cells #[.slice pa (pLbl ls xs node).length (pLbl ls xs node).length, .slice fa' (pLeft ls xs node).length (pLeft ls xs node).length, .slice ra' (pRoots ls xs node).length (pRoots ls xs node).length] 33)).trans (Hb5.out.mono (by simp))).trans (hb6.mono (by have := Hb5.out.size; simp at this; omega))).alloc (by omega) _
    have hs := same_true (fun _ => True) (fun _ => True) pa fa' ra' qa qf qr ql qlf qlr (pLbl ls xs node) (pLeft ls xs node) (pRoots ls xs node) (w6.alloc (.cells #[.slice qa (pLbl ls xs node).length ql, .slice qf (pLeft ls xs node).length qlf, .slice qr (pRoots ls xs node).length qlr] 38))
      ((K1.out.at_.keep (Keeps.of_ext hk4)).mono (fun _ _ _ => trivial)) ((K2.out.at_.keep (Keeps.of_ext hk4)).mono (fun _ _ _ => trivial)) ((K3.out.at_.keep (Keeps.of_ext hk4)).mono (fun _ _ _ => trivial))
      ((q1.keep (Keeps.alloc _ _)).mono (fun _ _ _ => trivial)) ((q2.keep (Keeps.alloc _ _)).mono (fun _ _ _ => trivial)) ((q3.keep (Keeps.alloc _ _)).mono (fun _ _ _ => trivial))
      (by have := pLbl_le ls xs node; omega) (by have := pLeft_le ls xs node; omega) (by have := pRoots_le ls xs node; omega)
    have HS := Lib.hid hs
    have HB6 := Lib.hid hB6
    have V6 := Lib.hid v6
    have Z6 := Lib.hid z6
    have HK4 := Lib.hid hk4
    clear hs hB6 v6 z6 hk4 hx6 q1 q2 q3 hb6
    go_wp2_with fail
    refine HS.out.mono ?_
    rintro e w7 ⟨rfl, hb7⟩
    have hB7 := (HB6.out.alloc HB6.out.size (.cells #[.slice qa (pLbl ls xs node).length ql, .slice qf (pLeft ls xs node).length qlf, .slice qr (pRoots ls xs node).length qlr] 38)).trans (hb7.mono (by have := HB6.out.size; simp; omega))
    have v7 := (V6.out.alloc (.cells #[.slice qa (pLbl ls xs node).length ql, .slice qf (pLeft ls xs node).length qlf, .slice qr (pRoots ls xs node).length qlr] 38)).ext hb7
    have z7 := (Z6.out.alloc (.cells #[.slice qa (pLbl ls xs node).length ql, .slice qf (pLeft ls xs node).length qlf, .slice qr (pRoots ls xs node).length qlr] 38)).ext hb7
    have hk7 := HK4.out.trans (hb7.mono (by have := HK4.out.size; simpa using this))
    have y1 : w7.cell? ⟨g, 1, none⟩ = some (.slice (some ⟨g2', 0, none⟩) xs.length (xs.length + 2)) := v7.cell 1
    have y2 : w7.cell? ⟨g, 2, none⟩ = some (.slice (some ⟨g3', 0, none⟩) rs.length (rs.length + 2)) := v7.cell 2
    have x1 : w7.cell? ⟨w.heap.size, 1, none⟩ = some (.slice fa xs.length fc) := z7.cell 1
    have x2 : w7.cell? ⟨w.heap.size, 2, none⟩ = some (.slice ra rs.length rc) := z7.cell 2
    have hk7c := Hb4.out.trans (hk7.mono Hb4.out.size)
    have hl1 := leftNums_any (fun _ => True) (· < w.heap.size) g2' fa fc xs w7 (T2.out.keep (Keeps.of_ext hk7c)) (HF.out.keep (Keeps.of_below hB7 fun _ h _ => h)) (by omega)
    have hl2 := fun n => leftNums_any (fun _ => True) (· < w.heap.size) g3' ra rc rs (w7.drewN n) ((T3.out.keep (Keeps.of_ext hk7c)).keep (Keeps.of_ext (Below.drewN_ (Below.refl _ _) n))) (HR.out.keep (Keeps.of_below (Below.drewN_ hB7 n) fun _ h _ => h)) (by omega)
    have HL1 := Lib.hid hl1
    have HL2 := Lib.hid hl2
    have HB7 := Lib.hid hB7
    have V7 := Lib.hid v7
    have Z7 := Lib.hid z7
    have HK7 := Lib.hid hk7c
    have hg7 := v7.lt
    have hw7 := z7.lt
    clear hl1 hl2 hB7 v7 z7 hk7 hk7c hb7
    go_wp2_with fail
    refine HL1.out.mono ?_
    rintro e w8 ⟨rfl, n1, rfl⟩
    go_wp2_with fail
    refine (HL2.out n1).mono ?_
    rintro e w8 ⟨rfl, n2, rfl⟩
    go_wp2
    go_loopw [10] (fun i wr => ∃ j n : Nat, j ≤ ls.length ∧ i = .int .i64 j ∧ wr = w7.drewN n) (fun i _ => ls.length - (intOf i).toNat)
    case atStart => exact ⟨0, n1 + n2, Nat.zero_le _, rfl, by simp⟩
    case round =>
      obtain ⟨j, n, hj, rfl, rfl⟩ := hrel
      have z0 : w7.cell? ⟨w.heap.size, 0, none⟩ = some (.slice la ls.length lc) := Z7.out.cell 0
      have y0 : w7.cell? ⟨g, 0, none⟩ = some (.slice a1 ls.length c1) := V7.out.cell 0
      by_cases hlt : j < ls.length
      · obtain ⟨b, o, ha, _, l0, l1, l2, l3⟩ := (HL.out.keep (Keeps.of_below HB7.out fun _ h _ => h)).getL hlt
        obtain ⟨b', o', ha', _, k0, k1, k2, k3⟩ := (T1.out.keep (Keeps.of_ext HK7.out)).getL hlt
        subst ha ha'
        have hj0 : (0 : Int) ≤ (j : Int) := by omega
        have hj1 : (j : Int) < (ls.length : Int) := by omega
        generalize ls[j] = lb0 at l0 l1 l2 l3 k0 k1 k2 k3
        go_wp2_with fail
        go_quiet (fail)
        go_wp2
        go_roundw
        case rel => exact ⟨j + 1, n + nq, by omega, by go_num, by simp⟩
        case measure => simp [intOf]; omega
      · have hlv := lives_any (w7.drewN n)
        have HLV := Lib.hid hlv
        clear hlv
        go_wp2_with fail
        refine HLV.out.mono ?_
        rintro e w9 ⟨rfl, hb9⟩
        go_wp2
        go_ret
        exact ⟨rfl, (Below.drewN_ HB7.out n).trans (hb9.mono (Below.drewN_ HB7.out n).size)⟩
end Go.Proofs.Ytfajbkofbjcbbaa
