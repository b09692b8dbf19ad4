/- Walk: posts.Of. -/
import Derived.Test.YtfajbkofbjcbbaaXA
namespace Go.Proofs.Ytfajbkofbjcbbaa
open Go.RowKit Go.Sort Go.Shelf
attribute [local go_sem] Oper.semAt_some

theorem leftsOf_snoc (i : Nat) (l : List (Lbl × Nat)) (p : Lbl × Nat) : leftsOf i (l ++ [p]) = leftsOf i l ++ [((i + l.length : Nat) : Int) - p.2] := by
  rw [leftsOf_append]; rfl

theorem At.new_at {S : Nat → Prop} {w : World} {n : Nat} (h : n = w.heap.size) (cs : List Value) (t : TypeId) (hS : S n) : At S (w.alloc (.cells cs.toArray t)) (some ⟨n, 0, none⟩) cs := by rw [h] at hS ⊢; exact At.new w cs t hS
theorem lblCell_one (l : Lbl) : ∀ u ∈ lblCell l, u.oneCell' = true := by
  have h := lblCells_one [l]
  simpa [lblCells] using h
/-- how many are in a node: no more than stand ahead of it -/
def Fits0 (l : List (Lbl × Nat)) : Prop := ∀ j, j < l.length → ∀ p, l[j]? = some p → p.2 ≤ j
theorem Fits0.append {l m : List (Lbl × Nat)} (h : Fits0 l) (k : Fits0 m) : Fits0 (l ++ m) := fun j hj p hp => by
  by_cases hl : j < l.length
  · rw [List.getElem?_append_left hl] at hp; exact h j hl p hp
  · rw [List.getElem?_append_right (by omega)] at hp
    have := k (j - l.length) (by rw [List.length_append] at hj; omega) p hp
    omega
theorem Fits0.flat {f : Ent0 → List (Lbl × Nat)} : ∀ {l : List Ent0}, (∀ e ∈ l, Fits0 (f e)) → Fits0 (l.map f).flatten
  | [], _ => fun j hj => by simp at hj
  | e :: r, h => by
    rw [List.map_cons, List.flatten_cons]
    exact (h e (by simp)).append (Fits0.flat (fun x hx => h x (by simp [hx])))
theorem postE_fits : ∀ (n : Nat) (e : Ent0), e.2.2.wt ≤ n → Fits0 (postE e)
  | 0, e, h => by have := e.2.2.wt_pos; omega
  | n + 1, e, h => by
    rw [postE_eq]
    have h1 : Fits0 (e.2.2.ents.map postE).flatten := Fits0.flat (fun x hx => postE_fits n x (by have := V.ents_wt hx; omega))
    intro j hj p hp
    by_cases hl : j < (e.2.2.ents.map postE).flatten.length
    · rw [List.getElem?_append_left hl] at hp; exact h1 j hl p hp
    · rw [List.getElem?_append_right (by omega)] at hp
      rw [List.length_append, List.length_singleton] at hj
      have e0 : j - (e.2.2.ents.map postE).flatten.length = 0 := by omega
      rw [e0] at hp
      simp only [List.getElem?_cons_zero, Option.some.injEq] at hp
      subst hp
      show (e.2.2.ents.map postE).flatten.length ≤ j
      omega
theorem leftsOf_get : ∀ (l : List (Lbl × Nat)) (i j : Nat) (p : Lbl × Nat), l[j]? = some p → (leftsOf i l)[j]? = some (((i + j : Nat) : Int) - p.2)
  | [], _, _, _, h => by simp at h
  | q :: r, i, 0, p, h => by simp at h; subst h; simp [leftsOf]
  | q :: r, i, j + 1, p, h => by
    have := leftsOf_get r (i + 1) j p (by simpa using h)
    simp only [leftsOf, List.getElem?_cons_succ, this]
    congr 2; omega
theorem left_fits (v : V) : ∀ j, j < v.left.length → 0 ≤ v.left[j]?.getD 0 ∧ v.left[j]?.getD 0 < v.left.length := fun j hj => by
  have hl : v.left.length = v.post.length := by unfold V.left; rw [leftsOf_length]
  have hj2 : j < v.post.length := by omega
  have hf := postE_fits _ (ByteArray.empty, false, v) (Nat.le_refl _) j hj2 v.post[j] (List.getElem?_eq_getElem hj2)
  have hg := leftsOf_get v.post 0 j v.post[j] (List.getElem?_eq_getElem hj2)
  have hg2 : v.left[j]? = _ := hg
  rw [hg2]
  simp only [Option.getD_some]
  omega
/-- what Of hands back of a value that may be -/
def OfRes (v : V) (w : World) (e : Ending) (w' : World) : Prop :=
  ∃ (a1 a2 a3 : Option Addr), e = .returned (.tuple #[.agg #[.slice a1 v.labels.length v.labels.length, .slice a2 v.left.length v.left.length, .slice a3 (rootsOf v.left).length (rootsOf v.left).length], .bool true]) ∧
    AtW (fun b => w.heap.size ≤ b) w' a1 (lblCells v.labels) ∧ AtW (fun b => w.heap.size ≤ b) w' a2 (intCells v.left) ∧ AtW (fun b => w.heap.size ≤ b) w' a3 (intCells (rootsOf v.left)) ∧ Below w.heap.size w w'

set_option maxRecDepth 100000 in
set_option maxHeartbeats 2000000 in
theorem of_yes (S : Nat → Prop) (v : V) (la ka : Option Addr) (lc kc : Nat) (w : World) (hv : IsV S w v [.int .u8 v.kind, .string v.text, .slice la v.list.length lc, .slice ka v.keys.length kc]) (hmay : v.may = true) (hwt : v.wt ≤ 16777216) :
    Calls Try.prog 15 #[.agg #[.int .u8 v.kind, .string v.text, .slice la v.list.length lc, .slice ka v.keys.length kc]] w fun e w' => OfRes v w e w' := by
  have hro : Fence.wide.round = none := rfl
  have hdd : ∀ k : Nat, (Fence.wide.depth.isSome = true → 1 ≤ k) := fun k h => by cases h
  have hl2 := lies_two w #[.int .u8 v.kind, .string v.text, .slice la v.list.length lc, .slice ka v.keys.length kc] 26 #[.slice none 0 0, .slice none 0 0, .slice none 0 0] 33
  have hB2 : Below w.heap.size w ((w.alloc (.cells #[.int .u8 v.kind, .string v.text, .slice la v.list.length lc, .slice ka v.keys.length kc] 26)).alloc (.cells #[.slice none 0 0, .slice none 0 0, .slice none 0 0] 33)) := ((Below.refl _ _).alloc (Nat.le_refl _) _).alloc (by simp) _
  have hv0 := (hv.mono (T := (· < w.heap.size)) fun b hb _ => hb)
  have hmc := may_any v (· < w.heap.size) _ _ (hv0.keep (Keeps.of_ext hB2))
  rw [hmay] at hmc
  have HMC := Lib.hid hmc
  have HL2 := Lib.hid hl2
  have HB2 := Lib.hid hB2
  have HV := Lib.hid hv0
  have HM := Lib.hid hmay
  have HWT := Lib.hid hwt
  clear hmc hl2 hB2 hv hv0 hmay hwt
  refine (callsIn_wide (n := 6)).1 ?_
  refine callsIn_of_wp_marks Try.func15 rfl trivial ?_ hro
  simp only [Try.ntmps15, List.size_toArray, List.length_cons, List.length_nil, Nat.reduceAdd, Nat.reduceSub, Array.replicate_succ, Array.replicate_zero, List.push_toArray, List.append_toArray, List.nil_append, List.cons_append]
  gi_wp2_with (first | (refine ⟨trivial, ?_⟩; gi_at_call 30; refine (callsIn_wide.2 HMC.out).mono ?_; rintro e wm ⟨rfl, hbm⟩; have hm0 := HL2.out.1.ext hbm; have y0 : wm.cell? ⟨w.heap.size, 0, none⟩ = some (.int .u8 v.kind) := hm0.cell 0; have y1 : wm.cell? ⟨w.heap.size, 1, none⟩ = some (.string v.text) := hm0.cell 1; have y2 : wm.cell? ⟨w.heap.size, 2, none⟩ = some (.slice la v.list.length lc) := hm0.cell 2; have y3 : wm.cell? ⟨w.heap.size, 3, none⟩ = some (.slice ka v.keys.length kc) := hm0.cell 3; have HBM := Lib.hid hbm; clear hbm hm0) | (refine ⟨trivial, ?_⟩; gi_at_call 43; refine (callsIn_wide.2 (each_any _ _ _ _ _ _ _ rfl)).mono ?_; rintro e w3 ⟨rfl, rfl⟩))
  have hbm := HBM.out
  have hsm : w.heap.size + 2 ≤ wm.heap.size := by have := hbm.size; simpa using this
  have hb3 : Below wm.heap.size wm (wm.alloc (.cells #[.string ⟨#[]⟩, .bool false, .int .u8 v.kind, .string v.text, .slice la v.list.length lc, .slice ka v.keys.length kc] 75)) := (Below.refl _ _).alloc (Nat.le_refl _) _
  have hBw : Below w.heap.size w (wm.alloc (.cells #[.string ⟨#[]⟩, .bool false, .int .u8 v.kind, .string v.text, .slice la v.list.length lc, .slice ka v.keys.length kc] 75)) := (HB2.out.trans (hbm.mono (by simp; omega))).trans (hb3.mono (by omega))
  have hbox := Lies.new wm 75 #[.string ⟨#[]⟩, .bool false, .int .u8 v.kind, .string v.text, .slice la v.list.length lc, .slice ka v.keys.length kc]
  have hp0 := (HL2.out.2.ext hbm).ext hb3
  have hz3 : (wm.alloc (.cells #[.string ⟨#[]⟩, .bool false, .int .u8 v.kind, .string v.text, .slice la v.list.length lc, .slice ka v.keys.length kc] 75)).heap.size = wm.heap.size + 1 := by simp
  obtain ⟨W0, hW0⟩ : ∃ W0, wm.alloc (.cells #[.string ⟨#[]⟩, .bool false, .int .u8 v.kind, .string v.text, .slice la v.list.length lc, .slice ka v.keys.length kc] 75) = W0 := ⟨_, rfl⟩
  rw [hW0] at hb3 hBw hbox hp0 hz3 ⊢
  clear hW0 y0 y1 y2 y3 hb3
  have hv1 := HV.out.keep (Keeps.of_below hBw fun b h _ => h)
  have hgath0 : Gath w [] W0 := ⟨⟨.slice none 0 0, .slice none 0 0, hp0, World.ownsRow_nil _ _ _ _, World.ownsRow_nil _ _ _ _⟩, hBw⟩
  refine wpIn_rangeFunc_ownH hro (by omega) (gf := 64) (lb := #[.pointer (some ⟨wm.heap.size, 0, none⟩)]) rfl trivial (enters_of Try.func64 (by kernel_rfl) rfl)
    (each_stops (6 - 1) w.heap.size wm.heap.size 256 ⟨⟨#[]⟩, false, v, la, lc, ka, kc, 0⟩ W0 hbox HM.out HWT.out hv1 hBw.size) (fun h k => KE.trans h k) (KE.putObj hBw.size) (Below.refl _ _) (fun _ => rfl)
    (Gath w) (fun _ _ _ => False) (gath_own w _ hBw.size) (fun _ _ _ _ _ hs _ _ => hs) hgath0
    (fun (x : Alp) a' W => ∃ Bx, w.heap.size + 2 ≤ Bx ∧ Lies W Bx 75 #[.string x.1.1.key, .bool x.1.1.keyed, .int .u8 x.1.1.val.kind, .string x.1.1.val.text, .slice x.1.1.la x.1.1.val.list.length x.1.1.lc, .slice x.1.1.ka x.1.1.val.keys.length x.1.1.kc] ∧
      a' = { tmps := #[.agg #[.int .u8 v.kind, .string v.text, .slice la v.list.length lc, .slice ka v.keys.length kc], .pointer (some ⟨w.heap.size, 0, none⟩), .pointer (some ⟨w.heap.size + 1, 0, none⟩), .bool false, .pointer (some ⟨Bx, 0, none⟩), .int .i64 x.1.2,
        .agg #[.int .u8 v.kind, .string v.text, .slice la v.list.length lc, .slice ka v.keys.length kc], .bool true, .bool false, undef, .agg #[.int .u8 v.kind, .string v.text, .slice la v.list.length lc, .slice ka v.keys.length kc],
        .agg #[.string ⟨#[]⟩, .bool false, .int .u8 v.kind, .string v.text, .slice la v.list.length lc, .slice ka v.keys.length kc], .func (.func 64) #[] #[.pointer (some ⟨wm.heap.size, 0, none⟩)],
        .agg #[.string x.1.1.key, .bool x.1.1.keyed, .int .u8 x.1.1.val.kind, .string x.1.1.val.text, .slice x.1.1.la x.1.1.val.list.length x.1.1.lc, .slice x.1.1.ka x.1.1.val.keys.length x.1.1.kc], .int .i64 x.1.2,
        undef, undef, undef, undef, undef, undef, undef, undef, undef, undef, undef, undef, undef, undef, undef, undef, undef, undef, undef, undef, undef, undef, undef, undef, undef, undef, undef, undef, undef, undef, undef, undef, undef, undef, undef, undef], defers := [] }) ?hAx ?assign ?body ?done ?stop
  case hAx =>
    rintro x a' _ W W' row ⟨Bx, hx1, hx2, hx3⟩ hg hr
    refine ⟨Bx, hx1, hx2.grown hg (fun e => ?_), hx3⟩
    obtain ⟨_, o, ho, hc⟩ := hr Bx e.symm
    rw [show W.heap[Bx]? = _ from hx2] at ho
    injection ho with ho
    subst ho
    cases hc
  case assign =>
    rintro l pre x W K hi hK
    have hsz := hi.2.size
    have hne : w.heap.size + 2 ≤ W.heap.size := by obtain ⟨⟨_, _, h, _⟩, _⟩ := hi; have := h.lt; omega
    gi_wp2
    refine hK _ _ ((KeepsOthers.alloc _ _).from _) (KE.of_ext hsz ((Below.refl _ W).alloc (Nat.le_refl _) _)) ?_ ⟨W.heap.size, hne, Lies.new W _ _, rfl⟩
    obtain ⟨⟨v1, v2, h1, h2, h3⟩, h4⟩ := hi
    exact ⟨⟨v1, v2, h1.alloc _, h2.alloc _, h3.alloc _⟩, h4.alloc hsz _⟩
  case body =>
    rintro l pre x a' W hl ⟨r, hr⟩ ⟨⟨v1, v2, hp, ho1, ho2⟩, hB⟩ ⟨Bx, hBx, hbx, rfl⟩ hlt
    have hN := postE_le (⟨⟨#[]⟩, false, v, la, lc, ka, kc, 0⟩ : En).con
    have hN2 : pre.length ≤ 16777216 := by
      have h1 := HWT.out
      have h2 : (⟨⟨#[]⟩, false, v, la, lc, ka, kc, 0⟩ : En).con.2.2 = v := rfl
      rw [h2] at hN
      omega
    clear hN hlt
    obtain ⟨a1, c1, rfl, hc1⟩ := own_slice ho1
    obtain ⟨a2, c2, rfl, hc2⟩ := own_slice ho2
    obtain ⟨⟨en, inn⟩, hx⟩ := x
    dsimp only at hbx hx ⊢
    have p0 : W.cell? ⟨w.heap.size + 1, 0, none⟩ = some (.slice a1 pre.length c1) := hp.cell 0
    have p1 : W.cell? ⟨w.heap.size + 1, 1, none⟩ = some (.slice a2 pre.length c2) := hp.cell 1
    have hne : w.heap.size + 2 ≤ W.heap.size := hp.lt
    have hgs := hB.size
    have HP := Lib.hid hp
    have HO1 := Lib.hid ho1
    have HO2 := Lib.hid ho2
    have HB := Lib.hid hB
    have HBX := Lib.hid hbx
    clear hp ho1 ho2 hB hbx
    gi_wp2_with (first
      | (gi_at_builtin; refine wpListIn_app _ rfl elInt (.tmp 16) (.tmp 22) rfl (w.heap.size + 2) _ pre.length (intCells (leftsOf 0 (pre.map projA))) rfl (HO2.out.alloc (.cells #[.int .i64 ((pre.length : Int) - (inn : Int))] 3)) (fun _ => True) (some ⟨W.heap.size, 0, none⟩) 1 1 (intCells [(pre.length : Int) - (inn : Int)]) rfl rfl (At.new W (intCells [(pre.length : Int) - (inn : Int)]) 3 trivial) (intCells_one _) (by omega) (by simp; omega) ?_; intro v3 W2 hown2 hg2 _; obtain ⟨a3, c3, rfl, hc3⟩ := own_slice hown2; have hne2 : some (w.heap.size + 1) ≠ (Value.slice a2 pre.length c2).ownBlock := (fun e => by have := (World.ownsRow.lt HO2.out _ e.symm).1; omega); have HP2 := Lib.hid ((HP.out.alloc (.cells #[.int .i64 ((pre.length : Int) - (inn : Int))] 3)).grown hg2 hne2); have q0 : W2.cell? ⟨w.heap.size + 1, 0, none⟩ = some (.slice a1 pre.length c1) := HP2.out.cell 0; have q1 : W2.cell? ⟨w.heap.size + 1, 1, none⟩ = some (.slice a2 pre.length c2) := HP2.out.cell 1; have q1f := HP2.out.frozen 1; have q0f := HP2.out.frozen 0; have hbne : some Bx ≠ (Value.slice a2 pre.length c2).ownBlock := (fun e => by obtain ⟨_, cs, hc⟩ := own_row HO2.out e.symm; have h9 : W.heap[Bx]? = _ := HBX.out; rw [hc] at h9; injection h9 with h9; injection h9 with _ h9; revert h9; decide); have HBX2 := Lib.hid ((HBX.out.alloc (.cells #[.int .i64 ((pre.length : Int) - (inn : Int))] 3)).grown hg2 hbne); have b0 : W2.cell? ⟨Bx, 0, none⟩ = some (.string en.key) := HBX2.out.cell 0; have b1 : W2.cell? ⟨Bx, 1, none⟩ = some (.bool en.keyed) := HBX2.out.cell 1; have b2 : W2.cell? ⟨Bx, 2, none⟩ = some (.int .u8 en.val.kind) := HBX2.out.cell 2; have b3 : W2.cell? ⟨Bx, 3, none⟩ = some (.string en.val.text) := HBX2.out.cell 3; have hbsz : Bx < W2.heap.size := HBX2.out.lt; have hpsz : w.heap.size + 1 < W2.heap.size := HP2.out.lt; have HO3 := Lib.hid hown2; have HG2 := Lib.hid hg2; have HO4 := Lib.hid (ownsRow_setCell_below ((HO1.out.alloc (.cells #[.int .i64 ((pre.length : Int) - (inn : Int))] 3)).kept hg2 (own_types HO1.out HO2.out (by decide))) (a := ⟨w.heap.size + 1, 1, none⟩) (by simp) (.slice a3 (pre.length + 1) c3)); clear hown2 hg2 hne2 hbne)
      | (gi_at_builtin; (refine wpListIn_app _ rfl elLbl (.tmp 26) (.tmp 38) rfl (w.heap.size + 2) _ pre.length (lblCells ((pre.map projA).map Prod.fst)) rfl (HO4.out.alloc (.cells #[.bool en.keyed, .string en.key, .int .u8 en.val.kind, .string en.val.text] 46)) (fun _ => True) (some ⟨W2.heap.size, 0, none⟩) 1 1 (lblCell ⟨en.keyed, en.key, en.val.kind, en.val.text⟩) rfl rfl (At.new_at (by simp) (lblCell ⟨en.keyed, en.key, en.val.kind, en.val.text⟩) 46 trivial) (lblCell_one _) (by omega) (by simp; omega) ?_); intro v5 W5 hown5 hg5 _; obtain ⟨a5, c5, rfl, hc5⟩ := own_slice hown5; have hne5 : some (w.heap.size + 1) ≠ (Value.slice a1 pre.length c1).ownBlock := (fun e => by have := (World.ownsRow.lt HO1.out _ e.symm).1; omega); have HP5 := Lib.hid (((HP2.out.set 1 (.slice a3 (pre.length + 1) c3)).alloc (.cells #[.bool en.keyed, .string en.key, .int .u8 en.val.kind, .string en.val.text] 46)).grown hg5 hne5); have r0 : W5.cell? ⟨w.heap.size + 1, 0, none⟩ = some (.slice a1 pre.length c1) := HP5.out.cell 0; have r0f := HP5.out.frozen 0; have hpsz5 : w.heap.size + 1 < W5.heap.size := HP5.out.lt; have HO5 := Lib.hid hown5; have HG5 := Lib.hid hg5; clear hown5 hg5 hne5))
    have hO3a := (World.ownsRow.alloc (ownsRow_setCell_below HO3.out (a := ⟨w.heap.size + 1, 1, none⟩) (by simp) (.slice a3 (pre.length + 1) c3)) (.cells #[.bool en.keyed, .string en.key, .int .u8 en.val.kind, .string en.val.text] 46)).kept HG5.out (own_types (World.ownsRow.alloc (ownsRow_setCell_below HO3.out (a := ⟨w.heap.size + 1, 1, none⟩) (by simp) (.slice a3 (pre.length + 1) c3)) (.cells #[.bool en.keyed, .string en.key, .int .u8 en.val.kind, .string en.val.text] 46)) (World.ownsRow.alloc HO4.out (.cells #[.bool en.keyed, .string en.key, .int .u8 en.val.kind, .string en.val.text] 46)) (by decide))
    have hge : GE w.heap.size W (W5.setCell ⟨w.heap.size + 1, 0, none⟩ (.slice a5 (pre.length + 1) c5)) := by
      have e1 := GE.alloc W hgs (.cells #[.int .i64 ((pre.length : Int) - (inn : Int))] 3)
      have e2 := e1.trans (GE.app (n₀ := w.heap.size) (HO2.out.alloc (.cells #[.int .i64 ((pre.length : Int) - (inn : Int))] 3)) HG2.out (by simp; omega) (by omega) (by decide))
      have e3 := e2.trans (GE.set W2 (by omega) (b := w.heap.size + 1) 1 (.slice a3 (pre.length + 1) c3) (by omega) HP2.out (by decide))
      have e4 := e3.trans (GE.alloc _ (by simp; omega) (.cells #[.bool en.keyed, .string en.key, .int .u8 en.val.kind, .string en.val.text] 46))
      have e5 := e4.trans (GE.app (n₀ := w.heap.size) (World.ownsRow.alloc HO4.out (.cells #[.bool en.keyed, .string en.key, .int .u8 en.val.kind, .string en.val.text] 46)) HG5.out (by simp; omega) (by omega) (by decide))
      exact e5.trans (GE.set W5 (by omega) (b := w.heap.size + 1) 0 (.slice a5 (pre.length + 1) c5) (by omega) HP5.out (by decide))
    refine ⟨hge.2.from _, hge.1, ⟨.slice a5 (pre.length + 1) c5, .slice a3 (pre.length + 1) c3, HP5.out.set 0 _, ?_, ?_⟩, HB.out.trans hge.1.1⟩
    · have h := ownsRow_setCell_below HO5.out (a := ⟨w.heap.size + 1, 0, none⟩) (by simp) (.slice a5 (pre.length + 1) c5)
      simp only [List.map_append, List.map_cons, List.map_nil, List.length_append, List.length_singleton, lblCells_append]
      have e : lblCells [(projA ⟨(en, inn), hx⟩).1] = lblCell ⟨en.keyed, en.key, en.val.kind, en.val.text⟩ := by simp [lblCells, projA, lblOf, En.con]
      rw [e]
      exact h
    · have h := ownsRow_setCell_below hO3a (a := ⟨w.heap.size + 1, 0, none⟩) (by simp) (.slice a5 (pre.length + 1) c5)
      simp only [List.map_append, List.map_cons, List.map_nil, List.length_append, List.length_singleton, leftsOf_snoc, intCells_append, List.length_map, Nat.zero_add]
      exact h
  case done =>
    rintro D ys W hD hys hG hK
    obtain ⟨⟨v1, v2, hp, ho1, ho2⟩, hB⟩ := hG
    have hpost : ys.map projA = v.post := hys
    have hlen : ys.length = v.labels.length := by
      have h := congrArg List.length hpost
      rw [List.length_map] at h
      unfold V.labels
      rw [List.length_map]; exact h
    have hlen2 : v.left.length = v.labels.length := by unfold V.left V.labels; rw [leftsOf_length, List.length_map]
    rw [hpost, hlen] at ho1 ho2
    have ho1' : W.ownsRow (w.heap.size + 2) 46 4 v1 v.labels.length (lblCells v.labels) := ho1
    have ho2' : W.ownsRow (w.heap.size + 2) 3 1 v2 v.labels.length (intCells v.left) := ho2
    obtain ⟨a1, c1, rfl, hc1⟩ := own_slice ho1'
    obtain ⟨a2, c2, rfl, hc2⟩ := own_slice ho2'
    have hN2 : v.labels.length ≤ 16777216 := by
      have h1 := HWT.out
      have h2 := postE_le (ByteArray.empty, false, v)
      have h3 : v.labels.length = (postE (ByteArray.empty, false, v)).length := by unfold V.labels V.post; rw [List.length_map]
      have h4 : (ByteArray.empty, false, v).2.2 = v := rfl
      rw [h4] at h2
      omega
    have hR : ∀ W' : World, Below W.heap.size W W' → Hid (Calls Try.prog 46 #[.slice a2 v.labels.length c2] W' fun e w' => ∃ a', e = .returned (.slice a' (rootsOf v.left).length (rootsOf v.left).length) ∧
        AtW (fun b => W'.heap.size ≤ b) w' a' (intCells (rootsOf v.left)) ∧ Below W'.heap.size W' w') := by
      intro W' hb
      have h := roots_any (fun _ => True) a2 c2 v.left W' (((own_atW ho2').at_.mono (fun _ _ _ => trivial)).keep (Keeps.of_ext hb)) (by omega) (left_fits v)
      rw [hlen2] at h
      exact h
    have p0 : W.cell? ⟨w.heap.size + 1, 0, none⟩ = some (.slice a1 v.labels.length c1) := hp.cell 0
    have p1 : W.cell? ⟨w.heap.size + 1, 1, none⟩ = some (.slice a2 v.labels.length c2) := hp.cell 1
    have p2 : W.cell? ⟨w.heap.size + 1, 2, none⟩ = some (.slice none 0 0) := hp.cell 2
    have p0f := hp.frozen 0
    have p1f := hp.frozen 1
    have p2f := hp.frozen 2
    have hpl := hp.lt
    have HP := Lib.hid hp
    have HO1 := Lib.hid ho1'
    have HO2 := Lib.hid ho2'
    have HB := Lib.hid hB
    have HK := Lib.hid hK
    clear hp ho1 ho2 ho1' ho2' hB hK hys hpost hlen
    have hfin : ∀ (w5 : World) (a3 : Option Addr), AtW (fun b => W.drew.heap.size ≤ b) w5 a3 (intCells (rootsOf v.left)) → Below W.drew.heap.size W.drew w5 → ∀ act : Act, act.tmps.getD 2 undef = .pointer (some ⟨w.heap.size + 1, 0, none⟩) → act.tmps.getD 3 undef = .bool true → act.defers = [{ target := .collected D, args := #[] }] →
        bodyPostM Fence.wide 6 Try.prog Try.f15 (fun e w' => OfRes v w e w') Exit.ret act (((w5.setCell ⟨w.heap.size + 1, 0, none⟩ (.slice a1 v.labels.length v.labels.length)).setCell ⟨w.heap.size + 1, 1, none⟩ (.slice a2 v.labels.length v.labels.length)).setCell ⟨w.heap.size + 1, 2, none⟩ (.slice a3 (rootsOf v.left).length (rootsOf v.left).length)) := by
      intro w5 a3 hra hb5 act h2 h3 hd
      have hdlt : D < W.heap.size := (Array.getElem?_eq_some_iff.1 HK.out).1
      have hD5 : w5.heap[D]? = some (.deferred (some [])) := (hb5.block D hdlt).trans HK.out
      have hko : ∀ (W1 : World) (i : Nat) (u : Value), W1.heap[D]? = some (.deferred (some [])) → (W1.setCell ⟨w.heap.size + 1, i, none⟩ u).heap[D]? = some (.deferred (some [])) := fun W1 i u h => (KeepsOthers.setCell W1 _ u).same D _ h rfl
      have hD6 := hko _ 2 (.slice a3 (rootsOf v.left).length (rootsOf v.left).length) (hko _ 1 (.slice a2 v.labels.length v.labels.length) (hko _ 0 (.slice a1 v.labels.length v.labels.length) hD5))
      have hL := ((((Lies.drew HP.out).ext hb5).set 0 (.slice a1 v.labels.length v.labels.length)).set 1 (.slice a2 v.labels.length v.labels.length)).set 2 (.slice a3 (rootsOf v.left).length (rootsOf v.left).length)
      have hpl5 : W.heap.size ≤ w5.heap.size := hb5.size
      have hB5 : Below w.heap.size w w5 := HB.out.trans ((Below.refl w.heap.size W).drew.trans (hb5.mono (by have := HB.out.size; simpa using this)))
      have hfar : ∀ b, b ≠ w.heap.size + 1 → b ≠ D → ((((w5.setCell ⟨w.heap.size + 1, 0, none⟩ (.slice a1 v.labels.length v.labels.length)).setCell ⟨w.heap.size + 1, 1, none⟩ (.slice a2 v.labels.length v.labels.length)).setCell ⟨w.heap.size + 1, 2, none⟩ (.slice a3 (rootsOf v.left).length (rootsOf v.left).length)).putObj D (.deferred none)).heap[b]? = w5.heap[b]? := fun b h1 h2 => by
        rw [World.putObj_heap_other h2, Below.heap_setCell _ _ _ b h1, Below.heap_setCell _ _ _ b h1, Below.heap_setCell _ _ _ b h1]
      show LeavesInM Fence.wide 6 Try.prog Try.f15 act.tmps _ act.defers .returning _
      rw [hd]
      refine ⟨by simp, .inl ⟨_, _, rfl, run_takeDeferred hD6, ?_⟩⟩
      have hne : (some (w.heap.size + 1) : Option Nat) ≠ some D := fun e => by
        injection e with e
        have h9 : W.heap[w.heap.size + 1]? = _ := HP.out
        rw [e, HK.out] at h9
        cases h9
      refine ⟨_, ret2 rfl stPost h2 h3 (hL.grown (grownBy_putObj' _ D (.deferred none)) hne), a1, a2, a3, by rw [hlen2]; rfl, ?_, ?_, ?_, ?_⟩
      · refine ((own_atW HO1.out).keep (fun b hS hb => (hfar b (by omega) (fun e => ?_)).trans (hb5.block b hb))).mono (fun b _ h => by omega)
        obtain ⟨_, cs, hc⟩ := own_row HO1.out hS.2
        rw [e, HK.out] at hc
        cases hc
      · refine ((own_atW HO2.out).keep (fun b hS hb => (hfar b (by omega) (fun e => ?_)).trans (hb5.block b hb))).mono (fun b _ h => by omega)
        obtain ⟨_, cs, hc⟩ := own_row HO2.out hS.2
        rw [e, HK.out] at hc
        cases hc
      · exact (hra.keep (fun b (hS : W.heap.size ≤ b) hb => hfar b (by omega) (by omega))).mono (fun b _ (h : W.heap.size ≤ b) => Nat.le_trans HB.out.size h)
      · exact (((hB5.setCell (by simp) _).setCell (by simp) _).setCell (by simp) _).grown (grownBy_putObj' _ D _) (by simpa using hB5.size) (fun k e => by injection e with e; subst e; exact Nat.le_trans hBw.size hD)
    gi_wp2
    refine wpIn_wide.2 ?_
    refine wp_region_noPanic ?_
    go_region_law (first | (go_simp; go_at_call 44; refine (clipL_any a1 v.labels.length c1 _ hc1 (by omega)).mono ?_; rintro e w' ⟨rfl, rfl⟩) | (go_simp; go_at_call 45; refine (clipI_any a2 v.labels.length c2 _ hc2 (by omega)).mono ?_; rintro e w' ⟨rfl, rfl⟩) | (go_simp; go_at_call 46; refine ((hR W.drew (Below.refl _ W).drew).out).mono ?_; rintro e w5 ⟨a3, rfl, hra, hb5⟩; have HRA := Lib.hid hra; have HB5 := Lib.hid hb5; have hLb5 := (Lies.drew HP.out).ext hb5; have r0 : w5.cell? ⟨w.heap.size + 1, 0, none⟩ = some (.slice a1 v.labels.length c1) := hLb5.cell 0; have r1 : w5.cell? ⟨w.heap.size + 1, 1, none⟩ = some (.slice a2 v.labels.length c2) := hLb5.cell 1; have r2 : w5.cell? ⟨w.heap.size + 1, 2, none⟩ = some (.slice none 0 0) := hLb5.cell 2; have r0f := hLb5.frozen 0; have r1f := hLb5.frozen 1; have r2f := hLb5.frozen 2; have hpl5 := hLb5.lt; clear hLb5 hra hb5))
    all_goals refine NoPanic.normal ?_
    all_goals
      gi_wp2
      exact hfin w5 a3 HRA.out HB5.out _ rfl rfl rfl
  case stop =>
    rintro D c pre W _ _ h _
    exact h.elim
end Go.Proofs.Ytfajbkofbjcbbaa
