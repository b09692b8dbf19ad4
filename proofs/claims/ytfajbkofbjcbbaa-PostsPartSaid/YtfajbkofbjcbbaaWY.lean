/- Walk: posts.entries. -/
import Derived.Test.YtfajbkofbjcbbaaWX
import Derived.Test.YtfajbkofbjcbbaaWI
import Derived.Test.YtfajbkofbjcbbaaWO
namespace Go.Proofs.Ytfajbkofbjcbbaa
open Go.RowKit Go.Sort Go.Shelf

theorem elEn : Elem Try.prog 117 75 (.agg #[.string .empty, .bool false, .int .u8 0, .string .empty, .slice none 0 0, .slice none 0 0]) 6 96 := by
  obtain ⟨i, h1, h2, h3, h4⟩ := info_parts (P := Try.prog) (e := 75) (z := .agg #[.string .empty, .bool false, .int .u8 0, .string .empty, .slice none 0 0, .slice none 0 0]) (size := 6) (bytes := 96) (by kernel_rfl)
  exact ⟨Try.underlying117, ⟨i, h1, h2, h3, h4⟩, rfl, by decide, by decide⟩

def En.con (e : En) : Ent0 := (e.key, e.keyed, e.val)

/-- what has been laid of a value's entries -/
def Laid (S : Nat → Prop) (w : World) (v : V) (j : Nat) (done : List En) : Prop :=
  done.length = j ∧ done.map En.con = v.base.take j ∧ (done.Pairwise fun x y => x.num < y.num) ∧ (∀ e ∈ done, e.num < j) ∧ ∀ e ∈ done, IsV S w e.val e.vcells
theorem Laid.nil (S : Nat → Prop) (w : World) (v : V) : Laid S w v 0 [] := ⟨rfl, by simp, List.Pairwise.nil, by simp, by simp⟩
theorem Laid.snoc {S : Nat → Prop} {w : World} {v : V} {j : Nat} {done : List En} (h : Laid S w v j done) {e : En} (he : e.num = j) (hb : v.base[j]? = some e.con) (hv : IsV S w e.val e.vcells) : Laid S w v (j + 1) (done ++ [e]) := by
  obtain ⟨h1, h2, h3, h4, h5⟩ := h
  refine ⟨by simp [h1], ?_, ?_, ?_, ?_⟩
  · rw [List.map_append, h2, List.take_add_one, hb]; rfl
  · rw [List.pairwise_append]
    refine ⟨h3, by simp, fun x hx y hy => ?_⟩
    simp at hy; subst hy
    have := h4 x hx; omega
  · intro x hx
    rcases List.mem_append.1 hx with hx | hx
    · have := h4 x hx; omega
    · simp at hx; subst hx; omega
  · intro x hx
    rcases List.mem_append.1 hx with hx | hx
    · exact h5 x hx
    · simp at hx; subst hx; exact hv
/-- what entries hands back -/
def EntRes (S : Nat → Prop) (v : V) (w : World) (e : Ending) (w' : World) : Prop :=
  ∃ (g : Nat) (es : List En), e = .returned (.slice (some ⟨g, 0, none⟩) v.list.length v.list.length) ∧ es.length = v.list.length ∧ Ents w' g es ∧ es.map En.con = v.ents ∧ (∀ x ∈ es, IsV S w' x.val x.vcells) ∧ w.heap.size ≤ g ∧ Below w.heap.size w w'

theorem base8 (t : ByteArray) (l : List V) (ks : List ByteArray) (j : Nat) (hj : j < l.length) (hk : j < ks.length) : (V.mk 8 t l ks).base[j]? = some (ks[j], true, l[j]) := by
  simp [V.base, List.getElem?_zip_eq_some, hj, hk]
theorem base0 (k : Nat) (hk : k ≠ 8) (t : ByteArray) (l : List V) (ks : List ByteArray) (j : Nat) (hj : j < l.length) : (V.mk k t l ks).base[j]? = some (.empty, false, l[j]) := by
  simp [V.base, hk, hj]
theorem base_length (v : V) (h8 : v.kind = 8 → v.keys.length = v.list.length) : v.base.length = v.list.length := by
  obtain ⟨k, t, l, ks⟩ := v
  simp only [V.base, V.list, V.kind, V.keys] at *
  split
  · simp; have := h8 ‹_›; omega
  · simp

theorem Ents.of_set {w : World} {g i : Nat} {es : List En} (hi : i < es.length) (e : En) (cs : Array Value) (hL : Lies w g 75 cs) (hs : cs.size = es.length * 6) (h1 : ∀ c, c < 6 → cs[i * 6 + c]? = e.cells[c]?) (h2 : ∀ t, t / 6 ≠ i → cs[t]? = (entFlat es)[t]?) : Ents w g (es.set i e) := by
  rw [entFlat_set es i hi e cs hs h1 h2] at hL
  exact hL
theorem Ents.put {w : World} {g : Nat} {es : List En} (h : Ents w g es) {i : Nat} (hi : i < es.length) (e : En) (h0 : es[i].key = e.key) (h1 : es[i].keyed = e.keyed) :
    Ents ((((w.setCell ⟨g, i * 6 + 2, none⟩ (.int .u8 e.val.kind)).setCell ⟨g, i * 6 + 2 + 1, none⟩ (.string e.val.text)).setCell ⟨g, i * 6 + 2 + 2, none⟩ (.slice e.la e.val.list.length e.lc)).setCell ⟨g, i * 6 + 2 + 3, none⟩ (.slice e.ka e.val.keys.length e.kc)) g (es.set i e) := by
  have hL := (((Lies.set h (i * 6 + 2) (.int .u8 e.val.kind)).set (i * 6 + 2 + 1) (.string e.val.text)).set (i * 6 + 2 + 2) (.slice e.la e.val.list.length e.lc)).set (i * 6 + 2 + 3) (.slice e.ka e.val.keys.length e.kc)
  have hz := entFlat_size es
  refine Ents.of_set hi e _ hL (by simp [hz]) (fun c hc => ?_) (fun t ht => ?_)
  · have hg := fun c (hc : c < 6) => entFlat_get es i c hi hc
    match c, hc with
    | 0, _ =>
      have := hg 0 (by omega)
      simp only [Array.getElem?_setIfInBounds]
      rw [if_neg (by omega), if_neg (by omega), if_neg (by omega), if_neg (by omega), this]
      simp [En.cells, h0]
    | 1, _ =>
      have := hg 1 (by omega)
      simp only [Array.getElem?_setIfInBounds]
      rw [if_neg (by omega), if_neg (by omega), if_neg (by omega), if_neg (by omega), this]
      simp [En.cells, h1]
    | 2, _ => simp [Array.getElem?_setIfInBounds, En.cells, hz]; omega
    | 3, _ => simp [Array.getElem?_setIfInBounds, En.cells, hz]; omega
    | 4, _ => simp [Array.getElem?_setIfInBounds, En.cells, hz]; omega
    | 5, _ => simp [Array.getElem?_setIfInBounds, En.cells, hz]; omega
  · simp only [Array.getElem?_setIfInBounds]
    rw [if_neg (by omega), if_neg (by omega), if_neg (by omega), if_neg (by omega)]
theorem Ents.putKey {w : World} {g : Nat} {es : List En} (h : Ents w g es) {i : Nat} (hi : i < es.length) (key : ByteArray) :
    Ents ((w.setCell ⟨g, i * 6, none⟩ (.string key)).setCell ⟨g, i * 6 + 1, none⟩ (.bool true)) g (es.set i { es[i] with key := key, keyed := true }) := by
  have hL := (Lies.set h (i * 6) (.string key)).set (i * 6 + 1) (.bool true)
  have hz := entFlat_size es
  refine Ents.of_set hi { es[i] with key := key, keyed := true } _ hL (by simp [hz]) (fun c hc => ?_) (fun t ht => ?_)
  · have hg := fun c (hc : c < 6) => entFlat_get es i c hi hc
    match c, hc with
    | 0, _ => simp [Array.getElem?_setIfInBounds, En.cells, hz]; omega
    | 1, _ => simp [Array.getElem?_setIfInBounds, En.cells, hz]; omega
    | 2, _ =>
      have := hg 2 (by omega)
      simp only [Array.getElem?_setIfInBounds]
      rw [if_neg (by omega), if_neg (by omega), this]
      simp [En.cells]
    | 3, _ =>
      have := hg 3 (by omega)
      simp only [Array.getElem?_setIfInBounds]
      rw [if_neg (by omega), if_neg (by omega), this]
      simp [En.cells]
    | 4, _ =>
      have := hg 4 (by omega)
      simp only [Array.getElem?_setIfInBounds]
      rw [if_neg (by omega), if_neg (by omega), this]
      simp [En.cells]
    | 5, _ =>
      have := hg 5 (by omega)
      simp only [Array.getElem?_setIfInBounds]
      rw [if_neg (by omega), if_neg (by omega), this]
      simp [En.cells]
  · simp only [Array.getElem?_setIfInBounds]
    rw [if_neg (by omega), if_neg (by omega)]
theorem rest_get (done : List En) (n j : Nat) (hd : done.length = j) (_hj : j < n) (h : j < (done ++ List.replicate (n - j) (default : En)).length) : (done ++ List.replicate (n - j) (default : En))[j] = default := by
  rw [List.getElem_append_right (by omega), List.getElem_replicate]
theorem rest_set (done : List En) (n j : Nat) (hd : done.length = j) (hj : j < n) (e : En) : (done ++ List.replicate (n - j) (default : En)).set j e = done ++ [e] ++ List.replicate (n - (j + 1)) default := by
  rw [List.set_append_right _ _ (by omega), show n - j = (n - (j + 1)) + 1 by omega, List.replicate_succ, hd, Nat.sub_self, List.set_cons_zero]
  simp

set_option maxRecDepth 100000 in
set_option maxHeartbeats 1000000 in
theorem entries_any (S : Nat → Prop) (k : Nat) (t : ByteArray) (l : List V) (ks : List ByteArray) (la ka : Option Addr) (lc kc : Nat) (cells : List Value) (w : World) (hl : IsVs S w l cells) (hla : At S w la cells) (hka : At S w ka (strCells ks))
    (hlen : l.length ≤ 16777216) (_hklen : ks.length ≤ 16777216) (h8 : k = 8 → ks.length = l.length) :
    Calls Try.prog 84 #[.agg #[.int .u8 k, .string t, .slice la l.length lc, .slice ka ks.length kc]] w fun e w' => EntRes S (.mk k t l ks) w e w' := by
  have hmk : ∀ u : World, (Instr.makeSlice 117 (.int .i64 (l.length : Int)) (.int .i64 (l.length : Int))).run Try.prog u = .ok (.slice (some ⟨u.heap.size, 0, none⟩) l.length l.length) (u.alloc (.cells (entFlat (List.replicate l.length default)) 75)) := fun u => by
    have h := run_mk (P := Try.prog) u elEn .i64 .i64 l.length l.length (Nat.le_refl _) (by omega)
    rwa [entFlat_made] at h
  have HL := Lib.hid hl
  have HLA := Lib.hid hla
  have HKA := Lib.hid hka
  have H8 := Lib.hid h8
  have HL2 := Lib.hid (lies_two w #[.int .u8 k, .string t, .slice la l.length lc, .slice ka ks.length kc] 26 (entFlat (List.replicate l.length default)) 75)
  clear hl hla hka h8
  go_enter Try.func84, Try.ntmps84
  go_wp2
  go_loopw [13] (fun i wr => ∃ (j : Nat) (done : List En), j ≤ l.length ∧ i = .int .i64 j ∧ Hid (Laid S w (.mk k t l ks) j done) ∧ Ents wr (w.heap.size + 1) (done ++ List.replicate (l.length - j) default) ∧
      Lies wr w.heap.size 26 #[.int .u8 k, .string t, .slice la l.length lc, .slice ka ks.length kc] ∧ Below w.heap.size w wr) (fun i _ => l.length - (intOf i).toNat)
  case atStart => exact ⟨0, [], Nat.zero_le _, rfl, Laid.nil _ _ _, (by rw [List.nil_append, Nat.sub_zero]; exact HL2.out.2), HL2.out.1, ((Below.refl _ _).alloc (Nat.le_refl _) _).alloc (by simp) _⟩
  case round =>
    obtain ⟨j, done, hj, rfl, HD, hE, hLb, hBw⟩ := hrel
    have x0 : wr.cell? ⟨w.heap.size, 0, none⟩ = some (.int .u8 k) := hLb.cell 0
    have x3 : wr.cell? ⟨w.heap.size, 3, none⟩ = some (.slice ka ks.length kc) := hLb.cell 3
    have HE := Lib.hid hE
    have HLB := Lib.hid hLb
    have HBW := Lib.hid hBw
    by_cases hlt : j < l.length
    · obtain ⟨b, o, la', lc', ka', kc', ha, hSb, g0, g1, g2, g3, hv⟩ := HLA.out.getF HL.out hlt
      subst ha
      have hb : b < w.heap.size := World.block_lt_of_cell? w _ g0
      have y0 := (hBw.cell (p := ⟨b, o + j * 4, none⟩) hb).trans g0
      have y1 := (hBw.cell (p := ⟨b, o + j * 4 + 1, none⟩) hb).trans g1
      have y2 := (hBw.cell (p := ⟨b, o + j * 4 + 2, none⟩) hb).trans g2
      have y3 := (hBw.cell (p := ⟨b, o + j * 4 + 3, none⟩) hb).trans g3
      clear g0 g1 g2 g3
      have HV := Lib.hid hv
      have hsz := hE.lt
      have hd := HD.out.1
      have hlr : j < (done ++ List.replicate (l.length - j) (default : En)).length := by simp; omega
      have HLR := Lib.hid hlr
      have f := fun c => Lies.frozen hE c
      have f2 := f (j * 6 + 2)
      have f3 := f (j * 6 + 2 + 1)
      have f4 := f (j * 6 + 2 + 2)
      have f5 := f (j * 6 + 2 + 3)
      obtain ⟨z0, z1, z2, z3, z4, z5⟩ := hE.cells hlr
      rw [show j * 6 + 3 = j * 6 + 2 + 1 by omega] at z3
      rw [show j * 6 + 4 = j * 6 + 2 + 2 by omega] at z4
      rw [show j * 6 + 5 = j * 6 + 2 + 3 by omega] at z5
      have HOLD := Lib.hid (rest_get done l.length j hd hlt)
      generalize hgen : (done ++ List.replicate (l.length - j) (default : En))[j] = old at z0 z1 z2 z3 z4 z5
      clear f hv hd hE hLb hBw hgen hlr
      go_upto_region 5 with (fail)
      go_cut [] (fun wx => Ents wx (w.heap.size + 1) ((done ++ List.replicate (l.length - j) default).set j ⟨.empty, false, l[j], la', lc', ka', kc', j⟩) ∧
        Lies wx w.heap.size 26 #[.int .u8 k, .string t, .slice (some ⟨b, o, none⟩) l.length lc, .slice ka ks.length kc] ∧ Below w.heap.size w wx)
      case first =>
        go_wp2_with fail
        go_meet
        case rel =>
          have h1 := (HE.out.put HLR.out ⟨.empty, false, l[j], la', lc', ka', kc', j⟩ (by rw [HOLD.out _]; rfl) (by rw [HOLD.out _]; rfl))
          exact ⟨Lies.alloc h1 _, ((((HLB.out.far (by simp) _).far (by simp) _).far (by simp) _).far (by simp) _).alloc _,
            ((((HBW.out.setCell (by simp) _).setCell (by simp) _).setCell (by simp) _).setCell (by simp) _).alloc (by simp; omega) _⟩
      case rest =>
        obtain ⟨hE1, hL1, hB1⟩ := hcut
        clear x0 x3 y0 y1 y2 y3 z0 z1 z2 z3 z4 z5 f2 f3 f4 f5
        have x0 : wc.cell? ⟨w.heap.size, 0, none⟩ = some (.int .u8 k) := hL1.cell 0
        have x3 : wc.cell? ⟨w.heap.size, 3, none⟩ = some (.slice ka ks.length kc) := hL1.cell 3
        have HE1 := Lib.hid hE1
        have HL1 := Lib.hid hL1
        have HB1 := Lib.hid hB1
        have hsz1 := hE1.lt
        by_cases hk : k = 8
        · have hkl : ks.length = l.length := H8.out hk
          have hk2 : ((k : Int) == 8) = true := by simp; omega
          have hjk : j < ks.length := by omega
          obtain ⟨b2, o2, ha2, _, s0⟩ := HKA.out.getS hjk
          subst ha2
          have hb2 : b2 < w.heap.size := World.block_lt_of_cell? w _ s0
          have s1 := (hB1.cell (p := ⟨b2, o2 + j, none⟩) hb2).trans s0
          have f0 := Lies.frozen hE1 (j * 6)
          have f1 := Lies.frozen hE1 (j * 6 + 1)
          have hlr2 : j < ((done ++ List.replicate (l.length - j) (default : En)).set j ⟨.empty, false, l[j], la', lc', ka', kc', j⟩).length := by rw [List.length_set]; exact HLR.out
          have HLR2 := Lib.hid hlr2
          obtain ⟨z0, z1, z2, z3, z4, z5⟩ := hE1.cells hlr2
          rw [List.getElem_set_self] at z0 z1
          have HK := Lib.hid hk
          clear s0 hk hkl hE1 hL1 hB1 z2 z3 z4 z5 hlr2
          go_wp2
          go_roundw
          case rel =>
            have hd := HD.out.1
            refine ⟨j + 1, done ++ [⟨ks[j], true, l[j], la', lc', ka', kc', j⟩], by omega, by go_num, HD.out.snoc rfl (by rw [HK.out]; exact base8 t l ks j hlt hjk) HV.out, ?_, (HL1.out.far (by simp) _).far (by simp) _, (HB1.out.setCell (by simp) _).setCell (by simp) _⟩
            have h2 := HE1.out.putKey HLR2.out ks[j]
            rw [List.getElem_set_self, List.set_set, rest_set done l.length j hd hlt] at h2
            exact h2
          case measure => simp [intOf]; omega
        · have hk2 : ((k : Int) == 8) = false := by simp; omega
          have HK := Lib.hid hk
          clear hk hE1 hL1 hB1
          go_wp2
          go_roundw
          case rel =>
            have hd := HD.out.1
            refine ⟨j + 1, done ++ [(⟨.empty, false, l[j], la', lc', ka', kc', j⟩ : En)], by omega, by go_num, Lib.hid (HD.out.snoc (e := ⟨.empty, false, l[j], la', lc', ka', kc', j⟩) rfl (base0 k HK.out t l ks j hlt) HV.out), ?_, HL1.out, HB1.out⟩
            have h1 := HE1.out
            rw [rest_set done l.length j hd hlt] at h1
            exact h1
          case measure => simp [intOf]; omega
    · have hj2 : j = l.length := by omega
      have hd := HD.out
      rw [hj2] at hd
      have HD2 := Lib.hid hd
      have hE2 : Ents wr (w.heap.size + 1) done := by
        have h := HE.out
        rw [hj2, Nat.sub_self, List.replicate_zero, List.append_nil] at h
        exact h
      have hdl : done.length = l.length := hd.1
      have hcall := sortStable_any (w.heap.size + 1) done wr hE2 (by omega) hd.2.2.1
      rw [hdl] at hcall
      have HC := Lib.hid hcall
      clear hcall hE2 hd hdl hj2 hE hLb hBw
      go_wp2_with fail
      refine HC.out.mono ?_
      rintro e w2 ⟨rfl, hE3, hG⟩
      have HE3 := Lib.hid hE3
      have HG := Lib.hid hG
      clear hE3 hG
      go_wp2
      go_ret
      have hd := HD2.out
      have hB2 : Below w.heap.size w w2 := HBW.out.grownAt HG.out HBW.out.size (by omega)
      refine ⟨w.heap.size + 1, srtS ltE done, rfl, by rw [srtS_length]; exact hd.1, HE3.out, ?_, fun x hx => ?_, by omega, hB2⟩
      · rw [srtS_map En.con (lt := ltE) (lt' := lt0) (fun x y => rfl), hd.2.1]
        unfold V.ents
        rw [List.take_of_length_le]
        have := base_length (V.mk k t l ks) (fun h => H8.out h)
        rw [this]
        exact Nat.le_refl _
      · exact (hd.2.2.2.2 x ((srtS_perm ltE done).mem_iff.1 hx)).keep (Keeps.of_ext hB2)
end Go.Proofs.Ytfajbkofbjcbbaa
