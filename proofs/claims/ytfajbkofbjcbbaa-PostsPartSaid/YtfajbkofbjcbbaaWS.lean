/- Walks: the library's stable sort: symMerge where the right run is one element. -/
import Derived.Test.YtfajbkofbjcbbaaWR
namespace Go.Proofs.Ytfajbkofbjcbbaa
open Go.Shelf Go.RowKit Go.Lib Go.Sort
variable {P : Program} {α : Type} [Inhabited α]

theorem swp_comm (d : Array α) (i j : Nat) (h : i ≠ j) : swp d i j = swp d j i := by
  unfold swp; rw [Array.setIfInBounds_comm _ _ h]

set_option maxHeartbeats 4000000 in
set_option maxRecDepth 1000000 in
theorem symMerge_right (L : StL P) (k : Nat) (aE : ∀ w, (isAgg 75).run P w = .ok true w) (zE : ∀ w, (Go.sizeOf 75).run P w = .ok k w) (enc : α → List Value) (cf : α → α → Int) (hO : SWO (ltOf cf)) (g : Nat) (cb : Array Value) (blk off cap n : Nat) (d0 : Array α) (w0 w : World)
    (eg : ∀ args w, (callFunc g args).run P w = .ok (.enter g args) w) (hcmp : CmpLays P g cb enc k cf blk off n w0)
    (pre X post : List α) (y : α) (hX : Srt (ltOf cf) X) (hX2 : 2 ≤ X.length) (R : RowK enc k w0 blk off d0) (hs : d0.size = n) (hn : (pre ++ X ++ [y] ++ post).length = n) (S : SWK enc k w0 blk off (pre ++ X ++ [y] ++ post).toArray w) (hsz : n < 4611686018427387904)
    (a m b : Nat) (ha : a = pre.length) (hm : m = pre.length + X.length) (hb : b = pre.length + X.length + 1) :
    Calls P 112 #[.slice (some ⟨blk, off, none⟩) n cap, .int .i64 a, .int .i64 m, .int .i64 b, .func (.func g) #[] cb] w fun e w' => e = .returned (.tuple #[]) ∧ SWK enc k w0 blk off (pre ++ mrg (ltOf cf) X [y] ++ post).toArray w' := by
  have mixed := L.mixed; have t0 := L.t0; have a0 := L.a0; have z0 := L.z0; have v0 := L.v0; have t3 := L.t3; have a3 := L.a3; have z3 := L.z3; have v3 := L.v3; have t4 := L.t4; have a4 := L.a4; have z4 := L.z4; have v4 := L.v4; have t117 := L.t117; have a117 := L.a117; have z117 := L.z117; have v117 := L.v117
  have t132 := L.t132; have a132 := L.a132; have z132 := L.z132; have v132 := L.v132
  have u117 := run_underlying L.t117
  have u132 := run_underlying L.t132
  have u3 := run_underlying L.t3
  have S0 : Aside (SWK enc k w0 blk off (pre ++ X ++ [y] ++ post).toArray w) := S
  have HC : Aside _ := hcmp
  have hN : pre.length + X.length + 1 + post.length = n := by rw [← hn]; simp; omega
  have HE : Hid (a = pre.length ∧ m = a + X.length ∧ b = m + 1 ∧ pre.length + X.length + 1 + post.length = n) := ⟨ha, by omega, by omega, hN⟩
  -- the run is sorted
  have e0 : pre ++ X ++ [y] ++ post = pre ++ (X ++ (y :: post)) := by simp
  have hget : ∀ t (h1 : a ≤ t) (h2 : t < m), (pre ++ X ++ [y] ++ post).toArray[t]! = X[t - a]'(by omega) := fun t h1 h2 => by
    rw [e0, at_mid pre X (y :: post) t (by omega) (by omega)]
    congr 1; omega
  have hmono : ∀ s t, a ≤ s → s ≤ t → t < m → ltOf cf (pre ++ X ++ [y] ++ post).toArray[t]! (pre ++ X ++ [y] ++ post).toArray[s]! = false := fun s t h1 h2 h3 => by
    rw [hget t (by omega) h3, hget s h1 (by omega)]
    rcases Nat.eq_or_lt_of_le h2 with h | h
    · subst h; exact hO.irrefl _
    · exact List.pairwise_iff_getElem.1 hX _ _ (by omega) (by omega) (by omega)
  have hy : (pre ++ X ++ [y] ++ post).toArray[m]! = y := by
    have e : pre ++ X ++ [y] ++ post = (pre ++ X) ++ y :: post := by simp
    rw [e]; exact at_app (pre ++ X) y post m (by simp; omega)
  have hds : (pre ++ X ++ [y] ++ post).toArray.size = n := by simpa using hn
  have HM : Aside _ := hmono
  have HFIN : Hid (∀ i, a ≤ i → i ≤ m → (∀ t, a ≤ t → t < i → ltOf cf y (pre ++ X ++ [y] ++ post).toArray[t]! = false) → (∀ t, i ≤ t → t < m → ltOf cf y (pre ++ X ++ [y] ++ post).toArray[t]! = true) →
      mrg (ltOf cf) X [y] = X.take (i - a) ++ y :: X.drop (i - a)) := fun i h1 h2 h3 h4 => by
    have f1 : ∀ z ∈ X.take (i - a), ltOf cf y z = false := fun z hz => by
      obtain ⟨t, ht, rfl⟩ := List.getElem_of_mem hz
      simp at ht
      have := h3 (a + t) (by omega) (by omega)
      rw [hget (a + t) (by omega) (by omega)] at this
      rw [List.getElem_take]
      simpa only [Nat.add_sub_cancel_left] using this
    have f2 : ∀ z ∈ X.drop (i - a), ltOf cf y z = true := fun z hz => by
      obtain ⟨t, ht, rfl⟩ := List.getElem_of_mem hz
      simp at ht
      have := h4 (i + t) (by omega) (by omega)
      rw [hget (i + t) (by omega) (by omega)] at this
      rw [List.getElem_drop]
      simpa only [show i + t - a = i - a + t by omega] using this
    have s1 := mrg_split (ltOf cf) (X.take (i - a)) [y] (X.drop (i - a)) [] (fun z hz u hu => by simp at hu; subst hu; exact f2 z hz) (fun z _ u hu => by cases hu)
    have s2 := mrg_split (ltOf cf) (X.take (i - a)) [] [] [y] (fun z hz => by cases hz) (fun z hz u hu => by simp at hu; subst hu; exact f1 z hz)
    rw [List.take_append_drop, List.append_nil, mrg_nil_right] at s1
    rw [List.append_nil, List.nil_append, mrg_nil_right, mrg_nil_left] at s2
    rw [s1, s2]; simp
  obtain ⟨dk, hdk⟩ : ∃ dk, dk = (pre ++ X ++ [y] ++ post).toArray := ⟨_, rfl⟩
  rw [← hdk] at S0 HM hy hds HFIN
  have HDK : Hid (dk = (pre ++ X ++ [y] ++ post).toArray) := hdk
  have HX : Hid (dk[m]! = y) := hy
  have HDS : Hid (dk.size = n) := hds
  have hma : (((m : Int) - (a : Int)) == 1) = false := by simp; omega
  have hbm : (b : Int) - (m : Int) = 1 := by omega
  have hmn : m < n := by omega
  have ham : a ≤ m := by omega
  clear hcmp S hn hX hmono hy hds hdk ha hm hb hN hget e0 hX2
  go_enter L.f112, Try.ntmps112
  go_wp2
  go_loopg [14, 15] (m - a) (fun kx s14 s15 wr => ∃ i j : Nat, s14 = .int .i64 i ∧ s15 = .int .i64 j ∧ a ≤ i ∧ i ≤ j ∧ j ≤ m ∧ j - i ≤ kx ∧ Aside (SWK enc k w0 blk off dk wr) ∧
    Aside ((∀ t, a ≤ t → t < i → ltOf cf y dk[t]! = false) ∧ (∀ t, j ≤ t → t < m → ltOf cf y dk[t]! = true)))
  case atStart => exact ⟨a, m, rfl, rfl, Nat.le_refl _, ham, Nat.le_refl _, Nat.le_refl _, S0, (⟨fun t h1 h2 => by omega, fun t h1 h2 => by omega⟩ : (∀ t, a ≤ t → t < a → ltOf cf y dk[t]! = false) ∧ (∀ t, m ≤ t → t < m → ltOf cf y dk[t]! = true))⟩
  case round =>
    clear S0
    obtain ⟨i, j, rfl, rfl, hai, hij, hjm, hkx, S1, I⟩ := hrel
    by_cases hlt : i < j
    · obtain ⟨q, hq0⟩ : ∃ q, q = (i + j) / 2 := ⟨_, rfl⟩
      have hq : ((i : Int) + (j : Int)) / 2 = (q : Int) := by omega
      have hiq : i ≤ q := by omega
      have hqj : q < j := by omega
      have haq : a ≤ q := by omega
      have hqm : q < m := by omega
      have ba24 : (q : Int) < (n : Int) := by omega
      have bc24 : (m : Int) < (n : Int) := by omega
      have hltz : (i : Int) < (j : Int) := by omega
      obtain ⟨x24, hx24⟩ : ∃ x, x = dk[q]! := ⟨_, rfl⟩
      have hD := HDS.out
      have l24a := S1.out.ld R (by omega) P q (by omega)
      have l24b := S1.out.ld R (by omega) P m (by omega)
      rw [← hx24] at l24a
      rw [HX.out] at l24b
      have hc24 := S1.out.cmp HC.out (by omega) y x24
      have HX24 : Hid (x24 = dk[q]!) := hx24
      clear hx24 hq0 hD
      cases hL : ltOf cf y x24 with
      | true =>
        have hv24 : cf y x24 < 0 := of_decide_eq_true hL
        have hd24 : decide (cf y x24 < 0) = true := decide_eq_true hv24
        have HL : Hid (ltOf cf y x24 = true) := hL
        clear hL
        go_wp2_with fail
        go_quiet_grown (first | (go_at_fn g; refine Calls.grown_of (hc24 _ _)))
        have S2 : Aside (SWK enc k w0 blk off dk (grow (wr.drewN nq) osq)) := S1.out.grown nq osq
        clear l24a l24b hc24 S1
        generalize grow (wr.drewN nq) osq = w2 at S2 ⊢
        clear nq osq
        go_wp2
        go_roundg (q - i)
        case measure => omega
        case rel => exact ⟨i, q, rfl, rfl, hai, hiq, by omega, Nat.le_refl _, S2, ⟨I.out.1, fun t h1 h2 => SWO.lt_of hO (by rw [← HX24.out]; exact HL.out) (HM.out q t haq h1 h2)⟩⟩
      | false =>
        have hv24 : ¬ cf y x24 < 0 := of_decide_eq_false hL
        have hd24 : decide (cf y x24 < 0) = false := decide_eq_false hv24
        have HL : Hid (ltOf cf y x24 = false) := hL
        clear hL
        go_wp2_with fail
        go_quiet_grown (first | (go_at_fn g; refine Calls.grown_of (hc24 _ _)))
        have S2 : Aside (SWK enc k w0 blk off dk (grow (wr.drewN nq) osq)) := S1.out.grown nq osq
        clear l24a l24b hc24 S1
        generalize grow (wr.drewN nq) osq = w2 at S2 ⊢
        clear nq osq
        go_wp2
        go_roundg (j - (q + 1))
        case measure => omega
        case rel => exact ⟨q + 1, j, by simp, rfl, by omega, by omega, hjm, Nat.le_refl _, S2, ⟨fun t h1 h2 => hO.ntrans _ _ _ (by rw [← HX24.out]; exact HL.out) (HM.out t q h1 (by omega) hqm), I.out.2⟩⟩
    · have HIJ : Hid (i = j) := by show _ = _; omega
      have hltz : ¬ (i : Int) < (j : Int) := by omega
      have hI := I.out
      have HR : Hid (mrg (ltOf cf) X [y] = X.take (i - a) ++ y :: X.drop (i - a)) := HFIN.out i hai (by omega) hI.1 (by rw [HIJ.out]; exact hI.2)
      have hE := HE.out
      obtain ⟨X1, hX1⟩ : ∃ X1, X1 = X.take (i - a) := ⟨_, rfl⟩
      obtain ⟨X2, hX2⟩ : ∃ X2, X2 = X.drop (i - a) := ⟨_, rfl⟩
      have HXX : Hid (X1 ++ X2 = X) := by show _ = _; rw [hX1, hX2, List.take_append_drop]
      have HL1 : Hid (pre.length + X1.length = i ∧ X2.length = m - i ∧ i + X2.length + 1 + post.length = n) := by refine ⟨?_, ?_, ?_⟩ <;> (rw [show i = i from rfl]; first | (rw [hX1]; simp; omega) | (rw [hX2]; simp; omega))
      rw [← hX1, ← hX2] at HR
      have S2 : Aside (SWK enc k w0 blk off (pre ++ X1 ++ (X2.take (m - i) ++ y :: (X2.drop (m - i) ++ post))).toArray wr) := by
        have h := S1.out
        have hl := HL1.out.2.1
        rw [HDK.out, ← HXX.out] at h
        rw [show X2.take (m - i) = X2 from List.take_of_length_le (by omega), show X2.drop (m - i) = [] from List.drop_eq_nil_of_le (by omega)]
        show SWK enc k w0 blk off _ wr
        simpa using h
      have him : i ≤ m := by omega
      clear hI hE hX1 hX2 S1
      go_wp2
      go_loopg [17] (m - i) (fun kx s17 wr => ∃ r : Nat, s17 = .int .i64 r ∧ i ≤ r ∧ r ≤ m ∧ r - i ≤ kx ∧ Aside (SWK enc k w0 blk off (pre ++ X1 ++ (X2.take (r - i) ++ y :: (X2.drop (r - i) ++ post))).toArray wr))
      case atStart => exact ⟨m, rfl, him, Nat.le_refl _, Nat.le_refl _, S2⟩
      case round =>
        clear S2
        obtain ⟨r, rfl, hir, hrm, hkx2, S3⟩ := hrel
        by_cases hlr : i < r
        · obtain ⟨rp, rfl⟩ : ∃ rp, r = rp + 1 := ⟨r - 1, by omega⟩
          have hlrz : (i : Int) < (rp : Int) + 1 := by omega
          have hrX : rp - i < X2.length := by have := HL1.out; omega
          obtain ⟨e, hde⟩ : ∃ e, e = (pre ++ X1 ++ (X2.take (rp + 1 - i) ++ y :: (X2.drop (rp + 1 - i) ++ post))).toArray := ⟨_, rfl⟩
          have hes : e.size = n := by rw [hde]; have := HL1.out; simp; omega
          have hnew : Hid (swp e (rp + 1) rp = (pre ++ X1 ++ (X2.take (rp - i) ++ y :: (X2.drop (rp - i) ++ post))).toArray) := by
            show _ = _
            have h := swp_list (pre ++ X1 ++ X2.take (rp - i)) [] (X2.drop (rp - i + 1) ++ post) X2[rp - i] y rp (rp + 1) (by have := HL1.out; simp; omega) (by have := HL1.out; simp; omega)
            rw [swp_comm _ _ _ (by omega), hde, show rp + 1 - i = rp - i + 1 by omega, List.take_succ_eq_append_getElem hrX, List.drop_eq_getElem_cons hrX]
            simp only [List.append_assoc, List.cons_append, List.nil_append] at h ⊢
            exact h
          rw [← hde] at S3
          clear hde hrX
          have ba44 : (rp : Int) < (n : Int) := by omega
          have ra44 : IntKind.i64.wrap (rp : Int) = (rp : Int) := by rw [IntKind.wrap_i64]; omega
          have ec44 : ((rp : Int) + 1).toNat = rp + 1 := by omega
          have pc44 : (0 : Int) ≤ (rp : Int) + 1 := by omega
          have bc44 : (rp : Int) + 1 < (n : Int) := by omega
          have rc44 : IntKind.i64.wrap ((rp : Int) + 1) = (rp : Int) + 1 := by rw [IntKind.wrap_i64]; omega
          have S4 : Aside (SWK enc k w0 blk off (swp e (rp + 1) rp) ((wr.drew.setCells blk (off + (rp + 1) * k) (enc e[rp]!)).setCells blk (off + rp * k) (enc e[rp + 1]!))) := S3.out.swapped R (rp + 1) rp (by omega) (by omega)
          have l44a := S3.out.ld1 R (by omega) P (rp + 1) (by omega)
          have l44b := S3.out.ld1 R (by omega) P rp (by omega)
          have s44a := S3.out.st1 R (by omega) P (rp + 1) (by omega) e[rp]!
          have s44b := S3.out.st2 R (by omega) P (rp + 1) rp (by omega) (by omega) e[rp]! e[rp + 1]!
          have n44a : (enc e[rp + 1]!).length = k := R.hk _
          have n44b : (enc e[rp]!).length = k := R.hk _
          generalize enc e[rp + 1]! = cI44 at S4 l44a s44b n44a
          generalize enc e[rp]! = cJ44 at S4 l44b s44a s44b n44b
          clear S3 hes
          go_wp2_with fail
          go_big_region_o
          clear l44a l44b s44a s44b
          generalize (wr.drew.setCells blk (off + (rp + 1) * k) cJ44).setCells blk (off + rp * k) cI44 = w2 at S4 ⊢
          go_wp2
          go_roundg (rp - i)
          case measure => omega
          case rel =>
            rw [hnew.out] at S4
            exact ⟨rp, by first | rfl | go_num | (congr 1; omega), by omega, by omega, Nat.le_refl _, S4⟩
        · have HRI : Hid (r = i) := by show _ = _; omega
          have hlrz : ¬ (i : Int) < (r : Int) := by omega
          go_wp2
          refine bodyPost_ret (results_none rfl _ _ _) rfl ?_
          refine ⟨rfl, ?_⟩
          have h := S3.out
          rw [HRI.out, Nat.sub_self, List.take_zero, List.drop_zero, List.nil_append] at h
          rw [HR.out]
          simp only [List.append_assoc, List.cons_append] at h ⊢
          exact h
end Go.Proofs.Ytfajbkofbjcbbaa
