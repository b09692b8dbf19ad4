/- Walks: the library's stable sort: symMerge where the left run is one element. -/
import Derived.Test.YtfajbkofbjcbbaaWQ
import Derived.Test.YtfajbkofbjcbbaaPlainF
namespace Go.Proofs.Ytfajbkofbjcbbaa
open Go.Shelf Go.RowKit Go.Lib Go.Sort
variable {P : Program} {α : Type} [Inhabited α]

set_option maxHeartbeats 4000000 in
set_option maxRecDepth 1000000 in
theorem symMerge_left (L : StL P) (k : Nat) (aE : ∀ w, (isAgg 75).run P w = .ok true w) (zE : ∀ w, (Go.sizeOf 75).run P w = .ok k w) (enc : α → List Value) (cf : α → α → Int) (hO : SWO (ltOf cf)) (g : Nat) (cb : Array Value) (blk off cap n : Nat) (d0 : Array α) (w0 w : World)
    (eg : ∀ args w, (callFunc g args).run P w = .ok (.enter g args) w) (hcmp : CmpLays P g cb enc k cf blk off n w0)
    (pre Y post : List α) (x : α) (hY : Srt (ltOf cf) Y) (R : RowK enc k w0 blk off d0) (hs : d0.size = n) (hn : (pre ++ [x] ++ Y ++ post).length = n) (S : SWK enc k w0 blk off (pre ++ [x] ++ Y ++ post).toArray w) (hsz : n < 4611686018427387904)
    (a m b : Nat) (ha : a = pre.length) (hm : m = pre.length + 1) (hb : b = pre.length + 1 + Y.length) :
    Calls P 112 #[.slice (some ⟨blk, off, none⟩) n cap, .int .i64 a, .int .i64 m, .int .i64 b, .func (.func g) #[] cb] w fun e w' => e = .returned (.tuple #[]) ∧ SWK enc k w0 blk off (pre ++ mrg (ltOf cf) [x] Y ++ post).toArray w' := by
  have mixed := L.mixed; have t0 := L.t0; have a0 := L.a0; have z0 := L.z0; have v0 := L.v0; have t3 := L.t3; have a3 := L.a3; have z3 := L.z3; have v3 := L.v3; have t4 := L.t4; have a4 := L.a4; have z4 := L.z4; have v4 := L.v4; have t117 := L.t117; have a117 := L.a117; have z117 := L.z117; have v117 := L.v117
  have t132 := L.t132; have a132 := L.a132; have z132 := L.z132; have v132 := L.v132
  have u117 := run_underlying L.t117
  have u132 := run_underlying L.t132
  have u3 := run_underlying L.t3
  have S0 : Aside (SWK enc k w0 blk off (pre ++ [x] ++ Y ++ post).toArray w) := S
  have HC : Aside _ := hcmp
  have hN : pre.length + 1 + Y.length + post.length = n := by rw [← hn]; simp; omega
  have HE : Hid (a = pre.length ∧ m = a + 1 ∧ b = m + Y.length ∧ pre.length + 1 + Y.length + post.length = n) := ⟨ha, by omega, by omega, hN⟩
  -- the run is sorted
  have hmono : ∀ s t, m ≤ s → s ≤ t → t < b → ltOf cf (pre ++ [x] ++ Y ++ post).toArray[t]! (pre ++ [x] ++ Y ++ post).toArray[s]! = false := fun s t h1 h2 h3 => by
    have e : pre ++ [x] ++ Y ++ post = (pre ++ [x]) ++ (Y ++ post) := by simp
    rw [e, at_mid (pre ++ [x]) Y post t (by simp; omega) (by simp; omega), at_mid (pre ++ [x]) Y post s (by simp; omega) (by simp; omega)]
    rcases Nat.eq_or_lt_of_le h2 with h | h
    · subst h; exact hO.irrefl _
    · exact List.pairwise_iff_getElem.1 hY _ _ (by simp; omega) (by simp; omega) (by simp; omega)
  have hx : (pre ++ [x] ++ Y ++ post).toArray[a]! = x := by
    have e : pre ++ [x] ++ Y ++ post = pre ++ x :: (Y ++ post) := by simp
    rw [e]; exact at_app pre x (Y ++ post) a ha
  have hds : (pre ++ [x] ++ Y ++ post).toArray.size = n := by simpa using hn
  have HM : Aside _ := hmono
  have HFIN : Hid (∀ i, m ≤ i → i ≤ b → (∀ t, m ≤ t → t < i → ltOf cf (pre ++ [x] ++ Y ++ post).toArray[t]! x = true) → (∀ t, i ≤ t → t < b → ltOf cf (pre ++ [x] ++ Y ++ post).toArray[t]! x = false) →
      mrg (ltOf cf) [x] Y = Y.take (i - m) ++ x :: Y.drop (i - m)) := fun i h1 h2 h3 h4 => by
    have e : pre ++ [x] ++ Y ++ post = (pre ++ [x]) ++ (Y ++ post) := by simp
    have hget : ∀ t (ht : t < Y.length), (pre ++ [x] ++ Y ++ post).toArray[m + t]! = Y[t] := fun t ht => by
      rw [e, at_mid (pre ++ [x]) Y post (m + t) (by simp; omega) (by simp; omega)]
      congr 1
      simp; omega
    have s1 := mrg_split (ltOf cf) [] (Y.take (i - m)) [x] (Y.drop (i - m)) (fun z hz y hy => by
      simp at hz; subst hz
      obtain ⟨t, ht, rfl⟩ := List.getElem_of_mem hy
      simp at ht
      rw [List.getElem_take, ← hget t (by omega)]
      exact h3 _ (by omega) (by omega)) (fun z hz => by cases hz)
    have s2 := mrg_split (ltOf cf) [x] [] [] (Y.drop (i - m)) (fun z hz => by cases hz) (fun z hz y hy => by
      simp at hz; subst hz
      obtain ⟨t, ht, rfl⟩ := List.getElem_of_mem hy
      simp at ht
      rw [List.getElem_drop, ← hget (i - m + t) (by omega)]
      exact h4 _ (by omega) (by omega))
    rw [List.nil_append, List.take_append_drop, mrg_nil_left] at s1
    rw [List.append_nil, List.nil_append, mrg_nil_right, mrg_nil_left] at s2
    rw [s1, s2]; rfl
  obtain ⟨dk, hdk⟩ : ∃ dk, dk = (pre ++ [x] ++ Y ++ post).toArray := ⟨_, rfl⟩
  rw [← hdk] at S0 HM hx hds HFIN
  have HDK : Hid (dk = (pre ++ [x] ++ Y ++ post).toArray) := hdk
  have HX : Hid (dk[a]! = x) := hx
  have HDS : Hid (dk.size = n) := hds
  have hma : (m : Int) - (a : Int) = 1 := by omega
  have han : a < n := by omega
  have hbn : b ≤ n := by omega
  have hmb : m ≤ b := by omega
  have ham : a < m := by omega
  clear hcmp S hn hY hmono hx hds hdk ha hm hb hN
  go_enter L.f112, Try.ntmps112
  go_wp2
  go_loopg [10, 11] (b - m) (fun kx s10 s11 wr => ∃ i j : Nat, s10 = .int .i64 i ∧ s11 = .int .i64 j ∧ m ≤ i ∧ i ≤ j ∧ j ≤ b ∧ j - i ≤ kx ∧ Aside (SWK enc k w0 blk off dk wr) ∧
    Aside ((∀ t, m ≤ t → t < i → ltOf cf dk[t]! x = true) ∧ (∀ t, j ≤ t → t < b → ltOf cf dk[t]! x = false)))
  case atStart => exact ⟨m, b, rfl, rfl, Nat.le_refl _, hmb, Nat.le_refl _, Nat.le_refl _, S0, (⟨fun t h1 h2 => by omega, fun t h1 h2 => by omega⟩ : (∀ t, m ≤ t → t < m → ltOf cf dk[t]! x = true) ∧ (∀ t, b ≤ t → t < b → ltOf cf dk[t]! x = false))⟩
  case round =>
    clear S0
    obtain ⟨i, j, rfl, rfl, hmi, hij, hjb, hkx, S1, I⟩ := hrel
    by_cases hlt : i < j
    · obtain ⟨q, hq0⟩ : ∃ q, q = (i + j) / 2 := ⟨_, rfl⟩
      have hq : ((i : Int) + (j : Int)) / 2 = (q : Int) := by omega
      have hiq : i ≤ q := by omega
      have hqj : q < j := by omega
      have hmq : m ≤ q := by omega
      have hqb : q < b := by omega
      have ba24 : (q : Int) < (n : Int) := by omega
      have bc24 : (a : Int) < (n : Int) := by omega
      have hltz : (i : Int) < (j : Int) := by omega
      obtain ⟨x24, hx24⟩ : ∃ x, x = dk[q]! := ⟨_, rfl⟩
      have hD := HDS.out
      have l24a := S1.out.ld R (by omega) P q (by omega)
      have l24b := S1.out.ld R (by omega) P a (by omega)
      rw [← hx24] at l24a
      rw [HX.out] at l24b
      have hc24 := S1.out.cmp HC.out (by omega) x24 x
      have HX24 : Hid (x24 = dk[q]!) := hx24
      clear hx24 hq0 hD
      cases hL : ltOf cf x24 x with
      | true =>
        have hv24 : cf x24 x < 0 := of_decide_eq_true hL
        have hd24 : decide (cf x24 x < 0) = true := decide_eq_true hv24
        have HL : Hid (ltOf cf x24 x = true) := hL
        clear hL
        go_wp2_with fail
        go_quiet_grown (first | (go_at_fn g; refine Calls.grown_of (hc24 _ _)))
        have S2 : Aside (SWK enc k w0 blk off dk (grow (wr.drewN nq) osq)) := S1.out.grown nq osq
        clear l24a l24b hc24 S1
        generalize grow (wr.drewN nq) osq = w2 at S2 ⊢
        clear nq osq
        go_wp2
        go_roundg (j - (q + 1))
        case measure => omega
        case rel => exact ⟨q + 1, j, by simp, rfl, by omega, by omega, hjb, Nat.le_refl _, S2, ⟨fun t h1 h2 => SWO.lt_of' hO (HM.out t q h1 (by omega) hqb) (by rw [← HX24.out]; exact HL.out), I.out.2⟩⟩
      | false =>
        have hv24 : ¬ cf x24 x < 0 := of_decide_eq_false hL
        have hd24 : decide (cf x24 x < 0) = false := decide_eq_false hv24
        have HL : Hid (ltOf cf x24 x = false) := hL
        clear hL
        go_wp2_with fail
        go_quiet_grown (first | (go_at_fn g; refine Calls.grown_of (hc24 _ _)))
        have S2 : Aside (SWK enc k w0 blk off dk (grow (wr.drewN nq) osq)) := S1.out.grown nq osq
        clear l24a l24b hc24 S1
        generalize grow (wr.drewN nq) osq = w2 at S2 ⊢
        clear nq osq
        go_wp2
        go_roundg (q - i)
        case measure => omega
        case rel => exact ⟨i, q, rfl, rfl, hmi, hiq, by omega, Nat.le_refl _, S2, ⟨I.out.1, fun t h1 h2 => hO.ntrans _ _ _ (HM.out q t hmq h1 h2) (by rw [← HX24.out]; exact HL.out)⟩⟩
    · have HIJ : Hid (i = j) := by show _ = _; omega
      have hltz : ¬ (i : Int) < (j : Int) := by omega
      have hI := I.out
      have HR : Hid (mrg (ltOf cf) [x] Y = Y.take (i - m) ++ x :: Y.drop (i - m)) := HFIN.out i hmi (by omega) hI.1 (by rw [HIJ.out]; exact hI.2)
      have hib : i ≤ b := by omega
      have hE := HE.out
      have hlY1 : Hid ((Y.take (i - m)).length = i - m) := by show _ = _; simp; omega
      obtain ⟨Y1, hY1⟩ : ∃ Y1, Y1 = Y.take (i - m) := ⟨_, rfl⟩
      obtain ⟨Y2, hY2⟩ : ∃ Y2, Y2 = Y.drop (i - m) := ⟨_, rfl⟩
      have HYY : Hid (Y1 ++ Y2 = Y) := by show _ = _; rw [hY1, hY2, List.take_append_drop]
      rw [← hY1, ← hY2] at HR
      rw [← hY1] at hlY1
      have HL1 : Hid (Y1.length = i - m) := hlY1
      have HLEN : Hid (pre.length + 1 + Y1.length + Y2.length + post.length = n) := by
        have h1 := congrArg List.length HYY.out
        rw [List.length_append] at h1
        show _ = _
        omega
      have S2 : Aside (SWK enc k w0 blk off (pre ++ (Y1.take 0 ++ x :: (Y1.drop 0 ++ Y2)) ++ post).toArray wr) := by
        have h := S1.out
        rw [HDK.out, ← HYY.out] at h
        show SWK enc k w0 blk off _ wr
        simpa using h
      have hai1 : a + 1 ≤ i := by omega
      have hin : i ≤ n := by omega
      clear hI hE hlY1 hY1 hY2 S1
      go_wp2
      go_loopg [13] (i - 1 - a) (fun kx s13 wr => ∃ r : Nat, s13 = .int .i64 r ∧ a ≤ r ∧ r ≤ i - 1 ∧ i - 1 - r ≤ kx ∧ Aside (SWK enc k w0 blk off (pre ++ (Y1.take (r - a) ++ x :: (Y1.drop (r - a) ++ Y2)) ++ post).toArray wr))
      case atStart => exact ⟨a, rfl, Nat.le_refl _, by omega, Nat.le_refl _, by rw [Nat.sub_self]; exact S2⟩
      case round =>
        clear S2
        obtain ⟨r, rfl, har, hri, hkx2, S3⟩ := hrel
        by_cases hlr : r < i - 1
        · have hlrz : (r : Int) < (i : Int) - 1 := by omega
          have hrY : r - a < Y1.length := by have := HL1.out; have := HE.out; omega
          obtain ⟨e, hde⟩ : ∃ e, e = (pre ++ (Y1.take (r - a) ++ x :: (Y1.drop (r - a) ++ Y2)) ++ post).toArray := ⟨_, rfl⟩
          have hes : e.size = n := by rw [hde]; have := HLEN.out; simp; omega
          have hnew : Hid (swp e r (r + 1) = (pre ++ (Y1.take (r + 1 - a) ++ x :: (Y1.drop (r + 1 - a) ++ Y2)) ++ post).toArray) := by
            show _ = _
            have h := swp_list (pre ++ Y1.take (r - a)) [] (Y1.drop (r - a + 1) ++ Y2 ++ post) x Y1[r - a] r (r + 1) (by have := HE.out; simp; omega) (by have := HE.out; simp; omega)
            rw [hde, show r + 1 - a = r - a + 1 by omega, List.take_succ_eq_append_getElem hrY, List.drop_eq_getElem_cons hrY]
            simp only [List.append_assoc, List.cons_append, List.nil_append] at h ⊢
            exact h
          rw [← hde] at S3
          clear hde hrY
          have ba44 : (r : Int) < (n : Int) := by omega
          have ec44 : ((r : Int) + 1).toNat = r + 1 := by omega
          have pc44 : (0 : Int) ≤ (r : Int) + 1 := by omega
          have bc44 : (r : Int) + 1 < (n : Int) := by omega
          have rc44 : IntKind.i64.wrap ((r : Int) + 1) = (r : Int) + 1 := by rw [IntKind.wrap_i64]; omega
          have S4 : Aside (SWK enc k w0 blk off (swp e r (r + 1)) ((wr.drew.setCells blk (off + r * k) (enc e[r + 1]!)).setCells blk (off + (r + 1) * k) (enc e[r]!))) := S3.out.swapped R r (r + 1) (by omega) (by omega)
          have l44a := S3.out.ld1 R (by omega) P r (by omega)
          have l44b := S3.out.ld1 R (by omega) P (r + 1) (by omega)
          have s44a := S3.out.st1 R (by omega) P r (by omega) e[r + 1]!
          have s44b := S3.out.st2 R (by omega) P r (r + 1) (by omega) (by omega) e[r + 1]! e[r]!
          have n44a : (enc e[r]!).length = k := R.hk _
          have n44b : (enc e[r + 1]!).length = k := R.hk _
          generalize enc e[r]! = cI44 at S4 l44a s44b n44a
          generalize enc e[r + 1]! = cJ44 at S4 l44b s44a s44b n44b
          clear S3 hes
          go_wp2_with fail
          go_big_region_o
          clear l44a l44b s44a s44b
          generalize (wr.drew.setCells blk (off + r * k) cJ44).setCells blk (off + (r + 1) * k) cI44 = w2 at S4 ⊢
          go_wp2
          go_roundg (i - 1 - (r + 1))
          case measure => omega
          case rel =>
            rw [hnew.out] at S4
            exact ⟨r + 1, by simp, by omega, by omega, Nat.le_refl _, S4⟩
        · have HRI : Hid (r = i - 1) := by show _ = _; omega
          have hlrz : ¬ (r : Int) < (i : Int) - 1 := by omega
          go_wp2
          refine bodyPost_ret (results_none rfl _ _ _) rfl ?_
          refine ⟨rfl, ?_⟩
          have h := S3.out
          have hE := HE.out
          have h1 := HL1.out
          have h2 := HRI.out
          rw [show Y1.take (r - a) = Y1 from List.take_of_length_le (by omega), show Y1.drop (r - a) = [] from List.drop_eq_nil_of_le (by omega), List.nil_append] at h
          rw [HR.out]
          simp only [List.append_assoc, List.cons_append] at h ⊢
          exact h
end Go.Proofs.Ytfajbkofbjcbbaa
