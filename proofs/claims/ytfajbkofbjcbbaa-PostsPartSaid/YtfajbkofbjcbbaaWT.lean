/- Walks: the library's stable sort: symMerge of two runs of two and more. -/
import Derived.Deep.Cut
import Derived.Deep.CutRange
import Derived.Test.YtfajbkofbjcbbaaWS
namespace Go.Proofs.Ytfajbkofbjcbbaa
open Go.Shelf Go.RowKit Go.Lib Go.Sort
variable {P : Program} {α : Type} [Inhabited α]

set_option maxHeartbeats 4000000 in
set_option maxRecDepth 1000000 in
theorem symMerge_more (L : StL P) (k : Nat) (aE : ∀ w, (isAgg 75).run P w = .ok true w) (zE : ∀ w, (Go.sizeOf 75).run P w = .ok k w) (enc : α → List Value) (cf : α → α → Int) (hO : SWO (ltOf cf)) (g : Nat) (cb : Array Value) (blk off cap n : Nat) (d0 : Array α) (w0 w : World)
    (eg : ∀ args w, (callFunc g args).run P w = .ok (.enter g args) w) (hcmp : CmpLays P g cb enc k cf blk off n w0)
    (pre X Y post : List α) (hX : Srt (ltOf cf) X) (hY : Srt (ltOf cf) Y) (hX2 : 2 ≤ X.length) (hY2 : 2 ≤ Y.length) (R : RowK enc k w0 blk off d0) (hs : d0.size = n) (hn : (pre ++ X ++ Y ++ post).length = n) (S : SWK enc k w0 blk off (pre ++ X ++ Y ++ post).toArray w) (hsz : n < 2305843009213693952)
    (ih : ∀ (pre' X' Y' post' : List α) (W : World), X'.length + Y'.length < X.length + Y.length → 0 < X'.length → 0 < Y'.length → Srt (ltOf cf) X' → Srt (ltOf cf) Y' → (pre' ++ X' ++ Y' ++ post').length = n → SWK enc k w0 blk off (pre' ++ X' ++ Y' ++ post').toArray W →
      ∀ a' m' b' : Nat, a' = pre'.length → m' = pre'.length + X'.length → b' = pre'.length + X'.length + Y'.length →
      Calls P 112 #[.slice (some ⟨blk, off, none⟩) n cap, .int .i64 a', .int .i64 m', .int .i64 b', .func (.func g) #[] cb] W fun e w' => e = .returned (.tuple #[]) ∧ SWK enc k w0 blk off (pre' ++ mrg (ltOf cf) X' Y' ++ post').toArray w')
    (a m b : Nat) (ha : a = pre.length) (hm : m = pre.length + X.length) (hb : b = pre.length + X.length + Y.length) :
    Calls P 112 #[.slice (some ⟨blk, off, none⟩) n cap, .int .i64 a, .int .i64 m, .int .i64 b, .func (.func g) #[] cb] w fun e w' => e = .returned (.tuple #[]) ∧ SWK enc k w0 blk off (pre ++ mrg (ltOf cf) X Y ++ post).toArray w' := by
  have mixed := L.mixed; have t0 := L.t0; have a0 := L.a0; have z0 := L.z0; have v0 := L.v0; have t3 := L.t3; have a3 := L.a3; have z3 := L.z3; have v3 := L.v3; have t4 := L.t4; have a4 := L.a4; have z4 := L.z4; have v4 := L.v4; have t117 := L.t117; have a117 := L.a117; have z117 := L.z117; have v117 := L.v117
  have t132 := L.t132; have a132 := L.a132; have z132 := L.z132; have v132 := L.v132
  have u117 := run_underlying L.t117
  have u132 := run_underlying L.t132
  have u3 := run_underlying L.t3
  have e127 : ∀ args w, (callFunc 127 args).run P w = .ok (.enter 127 args) w := enters_of L.f127 (by kernel_rfl) rfl
  have e112 : ∀ args w, (callFunc 112 args).run P w = .ok (.enter 112 args) w := enters_of L.f112 (by kernel_rfl) rfl
  have hN : pre.length + X.length + Y.length + post.length = n := by rw [← hn]; simp; omega
  obtain ⟨mid, hmid⟩ : ∃ mid, mid = (a + b) / 2 := ⟨_, rfl⟩
  obtain ⟨nn, hnn⟩ : ∃ nn, nn = mid + m := ⟨_, rfl⟩
  obtain ⟨p, hp⟩ : ∃ p, p = nn - 1 := ⟨_, rfl⟩
  obtain ⟨lo, hlo⟩ : ∃ lo, lo = if mid < m then nn - b else a := ⟨_, rfl⟩
  obtain ⟨hi, hhi⟩ : ∃ hi, hi = if mid < m then mid else m := ⟨_, rfl⟩
  have hB : SymB pre X Y post a m b mid lo hi p := ⟨ha, by omega, by omega, hX2, hY2, hmid, by omega, by
    by_cases h : mid < m
    · left; rw [if_pos h] at hlo hhi; exact ⟨h, by omega, hhi⟩
    · right; rw [if_neg h] at hlo hhi; exact ⟨by omega, hlo, hhi⟩⟩
  obtain ⟨q1, q2, q3, q4, q5, q6⟩ := hB.bounds
  have HQ : Aside _ := q6
  have S0 : Aside (SWK enc k w0 blk off (pre ++ X ++ Y ++ post).toArray w) := S
  have HC : Aside _ := hcmp
  have HB : Aside _ := hB
  have IH : Aside _ := ih
  have HSX : Aside _ := hX
  have HSY : Aside _ := hY
  have HN : Hid ((pre ++ X ++ Y ++ post).length = n) := hn
  have HE : Hid (a = pre.length ∧ m = a + X.length ∧ b = m + Y.length ∧ pre.length + X.length + Y.length + post.length = n ∧ nn = mid + m ∧ p = nn - 1) := ⟨ha, by omega, by omega, hN, hnn, hp⟩
  have HROT : Aside (∀ (pre' X' Y' post' : List α) (W : World), 0 < X'.length → 0 < Y'.length → (pre' ++ X' ++ Y' ++ post').length = n → SWK enc k w0 blk off (pre' ++ X' ++ Y' ++ post').toArray W → ∀ a' m' b' : Nat, a' = pre'.length → m' = pre'.length + X'.length → b' = pre'.length + X'.length + Y'.length →
      Calls P 127 #[.slice (some ⟨blk, off, none⟩) n cap, .int .i64 a', .int .i64 m', .int .i64 b', .func (.func g) #[] cb] W fun e w' => e = .returned (.tuple #[]) ∧ SWK enc k w0 blk off (pre' ++ Y' ++ X' ++ post').toArray w') :=
    fun pre' X' Y' post' W h1 h2 h3 h4 a' m' b' h5 h6 h7 => rotate_g L k aE zE enc g cb blk off cap n d0 w0 W pre' X' Y' post' h1 h2 R hs h3 h4 (by omega) a' m' b' h5 h6 h7
  have d1 : (((m : Int) - (a : Int)) == 1) = false := by simp; omega
  have d2 : (((b : Int) - (m : Int)) == 1) = false := by simp; omega
  have zmid : ((a : Int) + (b : Int)) / 2 = (mid : Int) := by omega
  have znn : (mid : Int) + (m : Int) = (nn : Int) := by omega
  have zp : (nn : Int) - 1 = (p : Int) := by omega
  have hbn : b ≤ n := by omega
  have hmb : m ≤ b := by omega
  have ham : a ≤ m := by omega
  have hnn2 : nn ≤ b + b := by omega
  have hpn : p < nn := by omega
  have hnb : nn ≤ p + 1 := by omega
  have hmidnn : mid ≤ nn := by omega
  have hbnn : mid < m → b ≤ nn := by omega
  have HLO : Hid ((mid < m → lo = nn - b ∧ hi = mid) ∧ (¬ mid < m → lo = a ∧ hi = m)) := ⟨fun h => by rw [if_pos h] at hlo hhi; exact ⟨hlo, hhi⟩, fun h => by rw [if_neg h] at hlo hhi; exact ⟨hlo, hhi⟩⟩
  have HBNN : Hid (mid < m → b ≤ nn) := hbnn
  clear hcmp S hn hX hY hB ih ha hm hb hN hX2 hY2 hmid hnn hp hlo hhi q6 hbnn
  go_enter L.f112, Try.ntmps112
  go_upto_if 140 with (fail)
  go_cut [20, 21] from 138 to 146 (fun s20 s21 wx => s20 = .int .i64 lo ∧ s21 = .int .i64 hi ∧ wx = w)
  case first =>
    by_cases h : mid < m
    · have hz : (mid : Int) < (m : Int) := by omega
      have hbnn := HBNN.out h
      have zlo : (nn : Int) - (b : Int) = (lo : Int) := by have := (HLO.out.1 h).1; omega
      go_wp2_with fail
      go_meet
      case rel => exact ⟨rfl, by rw [(HLO.out.1 h).2], rfl⟩
    · have hz : ¬ (mid : Int) < (m : Int) := by omega
      go_wp2_with fail
      go_meet
      case rel => exact ⟨by rw [(HLO.out.2 h).1], by rw [(HLO.out.2 h).2], rfl⟩
  case rest =>
    obtain ⟨rfl, rfl, rfl⟩ := hcut
    obtain ⟨dk, hdk⟩ : ∃ dk, dk = (pre ++ X ++ Y ++ post).toArray := ⟨_, rfl⟩
    rw [← hdk] at S0
    have HDK : Hid (dk = (pre ++ X ++ Y ++ post).toArray) := hdk
    have HDS : Hid (dk.size = n) := by show _ = _; rw [hdk]; simpa using HN.out
    clear hdk
    go_wp2
    go_loopg [20, 21] (hi - lo) (fun kx s20 s21 wr => ∃ i j : Nat, s20 = .int .i64 i ∧ s21 = .int .i64 j ∧ lo ≤ i ∧ i ≤ j ∧ j ≤ hi ∧ j - i ≤ kx ∧ Aside (SWK enc k w0 blk off dk wr) ∧
      Aside ((∀ c, lo ≤ c → c < i → ltOf cf dk[p - c]! dk[c]! = false) ∧ (∀ c, j ≤ c → c < hi → ltOf cf dk[p - c]! dk[c]! = true)))
    case atStart => exact ⟨lo, hi, rfl, rfl, Nat.le_refl _, q2, Nat.le_refl _, Nat.le_refl _, S0, (⟨fun t h1 h2 => by omega, fun t h1 h2 => by omega⟩ : (∀ c, lo ≤ c → c < lo → ltOf cf dk[p - c]! dk[c]! = false) ∧ (∀ c, hi ≤ c → c < hi → ltOf cf dk[p - c]! dk[c]! = true))⟩
    case round =>
      clear S0
      obtain ⟨i, j, rfl, rfl, hli, hij, hjh, hkx, S1, I⟩ := hrel
      by_cases hlt : i < j
      · obtain ⟨q, hq0⟩ : ∃ q, q = (i + j) / 2 := ⟨_, rfl⟩
        have hq : ((i : Int) + (j : Int)) / 2 = (q : Int) := by omega
        have hiq : i ≤ q := by omega
        have hqj : q < j := by omega
        obtain ⟨c1, c2, c3, c4, c5⟩ := HQ.out q (by omega) (by omega)
        obtain ⟨pq, hpq0⟩ : ∃ pq, pq = p - q := ⟨_, rfl⟩
        have hpq : (p : Int) - (q : Int) = (pq : Int) := by omega
        have hlq : lo ≤ q := by omega
        have hqh : q < hi := by omega
        have ba24 : (pq : Int) < (n : Int) := by omega
        have ra24 : IntKind.i64.wrap (pq : Int) = (pq : Int) := by rw [IntKind.wrap_i64]; omega
        have bc24 : (q : Int) < (n : Int) := by omega
        have hltz : (i : Int) < (j : Int) := by omega
        obtain ⟨x24, hx24⟩ : ∃ x, x = dk[pq]! := ⟨_, rfl⟩
        obtain ⟨y24, hy24⟩ : ∃ x, x = dk[q]! := ⟨_, rfl⟩
        have hD := HDS.out
        have l24a := S1.out.ld R (by omega) P pq (by omega)
        have l24b := S1.out.ld R (by omega) P q (by omega)
        rw [← hx24] at l24a
        rw [← hy24] at l24b
        have hc24 := S1.out.cmp HC.out (by omega) x24 y24
        have HX24 : Hid (x24 = dk[p - q]! ∧ y24 = dk[q]!) := ⟨by rw [hx24, hpq0], hy24⟩
        clear hx24 hy24 hq0 hD hpq0 c1 c2 c3 c4 c5
        cases hL : ltOf cf x24 y24 with
        | true =>
          have hv24 : cf x24 y24 < 0 := of_decide_eq_true hL
          have hd24 : decide (cf x24 y24 < 0) = true := decide_eq_true hv24
          have HL : Hid (ltOf cf x24 y24 = true) := hL
          clear hL
          go_wp2_with fail
          go_quiet_grown (first | (go_at_fn g; refine Calls.grown_of (hc24 _ _)))
          have S2 : Aside (SWK enc k w0 blk off dk (grow (wr.drewN nq) osq)) := S1.out.grown nq osq
          clear l24a l24b hc24 S1
          generalize grow (wr.drewN nq) osq = w2 at S2 ⊢
          clear nq osq
          go_wp2
          go_roundg (q - i)
          case measure => omega
          case rel =>
            refine ⟨i, q, rfl, rfl, hli, hiq, by omega, Nat.le_refl _, S2, ⟨I.out.1, fun c h1 h2 => ?_⟩⟩
            rw [HDK.out]
            exact HB.out.monoT hO HSX.out HSY.out c q hlq h1 h2 (by rw [← HDK.out, ← HX24.out.1, ← HX24.out.2]; exact HL.out)
        | false =>
          have hv24 : ¬ cf x24 y24 < 0 := of_decide_eq_false hL
          have hd24 : decide (cf x24 y24 < 0) = false := decide_eq_false hv24
          have HL : Hid (ltOf cf x24 y24 = false) := hL
          clear hL
          go_wp2_with fail
          go_quiet_grown (first | (go_at_fn g; refine Calls.grown_of (hc24 _ _)))
          have S2 : Aside (SWK enc k w0 blk off dk (grow (wr.drewN nq) osq)) := S1.out.grown nq osq
          clear l24a l24b hc24 S1
          generalize grow (wr.drewN nq) osq = w2 at S2 ⊢
          clear nq osq
          go_wp2
          go_roundg (j - (q + 1))
          case measure => omega
          case rel =>
            refine ⟨q + 1, j, by simp, rfl, by omega, by omega, hjh, Nat.le_refl _, S2, ⟨fun c h1 h2 => ?_, I.out.2⟩⟩
            rw [HDK.out]
            exact HB.out.monoF hO HSX.out HSY.out c q h1 (by omega) hqh (by rw [← HDK.out, ← HX24.out.1, ← HX24.out.2]; exact HL.out)
      · have HIJ : Hid (i = j) := by show _ = _; omega
        have hltz : ¬ (i : Int) < (j : Int) := by omega
        obtain ⟨en, hen0⟩ : ∃ en, en = mid + m - i := ⟨_, rfl⟩
        have hE := HE.out
        have hI := I.out
        rw [HDK.out, ← HIJ.out] at hI
        have hsp := HB.out.split hO HSX.out HSY.out i en hli (by omega) hen0 hI.1 hI.2
        obtain ⟨g1, g2, g3, g4, g5, g6, g7⟩ := hsp
        have zen : (nn : Int) - (i : Int) = (en : Int) := by omega
        obtain ⟨X1, hX1⟩ : ∃ X1, X1 = X.take (i - a) := ⟨_, rfl⟩
        obtain ⟨X2, hX2⟩ : ∃ X2, X2 = X.drop (i - a) := ⟨_, rfl⟩
        obtain ⟨Y1, hY1⟩ : ∃ Y1, Y1 = Y.take (en - m) := ⟨_, rfl⟩
        obtain ⟨Y2, hY2⟩ : ∃ Y2, Y2 = Y.drop (en - m) := ⟨_, rfl⟩
        have HSS : Aside (Srt (ltOf cf) X1 ∧ Srt (ltOf cf) X2 ∧ Srt (ltOf cf) Y1 ∧ Srt (ltOf cf) Y2) := by
          rw [hX1, hX2, hY1, hY2]
          exact ⟨HSX.out.sublist (List.take_sublist _ _), HSX.out.sublist (List.drop_sublist _ _), HSY.out.sublist (List.take_sublist _ _), HSY.out.sublist (List.drop_sublist _ _)⟩
        rw [← hX1, ← hX2, ← hY1, ← hY2] at g7
        have HXX : Hid (X1 ++ X2 = X ∧ Y1 ++ Y2 = Y) := by rw [hX1, hX2, hY1, hY2]; exact ⟨List.take_append_drop _ _, List.take_append_drop _ _⟩
        have HLN : Hid (X1.length = i - a ∧ X2.length = m - i ∧ Y1.length = en - m ∧ Y2.length = b - en) := by rw [hX1, hX2, hY1, hY2]; refine ⟨?_, ?_, ?_, ?_⟩ <;> (simp; omega)
        have HR : Hid (mrg (ltOf cf) X Y = mrg (ltOf cf) X1 Y1 ++ mrg (ltOf cf) X2 Y2) := g7
        have HM : Hid ((i - a) + (en - m) = mid - a ∧ (m - i) + (b - en) = b - mid) := ⟨g5, g6⟩
        have S2 : Aside (SWK enc k w0 blk off (pre ++ X1 ++ X2 ++ Y1 ++ Y2 ++ post).toArray wr) := by
          have h := S1.out
          rw [HDK.out, ← HXX.out.1, ← HXX.out.2] at h
          show SWK enc k w0 blk off _ wr
          simpa using h
        have HE2 : Hid (a = pre.length ∧ m = a + X.length ∧ b = m + Y.length ∧ pre.length + X.length + Y.length + post.length = n ∧ pre.length + X1.length + X2.length + Y1.length + Y2.length + post.length = n ∧ a < mid ∧ mid < b ∧ 2 ≤ X.length ∧ 2 ≤ Y.length) := by
          have := HLN.out; have := HB.out.hX; have := HB.out.hY
          exact ⟨by omega, by omega, by omega, by omega, by omega, by omega, by omega, by omega, by omega⟩
        have hin : i ≤ nn := by omega
        clear hI hE hX1 hX2 hY1 hY2 S1 g5 g6 g7 hen0 I
        go_upto_region 39 with (fail)
        go_cut [185] from 178 to 185 (fun s wx => s = .bool (decide (i < m) && decide (m < en)) ∧ wx = wr)
        case first =>
          by_cases h1 : i < m
          · have z1 : decide ((i : Int) < (m : Int)) = true := by simp; omega
            by_cases h2 : m < en
            · have z2 : decide ((m : Int) < (en : Int)) = true := by simp; omega
              go_wp2_with fail
              go_meet
              case rel => exact ⟨by simp [h1, h2], rfl⟩
            · have z2 : decide ((m : Int) < (en : Int)) = false := by simp; omega
              go_wp2_with fail
              go_meet
              case rel => exact ⟨by simp [h2], rfl⟩
          · have z1 : decide ((i : Int) < (m : Int)) = false := by simp; omega
            go_wp2_with fail
            go_meet
            case rel => exact ⟨by simp [h1], rfl⟩
        case rest =>
        obtain ⟨rfl, rfl⟩ := hcut
        obtain ⟨bv, hbv⟩ : ∃ bv, bv = (decide (i < m) && decide (m < en)) := ⟨_, rfl⟩
        rw [← hbv]
        have HBV : Hid _ := hbv
        clear hbv
        go_upto_if 185 with (fail)
        obtain ⟨RA, hRA⟩ : ∃ RA : World → Prop, ∀ W, RA W ↔ SWK enc k w0 blk off (pre ++ X1 ++ Y1 ++ X2 ++ Y2 ++ post).toArray W := ⟨fun W => SWK enc k w0 blk off (pre ++ X1 ++ Y1 ++ X2 ++ Y2 ++ post).toArray W, fun _ => Iff.rfl⟩
        have HRA : Hid _ := hRA
        clear hRA
        go_cut [] from 186 to 191 (fun wx => RA wx)
        case first =>
          by_cases h1 : i < m
          · by_cases h2 : m < en
            · obtain rfl : bv = true := by rw [HBV.out]; simp [h1, h2]
              have hcall := HROT.out (pre ++ X1) X2 Y1 (Y2 ++ post) wc (by have := HLN.out; omega) (by have := HLN.out; omega) (by have := HE2.out; simp; omega) (by rw [show pre ++ X1 ++ X2 ++ Y1 ++ (Y2 ++ post) = pre ++ X1 ++ X2 ++ Y1 ++ Y2 ++ post by simp]; exact S2.out) i m en (by have := HE2.out; have := HLN.out; simp; omega) (by have := HE2.out; have := HLN.out; simp; omega) (by have := HE2.out; have := HLN.out; simp; omega)
              clear S2
              go_wp2_with fail
              refine hcall.mono ?_
              rintro e w2 ⟨rfl, S3⟩
              go_wp2_with fail
              go_meet
              case rel => rw [show pre ++ X1 ++ Y1 ++ X2 ++ (Y2 ++ post) = pre ++ X1 ++ Y1 ++ X2 ++ Y2 ++ post by simp] at S3; exact (HRA.out _).2 S3
            · obtain rfl : bv = false := by rw [HBV.out]; simp [h2]
              have hnil : Y1 = [] := List.eq_nil_of_length_eq_zero (by have := HLN.out; omega)
              have HNIL : Hid (Y1 = []) := hnil
              clear hnil
              go_wp2_with fail
              go_meet
              case rel => have h := S2.out; refine (HRA.out _).2 ?_; rw [HNIL.out] at h ⊢; simpa using h
          · obtain rfl : bv = false := by rw [HBV.out]; simp [h1]
            have hnil : X2 = [] := List.eq_nil_of_length_eq_zero (by have := HLN.out; omega)
            have HNIL : Hid (X2 = []) := hnil
            clear hnil
            go_wp2_with fail
            go_meet
            case rel => have h := S2.out; refine (HRA.out _).2 ?_; rw [HNIL.out] at h ⊢; simpa using h
        case rest =>
          clear S2
          have S3 : Aside (SWK enc k w0 blk off (pre ++ X1 ++ Y1 ++ X2 ++ Y2 ++ post).toArray wc) := (HRA.out _).1 hcut
          clear hcut HRA
          go_upto_region 41 with (fail)
          go_cut [199] from 192 to 199 (fun s wx => s = .bool (decide (a < i) && decide (i < mid)) ∧ wx = wc)
          case first =>
            by_cases h1 : a < i
            · have z1 : decide ((a : Int) < (i : Int)) = true := by simp; omega
              by_cases h2 : i < mid
              · have z2 : decide ((i : Int) < (mid : Int)) = true := by simp; omega
                go_wp2_with fail
                go_meet
                case rel => exact ⟨by simp [h1, h2], rfl⟩
              · have z2 : decide ((i : Int) < (mid : Int)) = false := by simp; omega
                go_wp2_with fail
                go_meet
                case rel => exact ⟨by simp [h2], rfl⟩
            · have z1 : decide ((a : Int) < (i : Int)) = false := by simp; omega
              go_wp2_with fail
              go_meet
              case rel => exact ⟨by simp [h1], rfl⟩
          case rest =>
          obtain ⟨rfl, rfl⟩ := hcut
          obtain ⟨bv2, hbv2⟩ : ∃ bv, bv = (decide (a < i) && decide (i < mid)) := ⟨_, rfl⟩
          rw [← hbv2]
          have HBV2 : Hid _ := hbv2
          clear hbv2
          go_upto_if 199 with (fail)
          obtain ⟨RB, hRB⟩ : ∃ RB : World → Prop, ∀ W, RB W ↔ SWK enc k w0 blk off (pre ++ mrg (ltOf cf) X1 Y1 ++ X2 ++ Y2 ++ post).toArray W := ⟨fun W => SWK enc k w0 blk off (pre ++ mrg (ltOf cf) X1 Y1 ++ X2 ++ Y2 ++ post).toArray W, fun _ => Iff.rfl⟩
          have HRB : Hid _ := hRB
          clear hRB
          go_cut [] from 200 to 205 (fun wx => RB wx)
          case first =>
            by_cases h1 : a < i
            · by_cases h2 : i < mid
              · obtain rfl : bv2 = true := by rw [HBV2.out]; simp [h1, h2]
                have hcall := IH.out pre X1 Y1 (X2 ++ Y2 ++ post) wc (by have := HLN.out; have := HE2.out; have := HM.out; omega) (by have := HLN.out; omega) (by have := HLN.out; have := HM.out; omega) HSS.out.1 HSS.out.2.2.1 (by have := HE2.out; simp; omega) (by rw [show pre ++ X1 ++ Y1 ++ (X2 ++ Y2 ++ post) = pre ++ X1 ++ Y1 ++ X2 ++ Y2 ++ post by simp]; exact S3.out) a i mid (HE2.out.1) (by have := HE2.out; have := HLN.out; omega) (by have := HE2.out; have := HLN.out; have := HM.out; omega)
                clear S3
                go_wp2_with fail
                refine hcall.mono ?_
                rintro e w2 ⟨rfl, S4⟩
                go_wp2_with fail
                go_meet
                case rel => rw [show pre ++ mrg (ltOf cf) X1 Y1 ++ (X2 ++ Y2 ++ post) = pre ++ mrg (ltOf cf) X1 Y1 ++ X2 ++ Y2 ++ post by simp] at S4; exact (HRB.out _).2 S4
              · obtain rfl : bv2 = false := by rw [HBV2.out]; simp [h2]
                have hnil : Y1 = [] := List.eq_nil_of_length_eq_zero (by have := HLN.out; have := HM.out; omega)
                have HNIL : Hid (Y1 = []) := hnil
                clear hnil
                go_wp2_with fail
                go_meet
                case rel => have h := S3.out; refine (HRB.out _).2 ?_; rw [HNIL.out] at h ⊢; rw [mrg_nil_right]; simpa using h
            · obtain rfl : bv2 = false := by rw [HBV2.out]; simp [h1]
              have hnil : X1 = [] := List.eq_nil_of_length_eq_zero (by have := HLN.out; omega)
              have HNIL : Hid (X1 = []) := hnil
              clear hnil
              go_wp2_with fail
              go_meet
              case rel => have h := S3.out; refine (HRB.out _).2 ?_; rw [HNIL.out] at h ⊢; rw [mrg_nil_left]; simpa using h
          case rest =>
            clear S3
            have S4 := (HRB.out _).1 hcut
            have HS4 := Lib.hid S4
            clear hcut S4 HRB
            have hl1 : (mrg (ltOf cf) X1 Y1).length = X1.length + Y1.length := mrg_length _ _ _
            have HML := Lib.hid hl1
            clear hl1
            by_cases h1 : mid < en
            · have z1 : decide ((mid : Int) < (en : Int)) = true := by simp; omega
              by_cases h2 : en < b
              · have z2 : decide ((en : Int) < (b : Int)) = true := by simp; omega
                have hcall := IH.out (pre ++ mrg (ltOf cf) X1 Y1) X2 Y2 post _ (by have := HLN.out; have := HE2.out; have := HM.out; omega) (by have := HLN.out; have := HM.out; omega) (by have := HLN.out; omega) HSS.out.2.1 HSS.out.2.2.2 (by have := HE2.out; have := HML.out; simp; omega) HS4.out mid en b (by have := HE2.out; have := HLN.out; have := HM.out; have := HML.out; simp; omega) (by have := HE2.out; have := HLN.out; have := HM.out; have := HML.out; simp; omega) (by have := HE2.out; have := HLN.out; have := HM.out; have := HML.out; simp; omega)
                clear HS4
                go_wp2_with fail
                refine hcall.mono ?_
                rintro e w2 ⟨rfl, S5⟩
                go_wp2
                go_end0
                refine ⟨rfl, ?_⟩
                rw [HR.out]
                simpa using S5
              · have z2 : decide ((en : Int) < (b : Int)) = false := by simp; omega
                have hnil : Y2 = [] := List.eq_nil_of_length_eq_zero (by have := HLN.out; have := HM.out; omega)
                have HNIL : Hid (Y2 = []) := hnil
                clear hnil
                go_wp2
                go_end0
                refine ⟨rfl, ?_⟩
                have h := HS4.out
                rw [HR.out, HNIL.out, mrg_nil_right]
                rw [HNIL.out] at h
                simpa using h
            · have z1 : decide ((mid : Int) < (en : Int)) = false := by simp; omega
              have hnil : X2 = [] := List.eq_nil_of_length_eq_zero (by have := HLN.out; have := HM.out; omega)
              have HNIL : Hid (X2 = []) := hnil
              clear hnil
              go_wp2
              go_end0
              refine ⟨rfl, ?_⟩
              have h := HS4.out
              rw [HR.out, HNIL.out, mrg_nil_left]
              rw [HNIL.out] at h
              simpa using h
end Go.Proofs.Ytfajbkofbjcbbaa
