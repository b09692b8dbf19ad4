/- Walks: the library's stable sort: stable. -/
import Derived.Test.YtfajbkofbjcbbaaWU
import Derived.Test.YtfajbkofbjcbbaaPlainH
namespace Go.Proofs.Ytfajbkofbjcbbaa
open Go.Shelf Go.RowKit Go.Lib Go.Sort
variable {P : Program} {α : Type} [Inhabited α]

set_option maxHeartbeats 4000000 in
set_option maxRecDepth 1000000 in
theorem stable_g (L : StL P) (k : Nat) (aE : ∀ w, (isAgg 75).run P w = .ok true w) (zE : ∀ w, (Go.sizeOf 75).run P w = .ok k w) (enc : α → List Value) (cf : α → α → Int) (hO : SWO (ltOf cf)) (g : Nat) (cb : Array Value) (blk off cap n : Nat) (d0 : Array α) (w0 : World)
    (eg : ∀ args w, (callFunc g args).run P w = .ok (.enter g args) w) (hcmp : CmpLays P g cb enc k cf blk off n w0) (R : RowK enc k w0 blk off d0) (hs : d0.size = n) (hsz : n < 1152921504606846976)
    (ix : α → Nat) (ds : List α) (hds : d0 = ds.toArray) (hix : ds.Pairwise fun x y => ix x < ix y)
    (e111 : ∀ args w, (callFunc 111 args).run P w = .ok (.enter 111 args) w)
    (HI : ∀ (d : Array α) (W : World) (a b : Nat), d.size = n → SWK enc k w0 blk off d W → a ≤ b → b ≤ n → Calls P 111 #[.slice (some ⟨blk, off, none⟩) n cap, .int .i64 a, .int .i64 b, .func (.func g) #[] cb] W
      fun e w' => e = .returned (.tuple #[]) ∧ SWK enc k w0 blk off (Sort.insertionSort (ltOf cf) d a b) w') :
    Calls P 98 #[.slice (some ⟨blk, off, none⟩) n cap, .int .i64 n, .func (.func g) #[] cb] w0 fun e w' => e = .returned (.tuple #[]) ∧ Hid (∃ M : List α, M.Perm ds ∧ Stb (ltOf cf) ix M ∧ SWK enc k w0 blk off M.toArray w') := by
  have mixed := L.mixed; have t0 := L.t0; have a0 := L.a0; have z0 := L.z0; have v0 := L.v0; have t3 := L.t3; have a3 := L.a3; have z3 := L.z3; have v3 := L.v3; have t4 := L.t4; have a4 := L.a4; have z4 := L.z4; have v4 := L.v4; have t117 := L.t117; have a117 := L.a117; have z117 := L.z117; have v117 := L.v117
  have u117 := run_underlying L.t117
  have u3 := run_underlying L.t3
  have e112 : ∀ args w, (callFunc 112 args).run P w = .ok (.enter 112 args) w := enters_of L.f112 (by kernel_rfl) rfl
  have S0 : Aside (SWK enc k w0 blk off ds.toArray w0) := by
    have h := SWK.start R.hH
    rw [hds] at h
    exact h
  have HDN : Hid (ds.length = n) := by show _ = _; rw [← hs, hds]; simp
  have HSYM : Aside (∀ (pre X Y post : List α) (w : World), 0 < X.length → 0 < Y.length → Srt (ltOf cf) X → Srt (ltOf cf) Y → (pre ++ X ++ Y ++ post).length = n → SWK enc k w0 blk off (pre ++ X ++ Y ++ post).toArray w →
      ∀ a m b : Nat, a = pre.length → m = pre.length + X.length → b = pre.length + X.length + Y.length →
      Calls P 112 #[.slice (some ⟨blk, off, none⟩) n cap, .int .i64 a, .int .i64 m, .int .i64 b, .func (.func g) #[] cb] w fun e w' => e = .returned (.tuple #[]) ∧ SWK enc k w0 blk off (pre ++ mrg (ltOf cf) X Y ++ post).toArray w') :=
    fun pre X Y post w h1 h2 h3 h4 h5 h6 => symMerge_g L k aE zE enc cf hO g cb blk off cap n d0 w0 eg hcmp R hs (by omega) _ pre X Y post w (Nat.le_refl _) h1 h2 h3 h4 h5 h6
  have HI' : Aside _ := HI
  have HIX : Aside _ := hix
  clear HI hcmp hds R hs hix
  go_enter L.f98, Try.ntmps98
  go_wp2
  go_loopg [7, 8] n (fun kx s7 s8 wr => ∃ (B : List (List α × List α)) (a : Nat), s7 = .int .i64 a ∧ s8 = .int .i64 ((a : Int) + 20) ∧ Hid (a = B.length * 20) ∧ a ≤ n ∧ n - a ≤ kx ∧ Aside (SWK enc k w0 blk off (fl1 B ++ ds.drop a).toArray wr) ∧ Aside (Blks (ltOf cf) ix 20 B ∧ fl2 B = ds.take a))
  case atStart => exact ⟨[], 0, rfl, by go_num, rfl, Nat.zero_le _, by omega, by simpa [fl1_nil] using S0, (⟨fun p hp => absurd hp (by simp), by simp [fl2_nil]⟩ : Blks (ltOf cf) ix 20 [] ∧ fl2 [] = ds.take 0)⟩
  case round =>
    clear S0
    obtain ⟨B, a, rfl, rfl, HB, ha, hkx, S1, HBB⟩ := hrel
    have hsz1 : Hid ((fl1 B ++ ds.drop a).toArray.size = n) := by
      show _ = _
      have h1 := HBB.out.1.length.1
      have h2 := HB.out
      have h3 := HDN.out
      simp; omega
    by_cases hlt : a + 20 ≤ n
    · have hltz : (a : Int) + 20 ≤ (n : Int) := by omega
      have hst : ∃ B' : List (List α × List α), a + 20 = B'.length * 20 ∧ Blks (ltOf cf) ix 20 B' ∧ fl2 B' = ds.take (a + 20) ∧ insertionSort (ltOf cf) (fl1 B ++ ds.drop a).toArray a (a + 20) = (fl1 B' ++ ds.drop (a + 20)).toArray := by
        obtain ⟨B', h1, h2, h3, h4⟩ := ins_step hO HIX.out HBB.out.1 (by rw [← HB.out]; exact HBB.out.2) (by rw [← HB.out, HDN.out]; exact hlt)
        have hB' : a + 20 = B'.length * 20 := by have := HB.out; omega
        rw [← hB'] at h3 h4
        rw [← HB.out] at h4
        exact ⟨B', hB', h2, h3, h4⟩
      obtain ⟨B', q1, q2, q3, q4⟩ := hst
      have hcall := HI'.out _ wr a (a + 20) hsz1.out S1.out (by omega) hlt
      rw [q4] at hcall
      have z1 : ((a + 20 : Nat) : Int) = (a : Int) + 20 := by omega
      rw [z1] at hcall
      have Q1 : Hid (a + 20 = B'.length * 20) := q1
      have Q2 : Aside (Blks (ltOf cf) ix 20 B' ∧ fl2 B' = ds.take (a + 20)) := ⟨q2, q3⟩
      clear q1 q2 q3 q4 z1 S1
      go_wp2_with fail
      refine hcall.mono ?_
      rintro e w2 ⟨rfl, S2⟩
      have S3 : Aside _ := S2
      clear S2
      go_wp2
      go_roundg (n - (a + 20))
      case measure => omega
      case rel => exact ⟨B', a + 20, by go_num, by go_num, Q1, hlt, Nat.le_refl _, S3, Q2⟩
    · have hltz : ¬ (a : Int) + 20 ≤ (n : Int) := by omega
      have hst : ∃ T : List α, insertionSort (ltOf cf) (fl1 B ++ ds.drop a).toArray a n = (fl1 B ++ T).toArray ∧ St (ltOf cf) ix ds 20 B T := by
        have h2 := HBB.out.2
        have hn1 := HB.out
        have hn2 := HDN.out
        obtain ⟨T, h3, h4, h5⟩ := ins_last hO HIX.out HBB.out.1 (by omega)
        rw [hn2, ← HB.out] at h3
        refine ⟨T, h3, HBB.out.1, h5, ?_, h4, by rw [← HB.out]; exact h2, ?_⟩
        · rw [h4.length_eq, List.length_drop]; omega
        · rw [h4.length_eq, List.length_drop]; omega
      obtain ⟨T, q1, q2⟩ := hst
      have hcall := HI'.out _ wr a n hsz1.out S1.out ha (Nat.le_refl _)
      rw [q1] at hcall
      have Q2 : Aside _ := q2
      clear q1 q2 S1
      go_wp2_with fail
      refine hcall.mono ?_
      rintro e w2 ⟨rfl, S2⟩
      have S3 : Aside (SWK enc k w0 blk off (fl1 B ++ T).toArray w2) := S2
      clear S2 hcall
      go_wp2
      go_loopg [6] n (fun kx s6 wr => ∃ (B : List (List α × List α)) (T : List α) (bs : Nat), s6 = .int .i64 bs ∧ 20 ≤ bs ∧ bs ≤ 2 * n + 20 ∧ n - bs ≤ kx ∧ Aside (SWK enc k w0 blk off (fl1 B ++ T).toArray wr) ∧ Aside (St (ltOf cf) ix ds bs B T))
      case atStart => exact ⟨B, T, 20, rfl, Nat.le_refl _, by omega, by omega, S3, Q2⟩
      case round =>
        clear S3 Q2 hsz1 HB HBB hltz hlt hkx ha
        obtain ⟨B, T, bs, rfl, hbs, hbs2, hkx, S1, HST⟩ := hrel
        by_cases hlt : bs < n
        · have hltz : (bs : Int) < (n : Int) := by omega
          obtain ⟨wo, rfl⟩ : ∃ wo : World, wo = wr := ⟨_, rfl⟩
          have HH : Aside (Half (ltOf cf) ix ds bs [] B T) := Half.start HST.out
          go_wp2
          go_loopg [7, 8] n (fun ky s7 s8 wr => ∃ (C Q : List (List α × List α)) (a : Nat), s7 = .int .i64 a ∧ s8 = .int .i64 ((a : Int) + 2 * (bs : Int)) ∧ Hid (a = C.length * (2 * bs)) ∧ a ≤ n ∧ n - a ≤ ky ∧ Aside (SWK enc k w0 blk off (fl1 C ++ fl1 Q ++ T).toArray wr) ∧ Aside (Half (ltOf cf) ix ds bs C Q T))
          case atStart => exact ⟨[], B, 0, rfl, by go_num, by show _ = _; simp, Nat.zero_le _, by omega, by simpa [fl1_nil] using S1, HH⟩
          case round =>
            clear S1 HST HH
            obtain ⟨C, Q, a, rfl, rfl, HA, ha, hky, S2, HH⟩ := hrel
            by_cases hlt2 : a + 2 * bs ≤ n
            · have hlt2z : (a : Int) + 2 * (bs : Int) ≤ (n : Int) := by omega
              obtain ⟨X, c1, Y, c2, Q', rfl⟩ := HH.out.two (by rw [← HA.out, HDN.out]; exact hlt2)
              obtain ⟨p1, p2, p3, p4, p5, p6⟩ := HH.out.step hO HIX.out
              have hlen : (fl1 C ++ X ++ Y ++ (fl1 Q' ++ T)).length = n := by
                have h1 := p1.hn
                have h2 := p1.hR.length.1
                have h3 := HDN.out
                have h4 := HA.out
                rw [List.length_append, List.length_singleton, Nat.add_mul, Nat.one_mul] at h1
                simp only [List.length_append]
                omega
              have hcall := HSYM.out (fl1 C) X Y (fl1 Q' ++ T) wr (by omega) (by omega) p4 p5 hlen (by have h := S2.out; rw [fl1_cons, fl1_cons] at h; rw [show fl1 C ++ X ++ Y ++ (fl1 Q' ++ T) = fl1 C ++ (X ++ (Y ++ fl1 Q')) ++ T by simp]; exact h) a (a + bs) (a + 2 * bs) (by rw [p6]; exact HA.out) (by rw [p6, p2, ← HA.out]) (by rw [p6, p2, p3, ← HA.out]; omega)
              have z1 : ((a + bs : Nat) : Int) = (a : Int) + (bs : Int) := by omega
              have z2 : ((a + 2 * bs : Nat) : Int) = (a : Int) + 2 * (bs : Int) := by omega
              rw [z1, z2] at hcall
              have HH2 : Aside _ := p1
              have HA2 : Hid (a + 2 * bs = (C ++ [(mrg (ltOf cf) X Y, c1 ++ c2)]).length * (2 * bs)) := by
                show _ = _
                rw [List.length_append, List.length_singleton, Nat.add_mul, Nat.one_mul, ← HA.out]
              clear z1 z2 p1 p2 p3 p4 p5 p6 hlen S2 HH
              go_wp2_with fail
              refine hcall.mono ?_
              rintro e w2 ⟨rfl, S3⟩
              have S4 : Aside (SWK enc k w0 blk off (fl1 (C ++ [(mrg (ltOf cf) X Y, c1 ++ c2)]) ++ fl1 Q' ++ T).toArray w2) := by
                rw [fl1_append, fl1_cons, fl1_nil, List.append_nil, show fl1 C ++ mrg (ltOf cf) X Y ++ fl1 Q' ++ T = fl1 C ++ mrg (ltOf cf) X Y ++ (fl1 Q' ++ T) by simp]
                exact S3
              clear S3 hcall
              go_wp2
              go_roundg (n - (a + 2 * bs))
              case measure => omega
              case rel => exact ⟨_, Q', a + 2 * bs, by go_num, by go_num, HA2, hlt2, Nat.le_refl _, S4, HH2⟩
            · have hlt2z : ¬ (a : Int) + 2 * (bs : Int) ≤ (n : Int) := by omega
              by_cases hm : a + bs < n
              · have hmz : (a : Int) + (bs : Int) < (n : Int) := by omega
                obtain ⟨r, rfl, p2, p3, p4, p5, p6, p7⟩ := HH.out.odd hO HIX.out (by rw [← HA.out, HDN.out]; omega) (by rw [← HA.out, HDN.out]; exact hm)
                have hlen : (fl1 C ++ r.1 ++ T ++ []).length = n := by
                  have h1 := p7.hn
                  have h3 := HDN.out
                  rw [mrg_length] at h1
                  simp only [List.length_append, List.length_nil]
                  omega
                have hcall := HSYM.out (fl1 C) r.1 T [] wr (by omega) p3 p4 p5 hlen (by have h := S2.out; rw [fl1_cons, fl1_nil, List.append_nil] at h; rw [List.append_nil]; exact h) a (a + bs) n (by rw [p6]; exact HA.out) (by rw [p6, p2, ← HA.out]) (by simp only [List.length_append, List.length_nil] at hlen; omega)
                have z1 : ((a + bs : Nat) : Int) = (a : Int) + (bs : Int) := by omega
                rw [z1] at hcall
                have HS2 : Aside _ := p7
                clear z1 p2 p3 p4 p5 p6 p7 hlen S2 HH
                go_wp2_with fail
                refine hcall.mono ?_
                rintro e w2 ⟨rfl, S3⟩
                have S4 : Aside (SWK enc k w0 blk off (fl1 C ++ mrg (ltOf cf) r.1 T).toArray w2) := by rw [List.append_nil] at S3; exact S3
                clear S3 hcall
                go_wp2
                go_roundg (n - 2 * bs)
                case measure => omega
                case rel => exact ⟨C, _, 2 * bs, by go_num, by omega, by omega, Nat.le_refl _, S4, HS2⟩
              · have hmz : ¬ (a : Int) + (bs : Int) < (n : Int) := by omega
                obtain ⟨T', p1, p2⟩ := HH.out.even (by rw [← HA.out, HDN.out]; omega) (by rw [← HA.out, HDN.out]; omega)
                have S4 : Aside (SWK enc k w0 blk off (fl1 C ++ T').toArray wr) := by rw [← p1, ← List.append_assoc]; exact S2
                have HS2 : Aside _ := p2
                clear p1 p2 S2 HH
                go_wp2
                go_roundg (n - 2 * bs)
                case measure => omega
                case rel => exact ⟨C, T', 2 * bs, by go_num, by omega, by omega, Nat.le_refl _, S4, HS2⟩
        · have hltz : ¬ (bs : Int) < (n : Int) := by omega
          obtain ⟨f1, f2⟩ := HST.out.fin (by rw [HDN.out]; omega)
          have hout : Hid (∃ M : List α, M.Perm ds ∧ Stb (ltOf cf) ix M ∧ SWK enc k w0 blk off M.toArray wr) := ⟨_, f1, f2, S1.out⟩
          clear f1 f2
          go_wp2
          go_end0
          exact ⟨rfl, hout⟩
end Go.Proofs.Ytfajbkofbjcbbaa
