/- Walks: the library's stable sort: rotate. -/
import Derived.Test.YtfajbkofbjcbbaaWP
namespace Go.Proofs.Ytfajbkofbjcbbaa
open Go.Shelf Go.RowKit Go.Lib Go.Sort
variable {P : Program} {α : Type} [Inhabited α]

set_option maxHeartbeats 4000000 in
set_option maxRecDepth 1000000 in
/-- two runs side by side are exchanged -/
theorem rotate_g (L : StL P) (k : Nat) (aE : ∀ w, (isAgg 75).run P w = .ok true w) (zE : ∀ w, (Go.sizeOf 75).run P w = .ok k w) (enc : α → List Value) (g : Nat) (cb : Array Value) (blk off cap n : Nat) (d0 : Array α) (w0 w : World)
    (pre X Y post : List α) (hX : 0 < X.length) (hY : 0 < Y.length) (R : RowK enc k w0 blk off d0) (hs : d0.size = n) (hn : (pre ++ X ++ Y ++ post).length = n) (S : SWK enc k w0 blk off (pre ++ X ++ Y ++ post).toArray w) (hsz : n < 4611686018427387904)
    (a m b : Nat) (ha : a = pre.length) (hm : m = pre.length + X.length) (hb : b = pre.length + X.length + Y.length) :
    Calls P 127 #[.slice (some ⟨blk, off, none⟩) n cap, .int .i64 a, .int .i64 m, .int .i64 b, .func (.func g) #[] cb] w fun e w' => e = .returned (.tuple #[]) ∧ SWK enc k w0 blk off (pre ++ Y ++ X ++ post).toArray w' := by
  have mixed := L.mixed; have t0 := L.t0; have a0 := L.a0; have z0 := L.z0; have v0 := L.v0; have t3 := L.t3; have a3 := L.a3; have z3 := L.z3; have v3 := L.v3; have t4 := L.t4; have a4 := L.a4; have z4 := L.z4; have v4 := L.v4; have t117 := L.t117; have a117 := L.a117; have z117 := L.z117; have v117 := L.v117
  have u117 := run_underlying L.t117
  have e132 : ∀ args w, (callFunc 132 args).run P w = .ok (.enter 132 args) w := enters_of L.f132 (by kernel_rfl) rfl
  have S0 : Aside (SWK enc k w0 blk off (pre ++ X ++ Y ++ post).toArray w) := S
  have HN : Hid (pre.length + X.length + Y.length + post.length = n) := by show _ = _; rw [← hn]; simp; omega
  have HT : Hid ((pre ++ X ++ Y ++ post).length = n) := hn
  have hC : ∀ (pre' X' mid Y' post' : List α) (W : World) (a' b' c' : Nat), X'.length = Y'.length → (pre' ++ X' ++ mid ++ Y' ++ post').length = n → SWK enc k w0 blk off (pre' ++ X' ++ mid ++ Y' ++ post').toArray W → a' = pre'.length → b' = pre'.length + X'.length + mid.length → c' = X'.length →
      Calls P 132 #[.slice (some ⟨blk, off, none⟩) n cap, .int .i64 a', .int .i64 b', .int .i64 c', .func (.func g) #[] cb] W fun e w' => e = .returned (.tuple #[]) ∧ SWK enc k w0 blk off (pre' ++ Y' ++ mid ++ X' ++ post').toArray w' :=
    fun pre' X' mid Y' post' W a' b' c' h1 h2 h3 h4 h5 h6 => swapRange_g L k aE zE enc g cb blk off cap n d0 w0 W pre' X' mid Y' post' h1 R hs h2 h3 hsz a' b' c' h4 h5 h6
  have HC : Aside _ := hC
  clear hC S hn
  have hbn : b ≤ n := by have := HN.out; omega
  have ham : a < m := by omega
  have hmb : m < b := by omega
  have s1 : (m : Int) - (a : Int) = ((m - a : Nat) : Int) := by omega
  have s2 : (b : Int) - (m : Int) = ((b - m : Nat) : Int) := by omega
  have hbm : b - a = X.length + Y.length := by omega
  have HE : Hid (m - a = X.length ∧ b - m = Y.length ∧ m = pre.length + (m - a) ∧ b - a = X.length + Y.length) := ⟨by omega, by omega, by omega, by omega⟩
  clear ha hm hb hbm
  go_enter L.f127, Try.ntmps127
  go_wp2
  go_loopg [10, 11] (b - a) (fun kx s t wr => ∃ (i j : Nat) (pre' X' Y' post' : List α), s = .int .i64 i ∧ t = .int .i64 j ∧ 0 < i ∧ 0 < j ∧ i + j ≤ kx + 1 ∧ Aside (SWK enc k w0 blk off (pre' ++ X' ++ Y' ++ post').toArray wr) ∧ Hid (i = X'.length ∧ j = Y'.length ∧ m = pre'.length + i) ∧
    Aside (pre' ++ Y' ++ X' ++ post' = pre ++ Y ++ X ++ post) ∧ Hid (pre'.length + i + j + post'.length = n))
  case atStart => exact ⟨m - a, b - m, pre, X, Y, post, rfl, rfl, by omega, by omega, by omega, S0, ⟨HE.out.1, HE.out.2.1, HE.out.2.2.1⟩, rfl, by have h1 := HN.out; have h2 := HE.out; show _ = _; omega⟩
  case round =>
    clear S0 s1 s2
    obtain ⟨i, j, pre', X', Y', post', rfl, rfl, hi, hj, hkx, S1, HXY, hT, HLEN⟩ := hrel
    have hX' := HXY.out.1
    have hY' := HXY.out.2.1
    have hm' := HXY.out.2.2
    have hlen := HLEN.out
    have hin : i < n := by omega
    have hjn : j < n := by omega
    have him : i ≤ m := by omega
    have hmjn : m + j ≤ n := by omega
    have hmi : (m : Int) - (i : Int) = ((m - i : Nat) : Int) := by omega
    rcases Nat.lt_trichotomy i j with hij | hij | hij
    · -- the left one is shorter
      have d1 : ((i : Int) != (j : Int)) = true := by simp; omega
      have d2 : decide ((j : Int) < (i : Int)) = false := by simp; omega
      have hmj : (m : Int) + (j : Int) - (i : Int) = ((m + j - i : Nat) : Int) := by omega
      have hji : (j : Int) - (i : Int) = ((j - i : Nat) : Int) := by omega
      have hcall := HC.out pre' X' (Y'.take (j - i)) (Y'.drop (j - i)) post' wr (m - i) (m + j - i) i (by simp; omega) (by simp; omega) (by rw [show pre' ++ X' ++ List.take (j - i) Y' ++ List.drop (j - i) Y' ++ post' = pre' ++ X' ++ Y' ++ post' by simp]; exact S1.out) (by omega) (by simp; omega) hX'
      have hnew : Hid (pre' ++ Y'.take (j - i) ++ Y'.drop (j - i) ++ (X' ++ post') = pre ++ Y ++ X ++ post) := by
        show _ = _; rw [← hT]; simp
      have hj2 : Hid (j - i = (Y'.take (j - i)).length ∧ i = (Y'.drop (j - i)).length) := by refine ⟨?_, ?_⟩ <;> (simp; omega)
      rw [← hmi, ← hmj] at hcall
      clear hT HC hmi S1 hX' hY' hm' hlen
      have hmjl : m + j - i ≤ n := by omega
      clear hmj
      go_wp2_with fail
      refine hcall.mono ?_
      rintro e w2 ⟨rfl, S2⟩
      go_wp2
      go_roundg (j - 1)
      case measure => omega
      case rel => exact ⟨i, j - i, pre', Y'.drop (j - i), Y'.take (j - i), X' ++ post', rfl, rfl, hi, by omega, by omega, by rw [show pre' ++ List.drop (j - i) Y' ++ List.take (j - i) Y' ++ (X' ++ post') = pre' ++ List.drop (j - i) Y' ++ List.take (j - i) Y' ++ X' ++ post' by simp]; exact S2, ⟨hj2.out.2, hj2.out.1, HXY.out.2.2⟩, hnew.out, by have h1 := HLEN.out; have h2 := HXY.out; show _ = _; simp; omega⟩
    · -- alike
      subst hij
      have hcall := HC.out pre' X' [] Y' post' wr (m - i) m i (by omega) (by simp; omega) (by simpa using S1.out) (by omega) (by simp; omega) hX'
      rw [← hmi] at hcall
      clear HC hmi S1 hX' hY' hm' hlen
      go_wp2_with fail
      refine hcall.mono ?_
      rintro e w2 ⟨rfl, S2⟩
      go_wp2
      go_end0
      refine ⟨rfl, ?_⟩
      rw [← hT]
      simpa using S2
    · -- the right one is shorter
      have d1 : ((i : Int) != (j : Int)) = true := by simp; omega
      have d2 : decide ((j : Int) < (i : Int)) = true := by simp; omega
      have hij' : (i : Int) - (j : Int) = ((i - j : Nat) : Int) := by omega
      have hcall := HC.out pre' (X'.take j) (X'.drop j) Y' post' wr (m - i) m j (by simp; omega) (by simp; omega) (by rw [show pre' ++ List.take j X' ++ List.drop j X' ++ Y' ++ post' = pre' ++ X' ++ Y' ++ post' by simp]; exact S1.out) (by omega) (by simp; omega) (by simp; omega)
      have hnew : Hid (pre' ++ Y' ++ X'.take j ++ X'.drop j ++ post' = pre ++ Y ++ X ++ post) := by
        show _ = _; rw [← hT]; simp
      have hj2 : Hid (j = (X'.take j).length ∧ i - j = (X'.drop j).length) := by refine ⟨?_, ?_⟩ <;> (simp; omega)
      rw [← hmi] at hcall
      clear hT HC hmi S1 hX' hY' hm' hlen
      go_wp2_with fail
      refine hcall.mono ?_
      rintro e w2 ⟨rfl, S2⟩
      go_wp2
      go_roundg (i - 1)
      case measure => omega
      case rel => exact ⟨i - j, j, pre' ++ Y', X'.drop j, X'.take j, post', rfl, rfl, by omega, hj, by omega, S2, ⟨hj2.out.2, hj2.out.1, by have h2 := HXY.out; simp; omega⟩, hnew.out, by have h1 := HLEN.out; have h2 := HXY.out; show _ = _; simp; omega⟩
end Go.Proofs.Ytfajbkofbjcbbaa
