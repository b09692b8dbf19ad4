/- Walks over any program that bears these bodies: the library's stable sort of posts.entry: swapRange, rotate. -/
import Derived.Shelf.SlSortCmp.KitK
import Derived.Sort.WalkB2
import Derived.Sort.WalkB12
import Derived.Deep.LoopGhost
import Derived.Lib.Hide
import Derived.Test.YtfajbkofbjcbbaaPlainE
import Derived.Test.YtfajbkofbjcbbaaShelf
namespace Go.Proofs.Ytfajbkofbjcbbaa
open Go.Shelf Go.RowKit Go.Lib Go.Sort

/-- a program that bears the bodies -/
structure StL (P : Program) : Prop where
  mixed : P.follows .mixedOrders = true
  f98 : P.funcs[98]? = some Try.f98
  f112 : P.funcs[112]? = some Try.f112
  f127 : P.funcs[127]? = some Try.f127
  f132 : P.funcs[132]? = some Try.f132
  t0 : P.underlying 0 = some (TypeDesc.tuple #[])
  a0 : ∀ w, (isAgg 0).run P w = .ok false w
  z0 : ∀ w, (Go.sizeOf 0).run P w = .ok 1 w
  v0 : ∀ w, (zeroValue 0).run P w = .ok (Value.tuple #[]) w
  t3 : P.underlying 3 = some (TypeDesc.int IntKind.i64)
  a3 : ∀ w, (isAgg 3).run P w = .ok false w
  z3 : ∀ w, (Go.sizeOf 3).run P w = .ok 1 w
  v3 : ∀ w, (zeroValue 3).run P w = .ok (Value.int IntKind.i64 0) w
  t4 : P.underlying 4 = some (TypeDesc.bool)
  a4 : ∀ w, (isAgg 4).run P w = .ok false w
  z4 : ∀ w, (Go.sizeOf 4).run P w = .ok 1 w
  v4 : ∀ w, (zeroValue 4).run P w = .ok (Value.bool false) w
  t117 : P.underlying 117 = some (TypeDesc.slice 75)
  a117 : ∀ w, (isAgg 117).run P w = .ok false w
  z117 : ∀ w, (Go.sizeOf 117).run P w = .ok 1 w
  v117 : ∀ w, (zeroValue 117).run P w = .ok (Value.slice none 0 0) w
  t132 : P.underlying 132 = some (TypeDesc.int IntKind.u64)
  a132 : ∀ w, (isAgg 132).run P w = .ok false w
  z132 : ∀ w, (Go.sizeOf 132).run P w = .ok 1 w
  v132 : ∀ w, (zeroValue 132).run P w = .ok (Value.int IntKind.u64 0) w

variable {P : Program} {α : Type} [Inhabited α]

theorem stL : StL Try.prog where
  mixed := by kernel_rfl
  f98 := Try.func98
  f112 := Try.func112
  f127 := Try.func127
  f132 := Try.func132
  t0 := Try.underlying0
  a0 := Try.isAgg0
  z0 := Try.sizeOf0
  v0 := Try.zeroValue0
  t3 := Try.underlying3
  a3 := Try.isAgg3
  z3 := Try.sizeOf3
  v3 := Try.zeroValue3
  t4 := Try.underlying4
  a4 := Try.isAgg4
  z4 := Try.sizeOf4
  v4 := Try.zeroValue4
  t117 := Try.underlying117
  a117 := Try.isAgg117
  z117 := Try.sizeOf117
  v117 := Try.zeroValue117
  t132 := Try.underlying132
  a132 := Try.isAgg132
  z132 := Try.sizeOf132
  v132 := Try.zeroValue132

set_option maxHeartbeats 4000000 in
set_option maxRecDepth 1000000 in
/-- two runs are exchanged -/
theorem swapRange_g (L : StL P) (k : Nat) (aE : ∀ w, (isAgg 75).run P w = .ok true w) (zE : ∀ w, (Go.sizeOf 75).run P w = .ok k w) (enc : α → List Value) (g : Nat) (cb : Array Value) (blk off cap n : Nat) (d0 : Array α) (w0 w : World)
    (pre X mid Y post : List α) (hXY : X.length = Y.length) (R : RowK enc k w0 blk off d0) (hs : d0.size = n) (hn : (pre ++ X ++ mid ++ Y ++ post).length = n) (S : SWK enc k w0 blk off (pre ++ X ++ mid ++ Y ++ post).toArray w) (hsz : n < 4611686018427387904)
    (a b c : Nat) (ha : a = pre.length) (hb : b = pre.length + X.length + mid.length) (hc : c = X.length) :
    Calls P 132 #[.slice (some ⟨blk, off, none⟩) n cap, .int .i64 a, .int .i64 b, .int .i64 c, .func (.func g) #[] cb] w fun e w' => e = .returned (.tuple #[]) ∧ SWK enc k w0 blk off (pre ++ Y ++ mid ++ X ++ post).toArray w' := by
  have mixed := L.mixed; have t0 := L.t0; have a0 := L.a0; have z0 := L.z0; have v0 := L.v0; have t3 := L.t3; have a3 := L.a3; have z3 := L.z3; have v3 := L.v3; have t4 := L.t4; have a4 := L.a4; have z4 := L.z4; have v4 := L.v4; have t117 := L.t117; have a117 := L.a117; have z117 := L.z117; have v117 := L.v117
  have u117 := run_underlying L.t117
  have S0 : Aside (SWK enc k w0 blk off (pre ++ X ++ mid ++ Y ++ post).toArray w) := S
  have HN : Hid (pre.length + X.length + mid.length + Y.length + post.length = n) := by show _ = _; rw [← hn]; simp; omega
  clear S hn
  have hcn : c < 4611686018427387904 := by have := HN.out; omega
  go_enter L.f132, Try.ntmps132
  go_wp2
  go_loopg [10] (c) (fun kx s wr => ∃ i : Nat, s = .int .i64 i ∧ i ≤ c ∧ c - i ≤ kx ∧ Aside (SWK enc k w0 blk off (pre ++ (Y.take i ++ X.drop i) ++ mid ++ (X.take i ++ Y.drop i) ++ post).toArray wr))
  case atStart => exact ⟨0, rfl, Nat.zero_le _, by omega, by simpa using S0⟩
  case round =>
    clear S0
    obtain ⟨i, rfl, hi, hkx, S1⟩ := hrel
    by_cases hlt : i < c
    · have hN := HN.out
      have hltz : (i : Int) < (c : Int) := by omega
      have hiX : i < X.length := by omega
      have hiY : i < Y.length := by omega
      obtain ⟨dk, hdk⟩ : ∃ dk, dk = (pre ++ (Y.take i ++ X.drop i) ++ mid ++ (X.take i ++ Y.drop i) ++ post).toArray := ⟨_, rfl⟩
      have hds : dk.size = n := by rw [hdk]; simp; omega
      have hnew : Hid (swp dk (a + i) (b + i) = (pre ++ (Y.take (i + 1) ++ X.drop (i + 1)) ++ mid ++ (X.take (i + 1) ++ Y.drop (i + 1)) ++ post).toArray) := by
        show _ = _
        have e := swp_list (pre ++ Y.take i) (X.drop (i + 1) ++ mid ++ X.take i) (Y.drop (i + 1) ++ post) X[i] Y[i] (a + i) (b + i) (by simp; omega) (by simp; omega)
        rw [hdk, List.take_succ_eq_append_getElem hiY, List.take_succ_eq_append_getElem hiX]
        rw [List.drop_eq_getElem_cons hiX, List.drop_eq_getElem_cons hiY]
        simp only [List.append_assoc, List.cons_append, List.nil_append] at e ⊢
        exact e
      rw [← hdk] at S1
      have HDK : Hid (dk = (pre ++ (Y.take i ++ X.drop i) ++ mid ++ (X.take i ++ Y.drop i) ++ post).toArray) := hdk
      clear hdk
      have ea44 : ((a : Int) + (i : Int)).toNat = a + i := by omega
      have pa44 : (0 : Int) ≤ (a : Int) + (i : Int) := by omega
      have ba44 : (a : Int) + (i : Int) < (n : Int) := by omega
      have ra44 : IntKind.i64.wrap ((a : Int) + (i : Int)) = (a : Int) + (i : Int) := by rw [IntKind.wrap_i64]; omega
      have ec44 : ((b : Int) + (i : Int)).toNat = b + i := by omega
      have pc44 : (0 : Int) ≤ (b : Int) + (i : Int) := by omega
      have bc44 : (b : Int) + (i : Int) < (n : Int) := by omega
      have rc44 : IntKind.i64.wrap ((b : Int) + (i : Int)) = (b : Int) + (i : Int) := by rw [IntKind.wrap_i64]; omega
      have S2 : Aside (SWK enc k w0 blk off (swp dk (a + i) (b + i)) ((wr.drew.setCells blk (off + (a + i) * k) (enc dk[b + i]!)).setCells blk (off + (b + i) * k) (enc dk[a + i]!))) := S1.out.swapped R (a + i) (b + i) (by omega) (by omega)
      have l44a := S1.out.ld1 R (by omega) P (a + i) (by omega)
      have l44b := S1.out.ld1 R (by omega) P (b + i) (by omega)
      have s44a := S1.out.st1 R (by omega) P (a + i) (by omega) dk[b + i]!
      have s44b := S1.out.st2 R (by omega) P (a + i) (b + i) (by omega) (by omega) dk[b + i]! dk[a + i]!
      have n44a : (enc dk[a + i]!).length = k := R.hk _
      have n44b : (enc dk[b + i]!).length = k := R.hk _
      generalize enc dk[a + i]! = cI44 at S2 l44a s44b n44a
      generalize enc dk[b + i]! = cJ44 at S2 l44b s44a s44b n44b
      clear S1 hN ha hb hc hiX hiY hXY
      go_wp2_with fail
      go_big_region_o
      clear l44a l44b s44a s44b
      generalize (wr.drew.setCells blk (off + (a + i) * k) cJ44).setCells blk (off + (b + i) * k) cI44 = w2 at S2 ⊢
      go_wp2
      go_roundg (c - (i + 1))
      case measure => omega
      case rel =>
        rw [hnew.out] at S2
        exact ⟨i + 1, by simp, by omega, Nat.le_refl _, S2⟩
    · have hic : i = c := by omega
      have HIC := Lib.hid hic
      clear hic
      have hltz : ¬ (i : Int) < (c : Int) := by omega
      go_wp2
      go_end0
      refine ⟨rfl, ?_⟩
      have h := S1.out
      rw [HIC.out, show Y.take c = Y from List.take_of_length_le (by omega), show X.drop c = [] from List.drop_eq_nil_of_le (by omega), show X.take c = X from List.take_of_length_le (by omega), show Y.drop c = [] from List.drop_eq_nil_of_le (by omega)] at h
      simpa using h
end Go.Proofs.Ytfajbkofbjcbbaa
