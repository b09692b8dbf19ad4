/- Walks: fold[bool], within. -/
import Derived.Test.YtfajbkofbjcbbaaWF
import Derived.Test.YtfajbkofbjcbbaaPlainC
namespace Go.Proofs.Ytfajbkofbjcbbaa
open Go.RowKit

/-- all of the first k -/
theorem oks_take_succ (l : List V) (n k : Nat) (hk : k < l.length) : oks (l.take (k + 1)) n = (oks (l.take k) n && l[k].ok n) := by
  have happ : ∀ (a b : List V), oks (a ++ b) n = (oks a n && oks b n) := by
    intro a b
    induction a with
    | nil => simp [oks]
    | cons v r ih => simp only [List.cons_append, oks, ih, Bool.and_assoc]
  rw [List.take_succ_eq_append_getElem hk, happ]
  simp [oks]

set_option maxRecDepth 100000 in
set_option maxHeartbeats 1000000 in
theorem foldB_any (S : Nat → Prop) (l : List V) (cells : List Value) (la : Option Addr) (lc n B : Nat) (g : Nat) (x : Value) (w : World) (hl : IsVs S w l cells) (hla : At S w la cells) (hll : l.length ≤ 16777216) (hS : ∀ b, S b → b < B) (hB : B ≤ w.heap.size)
    (hcl : ∀ (i : Nat) (hi : i < l.length) (b : Bool) (W : World) (cs : List Value), Below B w W → IsV S W l[i] cs → Calls Try.prog g #[.bool b, .agg cs.toArray, x] W fun e w' => e = .returned (.bool (b && l[i].ok n)) ∧ Below W.heap.size W w')
    (eg : ∀ args w, (callFunc g args).run Try.prog w = .ok (.enter g args) w) :
    Calls Try.prog 71 #[.slice la l.length lc, .bool true, .func (.func g) #[] #[x]] w fun e w' => e = .returned (.bool (oks l n)) ∧ Below w.heap.size w w' := by
  have HL := Lib.hid hl
  have HLA := Lib.hid hla
  have HCL := Lib.hid hcl
  have HS := Lib.hid hS
  clear hl hla hcl hS
  go_enter Try.func71, Try.ntmps71
  go_wp2
  go_loopw [1, 11] (fun b i wr => ∃ k : Nat, k ≤ l.length ∧ i = .int .i64 k ∧ b = .bool (oks (l.take k) n) ∧ Below w.heap.size w wr) (fun _ i _ => l.length - (intOf i).toNat)
  case atStart => exact ⟨0, Nat.zero_le _, rfl, by simp [oks], Below.refl _ _⟩
  case round =>
    obtain ⟨k, hk, rfl, rfl, hBw⟩ := hrel
    by_cases hlt : k < l.length
    · obtain ⟨b, o, la', lc', ka', kc', ha, hSb, g0, g1, g2, g3, hv⟩ := HLA.out.getF HL.out hlt
      subst ha
      have hb : b < w.heap.size := World.block_lt_of_cell? w _ g0
      have x0 := (hBw.cell (p := ⟨b, o + k * 4, none⟩) hb).trans g0
      have x1 := (hBw.cell (p := ⟨b, o + k * 4 + 1, none⟩) hb).trans g1
      have x2 := (hBw.cell (p := ⟨b, o + k * 4 + 2, none⟩) hb).trans g2
      have x3 := (hBw.cell (p := ⟨b, o + k * 4 + 3, none⟩) hb).trans g3
      have HV := Lib.hid (hv.keep (Keeps.of_ext hBw))
      have HBW := Lib.hid hBw
      have HT := Lib.hid (oks_take_succ l n k hlt)
      have hC : ∀ W, Below wr.heap.size wr W → Hid (Calls Try.prog g #[.bool (oks (l.take k) n), .agg #[.int .u8 l[k].kind, .string l[k].text, .slice la' l[k].list.length lc', .slice ka' l[k].keys.length kc'], x] W fun e w' => e = .returned (.bool (oks (l.take k) n && l[k].ok n)) ∧ Below W.heap.size W w') :=
        fun W hW => HCL.out k hlt _ W _ ((HBW.out.mono hB).trans (hW.mono (Nat.le_trans hB HBW.out.size))) (HV.out.keep (Keeps.of_ext hW))
      clear g0 g1 g2 g3 hv hBw
      go_wp2_with fail
      refine (hC _ ((Below.refl _ wr).alloc (Nat.le_refl _) _)).out.mono ?_
      rintro e w5 ⟨rfl, hb5⟩
      go_wp2
      go_roundw
      case rel => exact ⟨k + 1, by omega, by go_num, by rw [HT.out], HBW.out.trans ((((Below.refl _ wr).alloc (Nat.le_refl _) _).trans (hb5.mono (by simp))).mono HBW.out.size)⟩
      case measure => simp [intOf]; omega
    · have hk2 : k = l.length := by omega
      have HK := Lib.hid hk2
      clear hk2
      go_wp2
      go_ret
      exact ⟨by rw [HK.out, List.take_length]; rfl, hBw⟩
end Go.Proofs.Ytfajbkofbjcbbaa
