/- Walks: Clip, Clone, roots. -/
import Derived.Test.YtfajbkofbjcbbaaWB
import Derived.Test.YtfajbkofbjcbbaaPlainB
namespace Go.Proofs.Ytfajbkofbjcbbaa
open Go.RowKit

set_option maxHeartbeats 400000 in
theorem clipI_any (a : Option Addr) (n c : Nat) (w : World) (hn : n ≤ c) (_hc : n ≤ 67108864) :
    Calls Try.prog 45 #[.slice a n c] w fun e w' => e = .returned (.slice a n n) ∧ w = w' := by
  go_enter Try.func45, Try.ntmps45
  go_wp2
  go_ret
  exact ⟨rfl, rfl⟩

set_option maxHeartbeats 400000 in
theorem clipL_any (a : Option Addr) (n c : Nat) (w : World) (hn : n ≤ c) (_hc : n ≤ 67108864) :
    Calls Try.prog 44 #[.slice a n c] w fun e w' => e = .returned (.slice a n n) ∧ w = w' := by
  go_enter Try.func44, Try.ntmps44
  go_wp2
  go_ret
  exact ⟨rfl, rfl⟩


theorem elLbl : Elem Try.prog 30 46 (.agg #[.bool false, .string .empty, .int .u8 0, .string .empty]) 4 48 := by
  obtain ⟨i, h1, h2, h3, h4⟩ := info_parts (P := Try.prog) (e := 46) (z := .agg #[.bool false, .string .empty, .int .u8 0, .string .empty]) (size := 4) (bytes := 48) (by kernel_rfl)
  exact ⟨Try.underlying30, ⟨i, h1, h2, h3, h4⟩, rfl, by decide, by decide⟩

set_option maxHeartbeats 400000 in
theorem cloneL_any (S : Nat → Prop) (a : Option Addr) (n c : Nat) (cs : List Value) (w : World) (hx : At S w a cs) (hl : cs.length = n * 4) (h1 : ∀ u ∈ cs, u.oneCell' = true) (hn : n ≤ 16777216) :
    Calls Try.prog 50 #[.slice a n c] w fun e w' => ∃ v, e = .returned v ∧ w'.ownsRow w.heap.size 46 4 v n cs ∧ Below w.heap.size w w' := by
  have heq := fun u : World => Lib.run_eql_slice_nil (P := Try.prog) u 30 46 a n c 0 0 Try.underlying30
  cases a with
  | none =>
    have hcs : cs = [] := by
      by_cases h : cs = []
      · exact h
      · obtain ⟨_, _, h, _⟩ := hx h; cases h
    have hn0 : n = 0 := by rw [hcs] at hl; simp at hl; omega
    have hout : w.ownsRow w.heap.size 46 4 (.slice none 0 0) n cs := by rw [hcs, hn0]; exact World.ownsRow_nil _ _ _ _
    have HO := Lib.hid hout
    clear hcs hn0 hout hx hl h1
    go_enter Try.func50, Try.ntmps50
    go_wp2
    go_ret
    exact ⟨_, rfl, HO.out, Below.refl _ _⟩
  | some ad =>
    have hB : Below w.heap.size w (w.alloc (.cells #[] 46)) := (Below.refl _ _).alloc (Nat.le_refl _) _
    have HX := Lib.hid (hx.keep (Keeps.of_ext hB))
    have HL := Lib.hid hl
    have hown : (w.alloc (.cells #[] 46)).ownsRow w.heap.size 46 4 (.slice (some ⟨w.heap.size, 0, none⟩) 0 0) 0 [] := World.ownsRow_made w #[] 0 (Nat.le_refl _) (by unfold maxLen; omega) rfl
    have HO := Lib.hid hown
    have H1 := Lib.hid h1
    clear hx hl hown h1
    go_enter Try.func50, Try.ntmps50
    go_wp2_with (at_builtin; refine wpList_app _ rfl elLbl (.tmp 5) (.tmp 6) rfl w.heap.size _ 0 [] rfl HO.out S (some ad) n c cs rfl HL.out HX.out H1.out (by omega) (by simp) ?_; intro v1 w1 hown1 hg1 hat1; simp only [Nat.zero_add, List.nil_append] at hown1; have HO1 := Lib.hid hown1; have HG1 : Hid (World.grownBy _ w1 (some w.heap.size)) := hg1; clear hown1 hg1 hat1)
    go_ret
    exact ⟨v1, rfl, HO1.out, ((Below.refl _ w).alloc (Nat.le_refl _) _).grownAt HG1.out (by simp) (Nat.le_refl _)⟩

end Go.Proofs.Ytfajbkofbjcbbaa
