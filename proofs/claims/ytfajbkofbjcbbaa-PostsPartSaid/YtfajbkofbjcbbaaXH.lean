/- Walk: inarchlaw19.PostsPart, of what is too long; of whatever is. -/
import Derived.Test.YtfajbkofbjcbbaaXG
namespace Go.Proofs.Ytfajbkofbjcbbaa
open Go.RowKit Go.Sort Go.Shelf

set_option maxRecDepth 100000 in
set_option maxHeartbeats 2000000 in
theorem postsPart_big (la fa ra : Option Addr) (lc nf fc nr rc nl : Nat) (node : Int) (w : World) (hbig : 100 < nl ∨ 100 < nf ∨ 100 < nr) (h1 : nl ≤ 9223372036854775807) (h2 : nf ≤ 9223372036854775807) (h3 : nr ≤ 9223372036854775807) :
    Calls Try.prog 4 #[.agg #[.slice la nl lc, .slice fa nf fc, .slice ra nr rc], .int .i64 node] w fun e w' => e = .returned (.bool true) ∧ Below w.heap.size w w' := by
  have hB0 : Below w.heap.size w (w.alloc (.cells #[.slice la nl lc, .slice fa nf fc, .slice ra nr rc] 33)) := (Below.refl _ _).alloc (Nat.le_refl _) _
  have hlv := lives_any (w.alloc (.cells #[.slice la nl lc, .slice fa nf fc, .slice ra nr rc] 33))
  have HLV := Lib.hid hlv
  have HB0 := Lib.hid hB0
  clear hlv hB0
  have hcase : (100 < nl ∧ decide ((100 : Int) < (nl : Int)) = true) ∨ (nl ≤ 100 ∧ decide ((100 : Int) < (nl : Int)) = false ∧ 100 < nf ∧ decide ((100 : Int) < (nf : Int)) = true) ∨ (nl ≤ 100 ∧ decide ((100 : Int) < (nl : Int)) = false ∧ nf ≤ 100 ∧ decide ((100 : Int) < (nf : Int)) = false ∧ 100 < nr ∧ decide ((100 : Int) < (nr : Int)) = true) := by
    by_cases a : 100 < nl
    · exact .inl ⟨a, by simp; omega⟩
    · by_cases b : 100 < nf
      · exact .inr (.inl ⟨by omega, by simp; omega, b, by simp; omega⟩)
      · exact .inr (.inr ⟨by omega, by simp; omega, by omega, by simp; omega, by omega, by simp; omega⟩)
  clear hbig
  rcases hcase with ⟨q1, g1⟩ | ⟨q1, g1, q2, g2⟩ | ⟨q1, g1, q2, g2, q3, g3⟩
  all_goals
    go_enter Try.func4, Try.ntmps4
    go_wp2_with fail
    refine HLV.out.mono ?_
    rintro e w9 ⟨rfl, hb9⟩
    go_wp2
    go_ret
    exact ⟨rfl, HB0.out.trans (hb9.mono (by simp))⟩

theorem postsPart_any (la fa ra : Option Addr) (lc fc rc : Nat) (ls : List Lbl) (xs rs : List Int) (node : Int) (w : World) (hl : At (· < w.heap.size) w la (lblCells ls)) (hf : At (· < w.heap.size) w fa (intCells xs)) (hr : At (· < w.heap.size) w ra (intCells rs))
    (h1 : ls.length ≤ 9223372036854775807) (h2 : xs.length ≤ 9223372036854775807) (h3 : rs.length ≤ 9223372036854775807) :
    Calls Try.prog 4 #[.agg #[.slice la ls.length lc, .slice fa xs.length fc, .slice ra rs.length rc], .int .i64 node] w fun e w' => e = .returned (.bool true) ∧ Below w.heap.size w w' := by
  by_cases hb : 100 < ls.length ∨ 100 < xs.length ∨ 100 < rs.length
  · exact postsPart_big la fa ra lc xs.length fc rs.length rc ls.length node w hb h1 h2 h3
  · exact postsPart_small la fa ra lc fc rc ls xs rs node w hl hf hr (by omega) (by omega) (by omega)
end Go.Proofs.Ytfajbkofbjcbbaa
