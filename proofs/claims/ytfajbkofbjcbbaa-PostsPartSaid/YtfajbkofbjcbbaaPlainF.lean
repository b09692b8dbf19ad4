/- Plain Lean: where symMerge cuts. -/
import Derived.Test.YtfajbkofbjcbbaaPlainE
namespace Go.Proofs.Ytfajbkofbjcbbaa
open Go.Sort
section
variable {α : Type} [Inhabited α]

/-- an array at a place, by lists -/
theorem at_app (A : List α) (x : α) (B : List α) (i : Nat) (h : i = A.length) : (A ++ x :: B).toArray[i]! = x := by
  subst h; rw [getL _ _ (by simp)]; simp
theorem at_mid (A Y B : List α) (i : Nat) (h1 : A.length ≤ i) (h2 : i < A.length + Y.length) : (A ++ (Y ++ B)).toArray[i]! = Y[i - A.length]'(by omega) := by
  rw [getL _ _ (by simp; omega), List.getElem_append_right h1, List.getElem_append_left]

omit [Inhabited α] in
theorem srt_get {lt : α → α → Bool} (hO : SWO lt) {l : List α} (h : Srt lt l) {i j : Nat} (hij : i ≤ j) (hj : j < l.length) : lt l[j] (l[i]'(by omega)) = false := by
  rcases Nat.eq_or_lt_of_le hij with e | e
  · subst e; exact hO.irrefl _
  · exact List.pairwise_iff_getElem.1 h _ _ (by omega) hj e

/-- the bounds of the search -/
structure SymB (pre X Y post : List α) (a m b mid lo hi p : Nat) : Prop where
  ha : a = pre.length
  hm : m = a + X.length
  hb : b = m + Y.length
  hX : 2 ≤ X.length
  hY : 2 ≤ Y.length
  hmid : mid = (a + b) / 2
  hp : p = mid + m - 1
  hlh : (mid < m ∧ lo = mid + m - b ∧ hi = mid) ∨ (m ≤ mid ∧ lo = a ∧ hi = m)

variable {pre X Y post : List α} {a m b mid lo hi p : Nat}

theorem SymB.getX (h : SymB pre X Y post a m b mid lo hi p) (t : Nat) (h1 : a ≤ t) (h2 : t < m) : (pre ++ X ++ Y ++ post).toArray[t]! = X[t - a]'(by have := h.hm; omega) := by
  have e : pre ++ X ++ Y ++ post = pre ++ (X ++ (Y ++ post)) := by simp
  have := h.ha; have := h.hm
  rw [e, at_mid pre X (Y ++ post) t (by omega) (by omega)]
  congr 1; omega
theorem SymB.getY (h : SymB pre X Y post a m b mid lo hi p) (t : Nat) (h1 : m ≤ t) (h2 : t < b) : (pre ++ X ++ Y ++ post).toArray[t]! = Y[t - m]'(by have := h.hb; omega) := by
  have e : pre ++ X ++ Y ++ post = (pre ++ X) ++ (Y ++ post) := by simp
  have := h.ha; have := h.hm; have := h.hb
  rw [e, at_mid (pre ++ X) Y post t (by simp; omega) (by simp; omega)]
  congr 1; simp; omega

omit [Inhabited α] in
theorem SymB.bounds (h : SymB pre X Y post a m b mid lo hi p) : a ≤ lo ∧ lo ≤ hi ∧ hi ≤ m ∧ a < mid ∧ mid < b ∧ ∀ c, lo ≤ c → c < hi → a ≤ c ∧ c < m ∧ m ≤ p - c ∧ p - c < b ∧ c ≤ p := by
  have := h.hm; have := h.hb; have := h.hX; have := h.hY; have := h.hmid; have := h.hp
  rcases h.hlh with ⟨h1, h2, h3⟩ | ⟨h1, h2, h3⟩ <;> refine ⟨by omega, by omega, by omega, by omega, by omega, fun c hc1 hc2 => ⟨by omega, by omega, by omega, by omega, by omega⟩⟩

theorem SymB.monoF (h : SymB pre X Y post a m b mid lo hi p) {lt : α → α → Bool} (hO : SWO lt) (sX : Srt lt X) (sY : Srt lt Y) (c q : Nat) (h1 : lo ≤ c) (h2 : c ≤ q) (h3 : q < hi)
    (hq : lt (pre ++ X ++ Y ++ post).toArray[p - q]! (pre ++ X ++ Y ++ post).toArray[q]! = false) : lt (pre ++ X ++ Y ++ post).toArray[p - c]! (pre ++ X ++ Y ++ post).toArray[c]! = false := by
  obtain ⟨b1, b2, b3, b4, b5, hB⟩ := h.bounds
  obtain ⟨c1, c2, c3, c4, c5⟩ := hB c h1 (by omega)
  obtain ⟨q1, q2, q3, q4, q5⟩ := hB q (by omega) h3
  have hm := h.hm
  have hb := h.hb
  rw [h.getY (p - q) q3 q4, h.getX q q1 q2] at hq
  rw [h.getY (p - c) c3 c4, h.getX c c1 c2]
  exact hO.ntrans _ _ _ (hO.ntrans _ _ _ (srt_get hO sY (by omega) (by omega)) hq) (srt_get hO sX (by omega) (by omega))

theorem SymB.monoT (h : SymB pre X Y post a m b mid lo hi p) {lt : α → α → Bool} (hO : SWO lt) (sX : Srt lt X) (sY : Srt lt Y) (c q : Nat) (h1 : lo ≤ q) (h2 : q ≤ c) (h3 : c < hi)
    (hq : lt (pre ++ X ++ Y ++ post).toArray[p - q]! (pre ++ X ++ Y ++ post).toArray[q]! = true) : lt (pre ++ X ++ Y ++ post).toArray[p - c]! (pre ++ X ++ Y ++ post).toArray[c]! = true := by
  obtain ⟨b1, b2, b3, b4, b5, hB⟩ := h.bounds
  obtain ⟨c1, c2, c3, c4, c5⟩ := hB c (by omega) h3
  obtain ⟨q1, q2, q3, q4, q5⟩ := hB q h1 (by omega)
  have hm := h.hm
  have hb := h.hb
  rw [h.getY (p - q) q3 q4, h.getX q q1 q2] at hq
  rw [h.getY (p - c) c3 c4, h.getX c c1 c2]
  exact SWO.lt_of hO (SWO.lt_of' hO (srt_get hO sY (by omega) (by omega)) hq) (srt_get hO sX (by omega) (by omega))

theorem SymB.split (h : SymB pre X Y post a m b mid lo hi p) {lt : α → α → Bool} (hO : SWO lt) (sX : Srt lt X) (sY : Srt lt Y) (st en : Nat) (h1 : lo ≤ st) (h2 : st ≤ hi) (hen : en = mid + m - st)
    (hF : ∀ c, lo ≤ c → c < st → lt (pre ++ X ++ Y ++ post).toArray[p - c]! (pre ++ X ++ Y ++ post).toArray[c]! = false)
    (hT : ∀ c, st ≤ c → c < hi → lt (pre ++ X ++ Y ++ post).toArray[p - c]! (pre ++ X ++ Y ++ post).toArray[c]! = true) :
    a ≤ st ∧ st ≤ m ∧ m ≤ en ∧ en ≤ b ∧ (st - a) + (en - m) = mid - a ∧ (m - st) + (b - en) = b - mid ∧ mrg lt X Y = mrg lt (X.take (st - a)) (Y.take (en - m)) ++ mrg lt (X.drop (st - a)) (Y.drop (en - m)) := by
  obtain ⟨b1, b2, b3, b4, b5, hB⟩ := h.bounds
  have hm := h.hm
  have hb := h.hb
  have hX := h.hX
  have hY := h.hY
  have hmid := h.hmid
  have hp := h.hp
  have hlh := h.hlh
  have n1 : a ≤ st ∧ st ≤ m ∧ m ≤ en ∧ en ≤ b := by rcases hlh with ⟨k1, k2, k3⟩ | ⟨k1, k2, k3⟩ <;> refine ⟨by omega, by omega, by omega, by omega⟩
  refine ⟨n1.1, n1.2.1, n1.2.2.1, n1.2.2.2, by omega, by omega, ?_⟩
  have key := mrg_split lt (X.take (st - a)) (Y.take (en - m)) (X.drop (st - a)) (Y.drop (en - m)) ?_ ?_
  · rw [List.take_append_drop, List.take_append_drop] at key
    exact key
  · intro x hx y hy
    obtain ⟨t, ht, rfl⟩ := List.getElem_of_mem hx
    obtain ⟨s, hs, rfl⟩ := List.getElem_of_mem hy
    simp at ht hs
    rw [List.getElem_drop, List.getElem_take]
    by_cases hsh : st < hi
    · have hc := hT st (Nat.le_refl _) hsh
      obtain ⟨c1, c2, c3, c4, c5⟩ := hB st h1 hsh
      rw [h.getY (p - st) c3 c4, h.getX st c1 c2] at hc
      exact SWO.lt_of hO (SWO.lt_of' hO (srt_get hO sY (by omega) (by omega)) hc) (srt_get hO sX (by omega) (by omega))
    · exfalso
      rcases hlh with ⟨k1, k2, k3⟩ | ⟨k1, k2, k3⟩ <;> omega
  · intro x hx y hy
    obtain ⟨t, ht, rfl⟩ := List.getElem_of_mem hx
    obtain ⟨s, hs, rfl⟩ := List.getElem_of_mem hy
    simp at ht hs
    rw [List.getElem_drop, List.getElem_take]
    by_cases hsl : lo < st
    · have hc := hF (st - 1) (by omega) (by omega)
      obtain ⟨c1, c2, c3, c4, c5⟩ := hB (st - 1) (by omega) (by omega)
      rw [h.getY (p - (st - 1)) c3 c4, h.getX (st - 1) c1 c2] at hc
      exact hO.ntrans _ _ _ (hO.ntrans _ _ _ (srt_get hO sY (by omega) (by omega)) hc) (srt_get hO sX (by omega) (by omega))
    · exfalso
      rcases hlh with ⟨k1, k2, k3⟩ | ⟨k1, k2, k3⟩ <;> omega
end
end Go.Proofs.Ytfajbkofbjcbbaa
