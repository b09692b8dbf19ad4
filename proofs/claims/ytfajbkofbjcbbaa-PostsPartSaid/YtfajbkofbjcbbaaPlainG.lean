/- Plain Lean: blocks, each in order. -/
import Derived.Test.YtfajbkofbjcbbaaPlainE
namespace Go.Proofs.Ytfajbkofbjcbbaa
open Go.Sort
section
variable {α : Type} [Inhabited α]

/-- blocks of one length, each with what it was made of -/
def Blks (lt : α → α → Bool) (ix : α → Nat) (bs : Nat) (B : List (List α × List α)) : Prop := ∀ p ∈ B, p.1.length = bs ∧ p.1.Perm p.2 ∧ Stb lt ix p.1
def fl1 (B : List (List α × List α)) : List α := (B.map (·.1)).flatten
def fl2 (B : List (List α × List α)) : List α := (B.map (·.2)).flatten

omit [Inhabited α] in
theorem fl1_append (A B : List (List α × List α)) : fl1 (A ++ B) = fl1 A ++ fl1 B := by simp [fl1]
omit [Inhabited α] in
theorem fl2_append (A B : List (List α × List α)) : fl2 (A ++ B) = fl2 A ++ fl2 B := by simp [fl2]
omit [Inhabited α] in
theorem fl1_cons (p : List α × List α) (B : List (List α × List α)) : fl1 (p :: B) = p.1 ++ fl1 B := by simp [fl1]
omit [Inhabited α] in
theorem fl2_cons (p : List α × List α) (B : List (List α × List α)) : fl2 (p :: B) = p.2 ++ fl2 B := by simp [fl2]
omit [Inhabited α] in
theorem fl1_nil : fl1 ([] : List (List α × List α)) = [] := rfl
omit [Inhabited α] in
theorem fl2_nil : fl2 ([] : List (List α × List α)) = [] := rfl
omit [Inhabited α] in
theorem Blks.length {lt : α → α → Bool} {ix : α → Nat} {bs : Nat} : ∀ {B : List (List α × List α)}, Blks lt ix bs B → (fl1 B).length = B.length * bs ∧ (fl2 B).length = B.length * bs
  | [], _ => by simp [fl1, fl2]
  | p :: B, h => by
    have h1 := h p (by simp)
    have h2 := Blks.length (fun q hq => h q (List.mem_cons_of_mem _ hq) : Blks lt ix bs B)
    rw [fl1_cons, fl2_cons]
    simp only [List.length_append, List.length_cons, h2.1, h2.2, ← h1.2.1.length_eq, h1.1, Nat.add_mul]
    omega
omit [Inhabited α] in
theorem Blks.snoc {lt : α → α → Bool} {ix : α → Nat} {bs : Nat} {B : List (List α × List α)} (h : Blks lt ix bs B) {M C : List α} (h1 : M.length = bs) (h2 : M.Perm C) (h3 : Stb lt ix M) : Blks lt ix bs (B ++ [(M, C)]) := fun p hp => by
  rcases List.mem_append.1 hp with hp | hp
  · exact h p hp
  · simp at hp; subst hp; exact ⟨h1, h2, h3⟩
omit [Inhabited α] in
theorem mrg_blk {lt : α → α → Bool} (hS : SWO lt) {ix : α → Nat} {X Y C1 C2 pre post : List α} (hX : X.Perm C1) (hY : Y.Perm C2) (sX : Stb lt ix X) (sY : Stb lt ix Y) (hp : (pre ++ C1 ++ C2 ++ post).Pairwise fun x y => ix x < ix y) :
    (mrg lt X Y).Perm (C1 ++ C2) ∧ Stb lt ix (mrg lt X Y) := by
  refine ⟨(mrg_perm lt X Y).trans (hX.append hY), mrg_stb hS ix X Y sX sY fun x hx y hy => ?_⟩
  have h1 := (List.pairwise_append.1 hp).1
  exact (List.pairwise_append.1 h1).2.2 x (List.mem_append_right _ (hX.mem_iff.1 hx)) y (hY.mem_iff.1 hy)
end
end Go.Proofs.Ytfajbkofbjcbbaa
