/-
  Plain Lean: a document's value as a tree, its weight. No program in sight.
-/
import GoSem.Core.Value
namespace Go.Proofs.Ytfajbkofbjcbbaa

/-- A value of a document: kind, text, parts, keys. -/
inductive V where
  | mk (kind : Nat) (text : ByteArray) (list : List V) (keys : List ByteArray)

namespace V
def kind : V → Nat | mk k _ _ _ => k
def text : V → ByteArray | mk _ t _ _ => t
def list : V → List V | mk _ _ l _ => l
def keys : V → List ByteArray | mk _ _ _ ks => ks
end V

/-- the sum of strings' sizes -/
def sizes : List ByteArray → Nat
  | [] => 0
  | s :: r => s.size + sizes r

mutual
/-- nodes, keys and bytes -/
def V.wt : V → Nat
  | .mk _ t l ks => 1 + t.size + ks.length + sizes ks + wts l
def wts : List V → Nat
  | [] => 0
  | v :: r => v.wt + wts r
end

theorem V.wt_eq (v : V) : v.wt = 1 + v.text.size + v.keys.length + sizes v.keys + wts v.list := by
  cases v; simp only [V.wt, V.text, V.list, V.keys]
theorem V.wt_pos (v : V) : 1 ≤ v.wt := by rw [V.wt_eq]; omega
theorem wts_length (l : List V) : l.length ≤ wts l := by
  induction l with
  | nil => simp
  | cons v r ih => have := v.wt_pos; simp only [List.length_cons, wts]; omega
theorem wts_get {l : List V} {i : Nat} (h : i < l.length) : l[i].wt ≤ wts l := by
  induction l generalizing i with
  | nil => simp at h
  | cons v r ih =>
    cases i with
    | zero => simp only [List.getElem_cons_zero, wts]; omega
    | succ i => have := ih (i := i) (by simpa using h); simp only [List.getElem_cons_succ, wts]; omega
theorem wts_append (l r : List V) : wts (l ++ r) = wts l + wts r := by
  induction l with
  | nil => simp [wts]
  | cons v l ih => simp only [List.cons_append, wts, ih]; omega
theorem sizes_append (l r : List ByteArray) : sizes (l ++ r) = sizes l + sizes r := by
  induction l with
  | nil => simp [sizes]
  | cons v l ih => simp only [List.cons_append, sizes, ih]; omega
theorem sizes_get {l : List ByteArray} {i : Nat} (h : i < l.length) : l[i].size ≤ sizes l := by
  induction l generalizing i with
  | nil => simp at h
  | cons v r ih =>
    cases i with
    | zero => simp only [List.getElem_cons_zero, sizes]; omega
    | succ i => have := ih (i := i) (by simpa using h); simp only [List.getElem_cons_succ, sizes]; omega
theorem wts_take_succ (l : List V) (k : Nat) (h : k < l.length) : wts (l.take (k + 1)) = wts (l.take k) + l[k].wt := by
  rw [List.take_succ_eq_append_getElem h, wts_append]; simp only [wts]; omega
theorem sizes_take_succ (l : List ByteArray) (k : Nat) (h : k < l.length) : sizes (l.take (k + 1)) = sizes (l.take k) + l[k].size := by
  rw [List.take_succ_eq_append_getElem h, sizes_append]; simp only [sizes]; omega
theorem wts_take_le (l : List V) (k : Nat) : wts (l.take k) ≤ wts l := by
  have h := wts_append (l.take k) (l.drop k)
  rw [List.take_append_drop] at h; omega
theorem sizes_take_le (l : List ByteArray) (k : Nat) : sizes (l.take k) ≤ sizes l := by
  have h := sizes_append (l.take k) (l.drop k)
  rw [List.take_append_drop] at h; omega
theorem V.list_lt (v : V) {i : Nat} (h : i < v.list.length) : v.list[i].wt < v.wt := by
  have := wts_get h; rw [V.wt_eq v]; omega

/-- induction on the weight -/
theorem V.byWt {p : V → Prop} (h : ∀ v : V, (∀ u : V, u.wt < v.wt → p u) → p v) : ∀ v, p v := by
  intro v
  generalize hn : v.wt = n
  induction n using Nat.strongRecOn generalizing v with
  | _ n ih => exact h v fun u hu => ih u.wt (hn ▸ hu) u rfl

end Go.Proofs.Ytfajbkofbjcbbaa
