/- Plain Lean: how many nodes; what a value that may be has in it. -/
import Derived.Test.YtfajbkofbjcbbaaPlainI
namespace Go.Proofs.Ytfajbkofbjcbbaa

def sumW : List Ent0 → Nat
  | [] => 0
  | e :: r => e.2.2.wt + sumW r
theorem sumW_perm {a b : List Ent0} (h : a.Perm b) : sumW a = sumW b := by
  induction h with
  | nil => rfl
  | cons x _ ih => simp only [sumW, ih]
  | swap x y l => simp only [sumW]; omega
  | trans _ _ h1 h2 => rw [h1, h2]
theorem sumW_zip : ∀ (ks : List ByteArray) (l : List V), sumW ((ks.zip l).map (fun p => (p.1, true, p.2))) ≤ wts l
  | [], l => by simp [sumW]
  | _ :: _, [] => by simp [sumW]
  | k :: ks, x :: l => by have := sumW_zip ks l; simp only [List.zip_cons_cons, List.map_cons, sumW, wts]; omega
theorem sumW_map : ∀ (l : List V), sumW (l.map (fun x => (ByteArray.empty, false, x))) = wts l
  | [] => rfl
  | x :: l => by have := sumW_map l; simp only [List.map_cons, sumW, wts]; omega
theorem base_sum (v : V) : sumW v.base ≤ wts v.list := by
  obtain ⟨k, t, l, ks⟩ := v
  simp only [V.base, V.list]
  split
  · exact sumW_zip ks l
  · rw [sumW_map]; exact Nat.le_refl _
theorem ents_sum (v : V) : sumW v.ents ≤ wts v.list := by
  rw [show sumW v.ents = sumW v.base from sumW_perm (srtS_perm lt0 _)]
  exact base_sum v

theorem flat_le (f : Ent0 → List (Lbl × Nat)) : ∀ (l : List Ent0), (∀ e ∈ l, (f e).length ≤ e.2.2.wt) → (l.map f).flatten.length ≤ sumW l
  | [], _ => by simp [sumW]
  | e :: r, h => by
    have h1 := h e (by simp)
    have h2 := flat_le f r (fun x hx => h x (by simp [hx]))
    simp only [List.map_cons, List.flatten_cons, List.length_append, sumW]; omega
theorem postE_len : ∀ (n : Nat) (e : Ent0), e.2.2.wt ≤ n → (postE e).length ≤ e.2.2.wt
  | 0, e, h => by have := e.2.2.wt_pos; omega
  | n + 1, e, h => by
    rw [postE_eq]
    have h1 := flat_le postE e.2.2.ents (fun x hx => postE_len n x (by have := V.ents_wt hx; omega))
    have h2 := ents_sum e.2.2
    have h3 := e.2.2.wt_eq
    simp only [List.length_append, List.length_singleton]
    omega
theorem postE_le (e : Ent0) : (postE e).length ≤ e.2.2.wt := postE_len _ e (Nat.le_refl _)
theorem subs_le (v : V) (i : Nat) : ((v.ents.take i).map postE).flatten.length + 1 ≤ v.wt := by
  have h1 := flat_le postE v.ents (fun x _ => postE_le x)
  have h2 := ents_sum v
  have h3 := v.wt_eq
  have h4 : ((v.ents.take i).map postE).flatten.length ≤ (v.ents.map postE).flatten.length := by
    conv => rhs; rw [← List.take_append_drop i v.ents]
    rw [List.map_append, List.flatten_append, List.length_append]; omega
  omega

theorem oks_mem : ∀ {l : List V} {n : Nat} {u : V}, oks l n = true → u ∈ l → u.ok n = true
  | [], _, _, _, h => by cases h
  | x :: l, n, u, h, hu => by
    simp only [oks, Bool.and_eq_true] at h
    rcases List.mem_cons.1 hu with rfl | hu
    · exact h.1
    · exact oks_mem h.2 hu
theorem ok_mem {v u : V} {n : Nat} (h : v.ok n = true) (hu : u ∈ v.list) : u.ok (n - 1) = true := by
  obtain ⟨k, t, l, ks⟩ := v
  simp only [V.ok, Bool.and_eq_true] at h
  exact oks_mem h.2 hu
theorem ok_keys {v : V} {n : Nat} (h : v.ok n = true) (h8 : v.kind = 8) : v.keys.length = v.list.length := by
  obtain ⟨k, t, l, ks⟩ := v
  simp only [V.kind] at h8
  subst h8
  simp only [V.ok, Bool.and_eq_true, shapeB] at h
  have h1 := h.1.1
  simp at h1
  exact h1.1.2
theorem take_flat_succ (v : V) (i : Nat) (h : i < v.ents.length) : ((v.ents.take (i + 1)).map postE).flatten = ((v.ents.take i).map postE).flatten ++ postE v.ents[i] := by
  rw [List.take_succ_eq_append_getElem h, List.map_append, List.flatten_append]
  simp
end Go.Proofs.Ytfajbkofbjcbbaa
