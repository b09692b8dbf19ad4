/- Plain Lean: the stable order of a list; a value's entries in order; a value's nodes from the leaves up. -/
import GoSem.Op.String
import Derived.Test.YtfajbkofbjcbbaaPlainE
import Derived.Test.YtfajbkofbjcbbaaPlainC
namespace Go.Proofs.Ytfajbkofbjcbbaa
open Go.Sort
section
variable {α β : Type}

/-- put ahead of the first that is not less -/
def insS (lt : α → α → Bool) (x : α) : List α → List α
  | [] => [x]
  | y :: r => if lt y x then y :: insS lt x r else x :: y :: r
/-- in order; what is alike stays as it stands -/
def srtS (lt : α → α → Bool) (l : List α) : List α := l.foldr (insS lt) []

theorem insS_perm (lt : α → α → Bool) (x : α) : ∀ l : List α, (insS lt x l).Perm (x :: l)
  | [] => List.Perm.refl _
  | y :: r => by
    unfold insS
    split
    · exact ((insS_perm lt x r).cons y).trans (List.Perm.swap x y r)
    · exact List.Perm.refl _
theorem srtS_perm (lt : α → α → Bool) : ∀ l : List α, (srtS lt l).Perm l
  | [] => List.Perm.refl _
  | x :: r => (insS_perm lt x _).trans ((srtS_perm lt r).cons x)
theorem srtS_length (lt : α → α → Bool) (l : List α) : (srtS lt l).length = l.length := (srtS_perm lt l).length_eq
theorem insS_stb {lt : α → α → Bool} (hS : SWO lt) {ix : α → Nat} {x : α} : ∀ {l : List α}, Stb lt ix l → (∀ y ∈ l, ix x < ix y) → Stb lt ix (insS lt x l)
  | [], _, _ => by simp [insS, Stb]
  | y :: r, h, hx => by
    have h' := List.pairwise_cons.1 h
    unfold insS
    cases e : lt y x with
    | true =>
      simp only [if_true]
      refine List.pairwise_cons.2 ⟨fun z hz => ?_, insS_stb hS h'.2 (fun z hz => hx z (by simp [hz]))⟩
      rcases List.mem_cons.1 ((insS_perm lt x r).mem_iff.1 hz) with rfl | hz
      · refine ⟨?_, .inl e⟩
        cases e2 : lt z y with
        | false => rfl
        | true => have := hS.trans _ _ _ e e2; rw [hS.irrefl] at this; cases this
      · exact h'.1 z hz
    | false =>
      simp only [Bool.false_eq_true, if_false]
      refine List.pairwise_cons.2 ⟨fun z hz => ?_, h⟩
      rcases List.mem_cons.1 hz with rfl | hz
      · exact ⟨e, .inr (hx _ (by simp))⟩
      · exact ⟨hS.ntrans _ _ _ (h'.1 z hz).1 e, .inr (hx _ (by simp [hz]))⟩
theorem srtS_stb {lt : α → α → Bool} (hS : SWO lt) {ix : α → Nat} : ∀ {l : List α}, l.Pairwise (fun x y => ix x < ix y) → Stb lt ix (srtS lt l)
  | [], _ => List.Pairwise.nil
  | x :: r, h => by
    have h' := List.pairwise_cons.1 h
    exact insS_stb hS (srtS_stb hS h'.2) (fun y hy => h'.1 y ((srtS_perm lt r).mem_iff.1 hy))
theorem stb_unique {lt : α → α → Bool} {ix : α → Nat} {l m : List α} (hp : l.Perm m) (hl : Stb lt ix l) (hm : Stb lt ix m) : l = m :=
  List.Perm.eq_of_pairwise (fun a b _ _ h1 h2 => by
    exfalso
    have a1 : ix a < ix b := h1.2.resolve_left (by rw [h2.1]; simp)
    have a2 : ix b < ix a := h2.2.resolve_left (by rw [h1.1]; simp)
    omega) hl hm hp
theorem insS_map (f : α → β) {lt : α → α → Bool} {lt' : β → β → Bool} (h : ∀ x y, lt x y = lt' (f x) (f y)) (x : α) : ∀ l : List α, (insS lt x l).map f = insS lt' (f x) (l.map f)
  | [] => rfl
  | y :: r => by
    simp only [insS, List.map_cons, ← h y x]
    split
    · rw [List.map_cons, insS_map f h x r]
    · simp
theorem srtS_map (f : α → β) {lt : α → α → Bool} {lt' : β → β → Bool} (h : ∀ x y, lt x y = lt' (f x) (f y)) : ∀ l : List α, (srtS lt l).map f = srtS lt' (l.map f)
  | [] => rfl
  | x :: r => by
    show (insS lt x (srtS lt r)).map f = insS lt' (f x) (srtS lt' (r.map f))
    rw [insS_map f h, srtS_map f h r]
theorem srtS_same {lt : α → α → Bool} (h : ∀ x y, lt x y = false) (l : List α) : srtS lt l = l := by
  induction l with
  | nil => rfl
  | cons x r ih =>
    show insS lt x (srtS lt r) = x :: r
    rw [ih]
    cases r with
    | nil => rfl
    | cons y r => simp [insS, h]
end

/-- a key (is it one?), a value -/
abbrev Ent0 := ByteArray × Bool × V
def lt0 (a b : Ent0) : Bool := Op.bytesLess a.1.toList b.1.toList
/-- a value's entries, as they stand -/
def V.base : V → List Ent0
  | .mk k _ l ks => if k = 8 then (ks.zip l).map (fun p => (p.1, true, p.2)) else l.map (fun x => (.empty, false, x))
/-- .. in order -/
def V.ents (v : V) : List Ent0 := srtS lt0 v.base

theorem V.base_mem {v : V} {e : Ent0} (h : e ∈ v.base) : e.2.2 ∈ v.list := by
  obtain ⟨k, t, l, ks⟩ := v
  simp only [V.base] at h
  split at h
  · obtain ⟨p, hp, rfl⟩ := List.mem_map.1 h
    exact (List.of_mem_zip hp).2
  · obtain ⟨x, hx, rfl⟩ := List.mem_map.1 h
    exact hx
theorem V.ents_mem {v : V} {e : Ent0} (h : e ∈ v.ents) : e.2.2 ∈ v.list := V.base_mem ((srtS_perm lt0 _).mem_iff.1 h)
theorem V.mem_wt {v u : V} (h : u ∈ v.list) : u.wt < v.wt := by
  obtain ⟨i, hi, rfl⟩ := List.getElem_of_mem h
  exact v.list_lt hi
theorem V.ents_wt {v : V} {e : Ent0} (h : e ∈ v.ents) : e.2.2.wt < v.wt := V.mem_wt (V.ents_mem h)

/-- an entry's label -/
def lblOf (e : Ent0) : Lbl := ⟨e.2.1, e.1, e.2.2.kind, e.2.2.text⟩
/-- an entry's nodes from the leaves up, each with how many are in it; within so many steps -/
def postF : Nat → Ent0 → List (Lbl × Nat)
  | 0, _ => []
  | f + 1, e => (e.2.2.ents.map (postF f)).flatten ++ [(lblOf e, (e.2.2.ents.map (postF f)).flatten.length)]
theorem postF_more : ∀ (f g : Nat) (e : Ent0), e.2.2.wt ≤ f → e.2.2.wt ≤ g → postF f e = postF g e
  | 0, _, e, h, _ => by have := e.2.2.wt_pos; omega
  | _ + 1, 0, e, _, h => by have := e.2.2.wt_pos; omega
  | f + 1, g + 1, e, h1, h2 => by
    have hm : e.2.2.ents.map (postF f) = e.2.2.ents.map (postF g) := List.map_congr_left fun x hx => by
      have := V.ents_wt hx
      exact postF_more f g x (by omega) (by omega)
    simp only [postF, hm]
/-- an entry's nodes -/
def postE (e : Ent0) : List (Lbl × Nat) := postF e.2.2.wt e
theorem postE_eq (e : Ent0) : postE e = (e.2.2.ents.map postE).flatten ++ [(lblOf e, (e.2.2.ents.map postE).flatten.length)] := by
  have hw := e.2.2.wt_pos
  obtain ⟨f, hf⟩ : ∃ f, e.2.2.wt = f + 1 := ⟨e.2.2.wt - 1, by omega⟩
  have hm : e.2.2.ents.map (postF f) = e.2.2.ents.map postE := List.map_congr_left fun x hx => by
    have := V.ents_wt hx
    exact postF_more f _ x (by omega) (Nat.le_refl _)
  unfold postE at *
  rw [hf]
  simp only [postF, hm]
/-- a value's nodes -/
def V.post (v : V) : List (Lbl × Nat) := postE (.empty, false, v)
def V.labels (v : V) : List Lbl := v.post.map (·.1)
/-- the leftmost of each -/
def leftsOf : Nat → List (Lbl × Nat) → List Int
  | _, [] => []
  | i, p :: r => ((i : Int) - p.2) :: leftsOf (i + 1) r
def V.left (v : V) : List Int := leftsOf 0 v.post
theorem leftsOf_length (i : Nat) (l : List (Lbl × Nat)) : (leftsOf i l).length = l.length := by
  induction l generalizing i with
  | nil => rfl
  | cons p r ih => simp [leftsOf, ih]
theorem leftsOf_append (i : Nat) (l m : List (Lbl × Nat)) : leftsOf i (l ++ m) = leftsOf i l ++ leftsOf (i + l.length) m := by
  induction l generalizing i with
  | nil => simp [leftsOf]
  | cons p r ih => simp only [List.cons_append, leftsOf, ih, List.length_cons, show i + 1 + r.length = i + (r.length + 1) by omega]
end Go.Proofs.Ytfajbkofbjcbbaa
