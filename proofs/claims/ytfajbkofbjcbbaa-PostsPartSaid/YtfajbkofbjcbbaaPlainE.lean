/- Plain Lean: stable merging, insertion sort, exchange: on lists. No program in sight. -/
import Derived.Sort.WalkA
import Derived.Sort.LotA
import Derived.Sort.Statements
namespace Go.Proofs.Ytfajbkofbjcbbaa
open Go.Sort

section
variable {α : Type} [Inhabited α]

/-- the stable merge -/
def mrg (lt : α → α → Bool) (L R : List α) : List α := List.merge L R fun x y => !lt y x

omit [Inhabited α] in
theorem mrg_nil_left (lt : α → α → Bool) (R : List α) : mrg lt [] R = R := by simp [mrg]
omit [Inhabited α] in
theorem mrg_nil_right (lt : α → α → Bool) (L : List α) : mrg lt L [] = L := by simp [mrg]
omit [Inhabited α] in
theorem mrg_left (lt : α → α → Bool) (x y : α) (l r : List α) (h : lt y x = false) : mrg lt (x :: l) (y :: r) = x :: mrg lt l (y :: r) := by
  simp [mrg, h]
omit [Inhabited α] in
theorem mrg_right (lt : α → α → Bool) (x y : α) (l r : List α) (h : lt y x = true) : mrg lt (x :: l) (y :: r) = y :: mrg lt (x :: l) r := by
  simp [mrg, h]

omit [Inhabited α] in
/-- cut where all on one side are ahead -/
theorem mrg_split (lt : α → α → Bool) : ∀ (L1 R1 L2 R2 : List α), (∀ x ∈ L2, ∀ y ∈ R1, lt y x = true) → (∀ x ∈ L1, ∀ y ∈ R2, lt y x = false) →
    mrg lt (L1 ++ L2) (R1 ++ R2) = mrg lt L1 R1 ++ mrg lt L2 R2
  | [], [], L2, R2, _, _ => by simp [mrg_nil_left]
  | [], y :: r, [], R2, _, _ => by simp [mrg_nil_left]
  | [], y :: r, x :: l, R2, h1, h2 => by
    have ih := mrg_split lt [] r (x :: l) R2 (fun z hz w hw => h1 z hz w (List.mem_cons_of_mem _ hw)) h2
    rw [List.nil_append, List.cons_append, mrg_right lt x y l (r ++ R2) (h1 x (by simp) y (by simp)), mrg_nil_left, List.cons_append]
    rw [List.nil_append, mrg_nil_left] at ih
    rw [ih]
  | x :: l, [], L2, [], _, _ => by simp [mrg_nil_right]
  | x :: l, [], L2, y :: r, h1, h2 => by
    have ih := mrg_split lt l [] L2 (y :: r) (fun z _ w hw => by cases hw) (fun z hz w hw => h2 z (List.mem_cons_of_mem _ hz) w hw)
    rw [List.nil_append, List.cons_append, mrg_left lt x y _ r (h2 x (by simp) y (by simp)), mrg_nil_right, List.cons_append]
    rw [List.nil_append, mrg_nil_right] at ih
    rw [ih]
  | x :: l, y :: r, L2, R2, h1, h2 => by
    cases h : lt y x with
    | true =>
      have ih := mrg_split lt (x :: l) r L2 R2 (fun z hz w hw => h1 z hz w (List.mem_cons_of_mem _ hw)) h2
      rw [List.cons_append, List.cons_append, mrg_right lt x y _ _ h, mrg_right lt x y _ _ h, List.cons_append, ← ih, List.cons_append]
    | false =>
      have ih := mrg_split lt l (y :: r) L2 R2 h1 (fun z hz w hw => h2 z (List.mem_cons_of_mem _ hz) w hw)
      rw [List.cons_append, List.cons_append, mrg_left lt x y _ _ h, mrg_left lt x y _ _ h, List.cons_append, ← ih, List.cons_append]
  termination_by L1 R1 => L1.length + R1.length

omit [Inhabited α] in
theorem mrg_perm (lt : α → α → Bool) (L R : List α) : (mrg lt L R).Perm (L ++ R) := List.merge_perm_append _
omit [Inhabited α] in
theorem mem_mrg {lt : α → α → Bool} {L R : List α} {x : α} : x ∈ mrg lt L R ↔ x ∈ L ∨ x ∈ R := by
  rw [(mrg_perm lt L R).mem_iff, List.mem_append]
omit [Inhabited α] in
theorem mrg_length (lt : α → α → Bool) (L R : List α) : (mrg lt L R).length = L.length + R.length := by
  rw [(mrg_perm lt L R).length_eq, List.length_append]

/-- sorted: none is less than one ahead of it -/
def Srt (lt : α → α → Bool) (l : List α) : Prop := l.Pairwise fun x y => lt y x = false

omit [Inhabited α] in
theorem SWO.lt_of {lt : α → α → Bool} (h : SWO lt) {x y z : α} (h1 : lt x y = true) (h2 : lt z y = false) : lt x z = true := by
  cases e : lt x z with
  | true => rfl
  | false => have := h.ntrans x z y e h2; rw [h1] at this; cases this
omit [Inhabited α] in
theorem SWO.lt_of' {lt : α → α → Bool} (h : SWO lt) {x y z : α} (h1 : lt y x = false) (h2 : lt y z = true) : lt x z = true := by
  cases e : lt x z with
  | true => rfl
  | false => have := h.ntrans y x z h1 e; rw [h2] at this; cases this

omit [Inhabited α] in
theorem mrg_srt {lt : α → α → Bool} (hS : SWO lt) : ∀ (L R : List α), Srt lt L → Srt lt R → Srt lt (mrg lt L R)
  | [], R, _, hR => by rw [mrg_nil_left]; exact hR
  | L, [], hL, _ => by rw [mrg_nil_right]; exact hL
  | x :: l, y :: r, hL, hR => by
    have hL' := List.pairwise_cons.1 hL
    have hR' := List.pairwise_cons.1 hR
    cases h : lt y x with
    | true =>
      rw [mrg_right lt x y l r h]
      refine List.pairwise_cons.2 ⟨fun z hz => ?_, mrg_srt hS (x :: l) r hL hR'.2⟩
      rcases mem_mrg.1 hz with hz | hz
      · rcases List.mem_cons.1 hz with rfl | hz
        · cases e : lt z y with
          | false => rfl
          | true => have := hS.trans _ _ _ e h; rw [hS.irrefl] at this; cases this
        · cases e : lt z y with
          | false => rfl
          | true => have := hS.trans _ _ _ e h; rw [hL'.1 z hz] at this; cases this
      · exact hR'.1 z hz
    | false =>
      rw [mrg_left lt x y l r h]
      refine List.pairwise_cons.2 ⟨fun z hz => ?_, mrg_srt hS l (y :: r) hL'.2 hR⟩
      rcases mem_mrg.1 hz with hz | hz
      · exact hL'.1 z hz
      · rcases List.mem_cons.1 hz with rfl | hz
        · exact h
        · exact hS.ntrans _ _ _ (hR'.1 z hz) h
  termination_by L R => L.length + R.length

/-- in order by less, then by number -/
def Stb (lt : α → α → Bool) (ix : α → Nat) (l : List α) : Prop := l.Pairwise fun x y => lt y x = false ∧ (lt x y = true ∨ ix x < ix y)

omit [Inhabited α] in
theorem Stb.srt {lt : α → α → Bool} {ix : α → Nat} {l : List α} (h : Stb lt ix l) : Srt lt l := h.imp fun h => h.1

omit [Inhabited α] in
theorem mrg_stb {lt : α → α → Bool} (hS : SWO lt) (ix : α → Nat) : ∀ (L R : List α), Stb lt ix L → Stb lt ix R → (∀ x ∈ L, ∀ y ∈ R, ix x < ix y) → Stb lt ix (mrg lt L R)
  | [], R, _, hR, _ => by rw [mrg_nil_left]; exact hR
  | L, [], hL, _, _ => by rw [mrg_nil_right]; exact hL
  | x :: l, y :: r, hL, hR, hix => by
    have hL' := List.pairwise_cons.1 hL
    have hR' := List.pairwise_cons.1 hR
    cases h : lt y x with
    | true =>
      rw [mrg_right lt x y l r h]
      refine List.pairwise_cons.2 ⟨fun z hz => ?_, mrg_stb hS ix (x :: l) r hL hR'.2 (fun a ha b hb => hix a ha b (List.mem_cons_of_mem _ hb))⟩
      rcases mem_mrg.1 hz with hz | hz
      · have hyz : lt y z = true := by
          rcases List.mem_cons.1 hz with rfl | hz
          · exact h
          · exact SWO.lt_of hS h (hL'.1 z hz).1
        refine ⟨?_, .inl hyz⟩
        cases e : lt z y with
        | false => rfl
        | true => have := hS.trans _ _ _ e hyz; rw [hS.irrefl] at this; cases this
      · exact hR'.1 z hz
    | false =>
      rw [mrg_left lt x y l r h]
      refine List.pairwise_cons.2 ⟨fun z hz => ?_, mrg_stb hS ix l (y :: r) hL'.2 hR (fun a ha b hb => hix a (List.mem_cons_of_mem _ ha) b hb)⟩
      rcases mem_mrg.1 hz with hz | hz
      · exact hL'.1 z hz
      · refine ⟨?_, .inr (hix x (by simp) z hz)⟩
        rcases List.mem_cons.1 hz with rfl | hz
        · exact h
        · exact hS.ntrans _ _ _ (hR'.1 z hz).1 h
  termination_by L R => L.length + R.length

theorem getL (l : List α) (i : Nat) (h : i < l.length) : l.toArray[i]! = l[i] := by
  rw [getElem!_pos _ i (by simpa using h)]; simp

/-- the exchange of two -/
theorem swp_list (P M Q : List α) (x y : α) (i j : Nat) (hi : i = P.length) (hj : j = P.length + 1 + M.length) :
    swp (P ++ x :: (M ++ y :: Q)).toArray i j = (P ++ y :: (M ++ x :: Q)).toArray := by
  subst hi hj
  have e1 : (P ++ x :: (M ++ y :: Q)).toArray[P.length]! = x := by rw [getL _ _ (by simp)]; simp
  have e2 : (P ++ x :: (M ++ y :: Q)).toArray[P.length + 1 + M.length]! = y := by
    rw [getL _ _ (by simp; omega)]
    rw [List.getElem_append_right (by omega)]
    simp only [show P.length + 1 + M.length - P.length = M.length + 1 by omega, List.getElem_cons_succ]
    simp
  unfold swp
  rw [e1, e2]
  apply Array.toList_inj.1
  simp only [Array.toList_setIfInBounds]
  rw [List.set_append_right _ _ (Nat.le_refl _), Nat.sub_self, List.set_cons_zero, List.set_append_right _ _ (by omega)]
  rw [show P.length + 1 + M.length - P.length = M.length + 1 by omega, List.set_cons_succ, List.set_append_right _ _ (Nat.le_refl _), Nat.sub_self, List.set_cons_zero]

/-- the inner loop of the insertion sort -/
theorem insInner_list (lt : α → α → Bool) (hS : SWO lt) (pre : List α) : ∀ (S : List α) (x : α) (post : List α), Srt lt S →
    insInner lt pre.length (pre.length + S.length) (pre ++ S ++ x :: post).toArray = (pre ++ mrg lt S [x] ++ post).toArray := by
  intro S
  induction hn : S.length generalizing S with
  | zero =>
    intro x post _
    obtain rfl : S = [] := List.eq_nil_of_length_eq_zero hn
    rw [insInner_stop _ _ _ _ (.inl (by simp)), mrg_nil_left]
    simp
  | succ n ih =>
    intro x post hs
    obtain ⟨S', y, rfl⟩ : ∃ S' y, S = S' ++ [y] := ⟨S.dropLast, S.getLast (by rintro rfl; simp at hn), (List.dropLast_concat_getLast _).symm⟩
    have hl : S'.length = n := by simpa using hn
    have ex : (pre ++ (S' ++ [y]) ++ x :: post).toArray[pre.length + (n + 1)]! = x := by
      rw [getL _ _ (by simp; omega), List.getElem_append_right (by simp; omega)]
      simp [hl]
    have ey : (pre ++ (S' ++ [y]) ++ x :: post).toArray[pre.length + (n + 1) - 1]! = y := by
      rw [getL _ _ (by simp; omega), List.getElem_append_left (by simp; omega), List.getElem_append_right (by omega), List.getElem_append_right (by omega)]
      simp [hl]
    have hs' := List.pairwise_append.1 hs
    cases h : lt x y with
    | true =>
      rw [insInner_go lt _ _ _ (by omega) (by rw [ex, ey]; exact h)]
      have e := swp_list (pre ++ S') [] post y x (pre.length + n) (pre.length + (n + 1)) (by simp [hl]) (by simp [hl]; omega)
      have e' : swp (pre ++ (S' ++ [y]) ++ x :: post).toArray (pre.length + (n + 1)) (pre.length + (n + 1) - 1) = (pre ++ S' ++ x :: (y :: post)).toArray := by
        have hsym : ∀ (d : Array α) (i j : Nat), i ≠ j → swp d i j = swp d j i := fun d i j hij => by
          unfold swp; rw [Array.setIfInBounds_comm _ _ hij]
        rw [hsym _ _ _ (by omega), show pre.length + (n + 1) - 1 = pre.length + n by omega]
        simpa using e
      rw [e', show pre.length + (n + 1) - 1 = pre.length + n by omega, ih S' hl x (y :: post) hs'.1]
      have := mrg_split lt S' [x] [y] [] (fun a ha b hb => by simp at ha hb; subst ha hb; exact h) (fun a _ b hb => by cases hb)
      rw [List.append_nil, mrg_nil_right] at this
      rw [this]
      simp
    | false =>
      rw [insInner_stop lt _ _ _ (.inr (by rw [ex, ey]; exact h))]
      have := mrg_split lt (S' ++ [y]) [] [] [x] (fun a ha => by cases ha) (fun a ha b hb => by
        simp at hb; subst hb
        rcases List.mem_append.1 ha with ha | ha
        · exact hS.ntrans _ _ _ h (hs'.2.2 a ha y (by simp))
        · simp at ha; subst ha; exact h)
      rw [List.append_nil, List.nil_append, mrg_nil_right, mrg_nil_left] at this
      rw [this]
      simp

/-- the insertion sort of a part: in order by less, then by number -/
theorem insOuter_list (lt : α → α → Bool) (hS : SWO lt) (ix : α → Nat) (pre : List α) : ∀ (T S post : List α), Stb lt ix S → (∀ x ∈ S, ∀ y ∈ T, ix x < ix y) → T.Pairwise (fun x y => ix x < ix y) →
    ∃ M, insOuter lt pre.length (pre.length + S.length + T.length) (pre.length + S.length) (pre ++ S ++ T ++ post).toArray = (pre ++ M ++ post).toArray ∧ M.Perm (S ++ T) ∧ Stb lt ix M := by
  intro T
  induction T with
  | nil =>
    intro S post hs _ _
    exact ⟨S, by rw [insOuter_stop _ _ _ _ _ (by simp)]; simp, by simp, hs⟩
  | cons x T ih =>
    intro S post hs h1 h2
    have h2' := List.pairwise_cons.1 h2
    rw [insOuter_go lt _ _ _ _ (by simp)]
    have e := insInner_list lt hS pre S x (T ++ post) hs.srt
    rw [show pre ++ S ++ x :: T ++ post = pre ++ S ++ x :: (T ++ post) by simp, e]
    have hstb : Stb lt ix (mrg lt S [x]) := mrg_stb hS ix S [x] hs (by simp [Stb]) (fun a ha b hb => by simp at hb; subst hb; exact h1 a ha b (by simp))
    have hlen : (mrg lt S [x]).length = S.length + 1 := by rw [mrg_length]; rfl
    obtain ⟨M, hM1, hM2, hM3⟩ := ih (mrg lt S [x]) post hstb (fun a ha b hb => by
      rcases mem_mrg.1 ha with ha | ha
      · exact h1 a ha b (List.mem_cons_of_mem _ hb)
      · simp at ha; subst ha; exact h2'.1 b hb) h2'.2
    refine ⟨M, ?_, ?_, hM3⟩
    · rw [hlen] at hM1
      rw [← hM1]
      congr 1
      · simp only [List.length_cons]; omega
      · simp
    · refine hM2.trans ?_
      have := (mrg_perm lt S [x]).append_right T
      simpa using this

/-- the insertion sort of a part -/
theorem insertion_list (lt : α → α → Bool) (hS : SWO lt) (ix : α → Nat) (pre T post : List α) (h : T.Pairwise (fun x y => ix x < ix y)) :
    ∃ M, insertionSort lt (pre ++ T ++ post).toArray pre.length (pre.length + T.length) = (pre ++ M ++ post).toArray ∧ M.Perm T ∧ Stb lt ix M := by
  unfold insertionSort
  cases T with
  | nil => exact ⟨[], by rw [insOuter_stop _ _ _ _ _ (by simp)], List.Perm.refl _, List.Pairwise.nil⟩
  | cons x T =>
    have h' := List.pairwise_cons.1 h
    obtain ⟨M, h1, h2, h3⟩ := insOuter_list lt hS ix pre T [x] post (by simp [Stb]) (fun a ha b hb => by simp at ha; subst ha; exact h'.1 b hb) h'.2
    refine ⟨M, ?_, by simpa using h2, h3⟩
    rw [← h1]
    congr 1
    · simp only [List.length_cons, List.length_nil]; omega
    · simp
end
end Go.Proofs.Ytfajbkofbjcbbaa
