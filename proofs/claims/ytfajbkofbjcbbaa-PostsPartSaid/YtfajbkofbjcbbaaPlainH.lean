/- Plain Lean: the stable sort's runs: blocks sorted one by one, then merged two by two. -/
import Derived.Test.YtfajbkofbjcbbaaPlainG
namespace Go.Proofs.Ytfajbkofbjcbbaa
open Go.Sort
section
variable {α : Type} [Inhabited α] {lt : α → α → Bool} {ix : α → Nat} {ds : List α}

/-- one block more -/
theorem ins_step (hS : SWO lt) (hix : ds.Pairwise fun x y => ix x < ix y) {B : List (List α × List α)} (hB : Blks lt ix 20 B) (h2 : fl2 B = ds.take (B.length * 20)) (hn : B.length * 20 + 20 ≤ ds.length) :
    ∃ B', B'.length = B.length + 1 ∧ Blks lt ix 20 B' ∧ fl2 B' = ds.take (B'.length * 20) ∧ insertionSort lt (fl1 B ++ ds.drop (B.length * 20)).toArray (B.length * 20) (B.length * 20 + 20) = (fl1 B' ++ ds.drop (B'.length * 20)).toArray := by
  have hl := hB.length.1
  have hT : ((ds.drop (B.length * 20)).take 20).Pairwise fun x y => ix x < ix y := hix.sublist ((List.take_sublist _ _).trans (List.drop_sublist _ _))
  have hTl : ((ds.drop (B.length * 20)).take 20).length = 20 := by simp; omega
  obtain ⟨M, h3, h4, h5⟩ := insertion_list lt hS ix (fl1 B) ((ds.drop (B.length * 20)).take 20) (ds.drop (B.length * 20 + 20)) hT
  refine ⟨B ++ [(M, (ds.drop (B.length * 20)).take 20)], by simp, hB.snoc (by rw [h4.length_eq, hTl]) h4 h5, ?_, ?_⟩
  · rw [fl2_append, h2, fl2_cons, fl2_nil, List.append_nil, List.length_append, List.length_singleton, Nat.add_mul, Nat.one_mul, List.take_add]
  · rw [hTl, hl] at h3
    have e : fl1 B ++ (ds.drop (B.length * 20)).take 20 ++ ds.drop (B.length * 20 + 20) = fl1 B ++ ds.drop (B.length * 20) := by
      rw [List.append_assoc, ← List.drop_drop, List.take_append_drop]
    rw [e] at h3
    rw [h3, fl1_append, fl1_cons, fl1_nil, List.append_nil, List.length_append, List.length_singleton, Nat.add_mul, Nat.one_mul]

/-- what is left, shorter than a block -/
theorem ins_last (hS : SWO lt) (hix : ds.Pairwise fun x y => ix x < ix y) {B : List (List α × List α)} (hB : Blks lt ix 20 B) (hn : B.length * 20 ≤ ds.length) :
    ∃ T, insertionSort lt (fl1 B ++ ds.drop (B.length * 20)).toArray (B.length * 20) ds.length = (fl1 B ++ T).toArray ∧ T.Perm (ds.drop (B.length * 20)) ∧ Stb lt ix T := by
  have hl := hB.length.1
  have hT : (ds.drop (B.length * 20)).Pairwise fun x y => ix x < ix y := hix.sublist (List.drop_sublist _ _)
  obtain ⟨M, h3, h4, h5⟩ := insertion_list lt hS ix (fl1 B) (ds.drop (B.length * 20)) [] hT
  refine ⟨M, ?_, h4, h5⟩
  rw [List.append_nil, List.append_nil, hl, List.length_drop, show B.length * 20 + (ds.length - B.length * 20) = ds.length by omega] at h3
  exact h3

/-- runs of bs, and a shorter one -/
structure St (lt : α → α → Bool) (ix : α → Nat) (ds : List α) (bs : Nat) (B : List (List α × List α)) (T : List α) : Prop where
  hB : Blks lt ix bs B
  hT : Stb lt ix T
  hl : T.length < bs
  hp : T.Perm (ds.drop (B.length * bs))
  h2 : fl2 B = ds.take (B.length * bs)
  hn : B.length * bs + T.length = ds.length

/-- some merged, some not -/
structure Half (lt : α → α → Bool) (ix : α → Nat) (ds : List α) (bs : Nat) (C R : List (List α × List α)) (T : List α) : Prop where
  hC : Blks lt ix (2 * bs) C
  hR : Blks lt ix bs R
  hT : Stb lt ix T
  hl : T.length < bs
  hp : T.Perm (ds.drop (C.length * (2 * bs) + R.length * bs))
  h2 : fl2 C ++ fl2 R = ds.take (C.length * (2 * bs) + R.length * bs)
  hn : C.length * (2 * bs) + R.length * bs + T.length = ds.length

variable {bs : Nat} {B C R : List (List α × List α)} {T : List α}

omit [Inhabited α] in
theorem Half.start (h : St lt ix ds bs B T) : Half lt ix ds bs [] B T :=
  ⟨fun p hp => absurd hp (by simp), h.hB, h.hT, h.hl, by simpa using h.hp, by simpa [fl2_nil] using h.h2, by simpa using h.hn⟩

omit [Inhabited α] in
theorem Half.two (h : Half lt ix ds bs C R T) (hb : C.length * (2 * bs) + 2 * bs ≤ ds.length) : ∃ X c1 Y c2 R', R = (X, c1) :: (Y, c2) :: R' := by
  have hn := h.hn
  have hl := h.hl
  match R, hn with
  | [], hn => exfalso; simp at hn; omega
  | [r], hn => exfalso; simp at hn; omega
  | (X, c1) :: (Y, c2) :: R', _ => exact ⟨X, c1, Y, c2, R', rfl⟩

omit [Inhabited α] in
theorem Half.step (hS : SWO lt) (hix : ds.Pairwise fun x y => ix x < ix y) {X c1 Y c2 : List α} (h : Half lt ix ds bs C ((X, c1) :: (Y, c2) :: R) T) :
    Half lt ix ds bs (C ++ [(mrg lt X Y, c1 ++ c2)]) R T ∧ X.length = bs ∧ Y.length = bs ∧ Srt lt X ∧ Srt lt Y ∧ (fl1 C).length = C.length * (2 * bs) := by
  have hX := h.hR (X, c1) (by simp)
  have hY := h.hR (Y, c2) (by simp)
  have hp : (fl2 C ++ c1 ++ c2 ++ (fl2 R ++ ds.drop (C.length * (2 * bs) + (R.length + 1 + 1) * bs))).Pairwise fun x y => ix x < ix y := by
    have e : fl2 C ++ c1 ++ c2 ++ (fl2 R ++ ds.drop (C.length * (2 * bs) + (R.length + 1 + 1) * bs)) = ds := by
      have h2 := h.h2
      simp only [List.length_cons] at h2
      rw [fl2_cons, fl2_cons] at h2
      have e1 : fl2 C ++ c1 ++ c2 ++ (fl2 R ++ ds.drop (C.length * (2 * bs) + (R.length + 1 + 1) * bs)) = (fl2 C ++ (c1 ++ (c2 ++ fl2 R))) ++ ds.drop (C.length * (2 * bs) + (R.length + 1 + 1) * bs) := by simp
      rw [e1]
      have h3 : fl2 C ++ (c1 ++ (c2 ++ fl2 R)) = ds.take (C.length * (2 * bs) + (R.length + 1 + 1) * bs) := h2
      rw [h3, List.take_append_drop]
    rw [e]; exact hix
  have hm := mrg_blk hS hX.2.1 hY.2.1 hX.2.2 hY.2.2 hp
  have hlen : (C ++ [(mrg lt X Y, c1 ++ c2)]).length * (2 * bs) + R.length * bs = C.length * (2 * bs) + (R.length + 1 + 1) * bs := by
    simp only [List.length_append, List.length_singleton, Nat.add_mul, Nat.one_mul]; omega
  refine ⟨⟨h.hC.snoc (by rw [mrg_length, hX.1, hY.1]; omega) hm.1 hm.2, fun p hp => h.hR p (by simp [hp]), h.hT, h.hl, ?_, ?_, ?_⟩, hX.1, hY.1, hX.2.2.srt, hY.2.2.srt, h.hC.length.1⟩
  · rw [hlen]; simpa using h.hp
  · rw [hlen, fl2_append, fl2_cons, fl2_nil, List.append_nil]
    have h2 := h.h2
    rw [fl2_cons, fl2_cons] at h2
    simp only [List.length_cons] at h2
    rw [← h2]
    simp
  · rw [hlen]; simpa using h.hn

omit [Inhabited α] in
/-- the last pair: a run and the shorter one -/
theorem Half.odd (hS : SWO lt) (hix : ds.Pairwise fun x y => ix x < ix y) (h : Half lt ix ds bs C R T) (hb : ds.length < C.length * (2 * bs) + 2 * bs) (hm : C.length * (2 * bs) + bs < ds.length) :
    ∃ r, R = [r] ∧ r.1.length = bs ∧ 0 < T.length ∧ Srt lt r.1 ∧ Srt lt T ∧ (fl1 C).length = C.length * (2 * bs) ∧ St lt ix ds (2 * bs) C (mrg lt r.1 T) := by
  have hn := h.hn
  have hl := h.hl
  have h2 := h.h2
  have hp := h.hp
  have hR := h.hR
  match R, hn, h2, hp, hR with
  | [], hn, _, _, _ => exfalso; simp at hn; omega
  | r1 :: r2 :: R', hn, _, _, _ =>
    exfalso
    simp only [List.length_cons, Nat.add_mul, Nat.one_mul] at hn
    omega
  | [r], hn, h2, hp, hR =>
    simp only [List.length_singleton, Nat.one_mul] at hn h2 hp
    have hr := hR r (by simp)
    have hT0 : 0 < T.length := by omega
    rw [fl2_cons, fl2_nil, List.append_nil] at h2
    have hl2 : (fl2 C).length = C.length * (2 * bs) := h.hC.length.2
    have e1 : fl2 C = ds.take (C.length * (2 * bs)) := by
      have := congrArg (List.take (C.length * (2 * bs))) h2
      rw [List.take_left' hl2, List.take_take, Nat.min_eq_left (by omega)] at this
      exact this
    have e2 : r.2 ++ ds.drop (C.length * (2 * bs) + bs) = ds.drop (C.length * (2 * bs)) := by
      have h3 := congrArg (List.drop (C.length * (2 * bs))) h2
      rw [List.drop_left' hl2, List.drop_take] at h3
      rw [h3, show C.length * (2 * bs) + bs - C.length * (2 * bs) = bs by omega, ← List.drop_drop, List.take_append_drop]
    have hpw : (fl2 C ++ r.2 ++ ds.drop (C.length * (2 * bs) + bs) ++ []).Pairwise fun x y => ix x < ix y := by
      rw [List.append_nil, List.append_assoc, e2, e1, List.take_append_drop]; exact hix
    have hmm := mrg_blk hS hr.2.1 hp hr.2.2 h.hT hpw
    refine ⟨r, rfl, hr.1, hT0, hr.2.2.srt, h.hT.srt, h.hC.length.1, ⟨h.hC, hmm.2, by rw [mrg_length, hr.1]; omega, ?_, e1, by rw [mrg_length, hr.1]; omega⟩⟩
    rw [← e2]; exact hmm.1

omit [Inhabited α] in
/-- none left, or one run and nothing behind it -/
theorem Half.even (h : Half lt ix ds bs C R T) (hb : ds.length < C.length * (2 * bs) + 2 * bs) (hm : ds.length ≤ C.length * (2 * bs) + bs) :
    ∃ T', fl1 R ++ T = T' ∧ St lt ix ds (2 * bs) C T' := by
  have hn := h.hn
  have hl := h.hl
  have h2 := h.h2
  have hp := h.hp
  have hR := h.hR
  match R, hn, h2, hp, hR with
  | [], hn, h2, hp, _ =>
    simp only [List.length_nil, Nat.zero_mul, Nat.add_zero] at hn h2 hp
    refine ⟨T, by simp [fl1_nil], h.hC, h.hT, by omega, hp, by simpa [fl2_nil] using h2, hn⟩
  | [r], hn, h2, hp, hR =>
    simp only [List.length_singleton, Nat.one_mul] at hn h2 hp
    have hr := hR r (by simp)
    have hT0 : T = [] := List.eq_nil_of_length_eq_zero (by omega)
    subst hT0
    rw [fl2_cons, fl2_nil, List.append_nil] at h2
    have hl2 : (fl2 C).length = C.length * (2 * bs) := h.hC.length.2
    have e1 : fl2 C = ds.take (C.length * (2 * bs)) := by
      have := congrArg (List.take (C.length * (2 * bs))) h2
      rw [List.take_left' hl2, List.take_take, Nat.min_eq_left (by omega)] at this
      exact this
    have e2 : r.2 = ds.drop (C.length * (2 * bs)) := by
      have h3 := congrArg (List.drop (C.length * (2 * bs))) h2
      rw [List.drop_left' hl2, List.drop_take] at h3
      simp only [List.length_nil] at hn
      rw [h3, List.take_of_length_le (by rw [List.length_drop]; omega)]
    refine ⟨r.1, by simp [fl1_cons, fl1_nil], h.hC, hr.2.2, by rw [hr.1]; omega, by rw [← e2]; exact hr.2.1, e1, by rw [hr.1]; simp only [List.length_nil] at hn; omega⟩
  | r1 :: r2 :: R', hn, _, _, _ =>
    exfalso
    simp only [List.length_cons, Nat.add_mul, Nat.one_mul] at hn
    omega

omit [Inhabited α] in
/-- the whole is one run -/
theorem St.fin (h : St lt ix ds bs B T) (hb : ds.length ≤ bs) : (fl1 B ++ T).Perm ds ∧ Stb lt ix (fl1 B ++ T) := by
  have hn := h.hn
  have h2 := h.h2
  have hp := h.hp
  have hB := h.hB
  match B, hn, h2, hp, hB with
  | [], hn, h2, hp, _ =>
    simp only [List.length_nil, Nat.zero_mul, List.drop_zero] at hp
    exact ⟨by simpa [fl1_nil] using hp, by simpa [fl1_nil] using h.hT⟩
  | [r], hn, h2, hp, hB =>
    simp only [List.length_singleton, Nat.one_mul] at hn h2 hp
    have hr := hB r (by simp)
    have hT0 : T = [] := List.eq_nil_of_length_eq_zero (by omega)
    subst hT0
    rw [fl2_cons, fl2_nil, List.append_nil] at h2
    rw [fl1_cons, fl1_nil, List.append_nil, List.append_nil]
    refine ⟨?_, hr.2.2⟩
    have := hr.2.1
    rw [h2, List.take_of_length_le hb] at this
    exact this
  | r1 :: r2 :: R', hn, _, _, _ =>
    exfalso
    have hl := h.hl
    simp only [List.length_cons, Nat.add_mul, Nat.one_mul] at hn
    omega
end
end Go.Proofs.Ytfajbkofbjcbbaa
