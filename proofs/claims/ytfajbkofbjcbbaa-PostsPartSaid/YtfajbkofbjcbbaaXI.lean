/- Reading the arguments: rows of numbers and of labels; the law's last step. -/
import Derived.Deep.Slices
import Derived.Deep.Fields
import Derived.ChangeSame
import Derived.ChangeSlices
import Derived.Lib.SmallJoins
import Derived.OpenShut
import Derived.ProofKit
import Derived.JoinedCond
import Derived.Carry
import Derived.Test.YtfajbkofbjcbbaaRows
import Derived.Test.YtfajbkofbjcbbaaXH
namespace Go.Proofs.Ytfajbkofbjcbbaa
open Go.RowKit Go.WideShapes Go.ChangeShapes Go.Deep Go.Joins
section
variable {H : Type} {enc : TypeId × Value → H} {P : Program} {w : World} {base : Nat} {spare : Nat → Bool} {held : Bool}
theorem open_slice_fields {t e : TypeId} {fs : Array Field} {fuel : Nat} {cs : List Value} {x : DataW H × List MemPlace} (ht : P.underlying t = some (.slice e)) (he : P.underlying e = some (.struct fs))
    (hone : oneCellFields P fs = true) (hC : P.cellsOf e = fs.size) (h : DataW.trod enc P w base spare held fuel t cs = some x) :
    (cs = [.slice none 0 0] ∧ x = (.nil, [])) ∨
    ∃ (a : Addr) (len cap m : Nat) (D : Nat → DataW H) (Pl : Nat → List MemPlace), cs = [.slice (some a) len cap] ∧ base ≤ a.block ∧ len ≤ cap ∧ cap ≤ maxLen ∧ m = (if spare a.block then cap else len) ∧
      x = (.slice ((List.range len).map D) ((List.range (m - len)).map fun j => D (len + j)), MemPlace.row a (m * fs.size) ++ (List.range m).flatMap Pl) ∧
      ∀ i, i < m → ∃ (ys : List (DataW H × List MemPlace)) (n : Nat), D i = .agg (ys.map (·.1)) ∧ Pl i = ys.flatMap (·.2) ∧ ys.length = fs.size ∧
        ∀ (j : Nat) (f : Field), fs[j]? = some f → ∃ (v : Value) (y : DataW H × List MemPlace), w.cell? (a.add (i * fs.size + j)) = some v ∧ ys[j]? = some y ∧ DataW.trod enc P w base spare held n f.type [v] = some y := by
  rcases open_slice ht h with h0 | ⟨a, len, cap, m, n, D, Pl, hcs, hb, hl, hm, hmm, hx, hi⟩
  · exact .inl h0
  · refine .inr ⟨a, len, cap, m, D, Pl, hcs, hb, hl, hm, hmm, by rw [hC] at hx; exact hx, fun i him => ?_⟩
    obtain ⟨cs', hc, ht'⟩ := hi i him
    rw [hC] at hc
    obtain ⟨ys, n', hn', hy, hlen, hyl, hf⟩ := DataW.trod_struct he ht'
    obtain ⟨_, hcl, hat⟩ := World.cells?_some hc
    simp only [Prod.mk.injEq] at hy
    refine ⟨ys, n', hy.1, hy.2, hyl, fun j f hj => ?_⟩
    obtain ⟨ho, hk⟩ := hone_of hone j f hj
    have hjl : j < fs.size := (Array.getElem?_eq_some_iff.1 hj).1
    have hcell := hat j hjl
    have hv : cs'[j]? = some (cs'[j]'(by omega)) := List.getElem?_eq_getElem (by omega)
    have h1 := hf j f hj
    rw [ho, hk] at h1
    have hone' : (cs'.drop j).take 1 = [cs'[j]'(by omega)] := by
      rw [List.drop_eq_getElem_cons (by omega)]
      rfl
    rw [hone'] at h1
    have hys : ys[j]? = some (ys[j]'(by omega)) := List.getElem?_eq_getElem (by omega)
    refine ⟨_, _, ?_, hys, h1.trans hys⟩
    rw [← Go.Deep.add_add, hcell, hv]
theorem post_of_below {f : Func} {s : ChangeSpec} {apart fresh handsOn again : Bool} {W W' : World} {args : Array Value} {v : Value} {ds gs : List (DataW H)} {before pa pv : List MemPlace}
    (hW : DataW.Whole enc P f.params.toList s.vars apart W args.toList ds gs before)
    (hres : ∀ (b : Nat) (sp : Nat → Bool) (hd : Bool), DataW.TrodAll enc P W' b sp hd f.resultTypes.toList (v.resultList f.resultTypes.size) (s.fn H (ds ++ gs)).results [])
    (hargs : ∀ sp : Nat → Bool, (∀ p ∈ before, sp p.block = true) → DataW.TrodAll enc P W' 0 sp true f.params.toList args.toList (s.fn H (ds ++ gs)).args pa)
    (hvars : ∀ sp : Nat → Bool, (∀ p ∈ before, sp p.block = true) → DataW.TrodVars enc P W' sp s.vars (s.fn H (ds ++ gs)).vars pv)
    (hps : before = pa ++ pv) (hb : Below W.heap.size W W')
    (hok : ∀ (j : Nat) (t : TypeId) (r : Value), f.resultTypes[j]? = some t → (v.resultList f.resultTypes.size)[j]? = some r → Value.okWide P W' .any 0 t r) :
    s.post enc P f apart fresh handsOn again W args v W' := by
  have hlt : ∀ p ∈ before, p.block < W.heap.size := fun p hp => hW.lt p hp
  have hold : ∀ p ∈ before, (fun b => decide (b < W.heap.size)) p.block = true := fun p hp => by simpa using hlt p hp
  refine ⟨ds, gs, before, [], pa, pv, hW, hres _ _ _, hargs _ hold, hvars _ hold, World.keptBut_mono (fun p hp => ⟨hp, ?_⟩) (hb.frame (· ∈ before)), fun _ => ?_⟩
  · rw [hps, List.mem_append] at hp
    exact Or.inr hp
  · obtain ⟨_, _, _, _, _, hz, hn⟩ := hW
    refine ⟨hok, _, _, ([] ++ pa) ++ pv, ⟨[] ++ pa, pv, trodAll_append (hargs _ (fun _ _ => rfl)) (hres _ _ _), hvars _ (fun _ _ => rfl), rfl, ?_, ?_⟩, ?_⟩
    · intro b off hp
      have hin : MemPlace.cell b off ∈ before := by rw [hps]; simpa using hp
      rw [hb.frozen (hlt _ hin)]
      exact hz b off hin
    · intro ha
      have := hn ha
      rw [hps] at this
      simpa using this
    · intro p hp _
      rw [hps]
      simpa using hp

theorem at_of_addr {S : Nat → Prop} {w : World} {a : Addr} {cs : List Value} (h : ∀ j u, cs[j]? = some u → w.cell? (a.add j) = some u) (hS : a.block < w.heap.size → S a.block) : At S w (some a) cs := fun hn => by
  obtain ⟨b, o, s⟩ := a
  have h0 : ∃ u, cs[0]? = some u := by cases cs with | nil => exact absurd rfl hn | cons x r => exact ⟨x, rfl⟩
  obtain ⟨u, hu⟩ := h0
  have hc := h 0 u hu
  have hs : s = none := by
    cases s with
    | none => rfl
    | some k =>
      exfalso
      simp only [World.cell?, Addr.add] at hc
      split at hc
      · simp at hc
      · cases hc
  subst hs
  have hb : b < w.heap.size := World.block_lt_of_cell? w _ hc
  exact ⟨b, o, rfl, hS hb, fun j u hu => by have := h j u hu; rwa [Addr.add_lit] at this⟩

/-- a slice of whole numbers that came in -/
theorem read_ints {t e : TypeId} {fuel : Nat} {cs : List Value} {x : DataW H × List MemPlace} (ht : P.underlying t = some (.slice e)) (he : P.underlying e = some (.int .i64)) (hc : P.cellsOf e = 1) (h : DataW.trod enc P w base (fun _ => true) held fuel t cs = some x) :
    ∃ (a : Option Addr) (c : Nat) (xs : List Int), cs = [.slice a xs.length c] ∧ xs.length ≤ c ∧ c ≤ 9223372036854775807 ∧ At (· < w.heap.size) w a (intCells xs) := by
  rcases open_ints ht he hc h with ⟨rfl, _⟩ | ⟨a, len, cap, zs, rfl, _, hlc, hcm, hzl, _, hcell, _⟩
  · exact ⟨none, 0, [], rfl, by simp, by omega, At.nil _ _ _⟩
  · have hzl' : zs.length = cap := by simpa using hzl
    refine ⟨some a, cap, zs.take len, by simp; omega, by simp; omega, hcm, at_of_addr (fun j u hu => ?_) (fun h => h)⟩
    have hj : j < (zs.take len).length := by
      rcases Nat.lt_or_ge j (zs.take len).length with h | h
      · exact h
      · rw [List.getElem?_eq_none (by rw [intCells_length]; exact h)] at hu; cases hu
    have hj2 : j < zs.length := by simp at hj; omega
    have h1 := hcell j hj2
    simp only [intCells, List.getElem?_map, List.getElem?_take] at hu
    rw [if_pos (by simp at hj; omega), List.getElem?_eq_getElem hj2] at hu
    simp only [Option.map_some, Option.some.injEq] at hu
    rw [← hu, h1]
    simp [hj2]
end

/-- a slice of labels that came in -/
theorem read_lbls {H : Type} {enc : TypeId × Value → H} {w : World} {base : Nat} {held : Bool} {fuel : Nat} {cs : List Value} {x : DataW H × List MemPlace} (h : DataW.trod enc Try.prog w base (fun _ => true) held fuel 30 cs = some x) :
    ∃ (a : Option Addr) (c : Nat) (ls : List Lbl), cs = [.slice a ls.length c] ∧ ls.length ≤ c ∧ c ≤ 9223372036854775807 ∧ At (· < w.heap.size) w a (lblCells ls) := by
  rcases open_slice_fields Try.underlying30 Try.underlying46 (by kernel_rfl) (by kernel_rfl) h with ⟨rfl, _⟩ | ⟨a, len, cap, m, D, Pl, rfl, _, hlc, hcm, hm, _, hi⟩
  · exact ⟨none, 0, [], rfl, by simp, by omega, At.nil _ _ _⟩
  · have hm' : m = cap := by simpa using hm
    have hex : ∀ i : Nat, ∃ l : Lbl, i < len → w.cell? (a.add (i * 4)) = some (.bool l.keyed) ∧ w.cell? (a.add (i * 4 + 1)) = some (.string l.key) ∧ w.cell? (a.add (i * 4 + 2)) = some (.int .u8 l.kind) ∧ w.cell? (a.add (i * 4 + 3)) = some (.string l.text) := by
      intro i
      by_cases hil : i < len
      · obtain ⟨ys, n, _, _, _, hf⟩ := hi i (by omega)
        obtain ⟨v0, y0, c0, _, t0⟩ := hf 0 _ rfl
        obtain ⟨v1, y1, c1, _, t1⟩ := hf 1 _ rfl
        obtain ⟨v2, y2, c2, _, t2⟩ := hf 2 _ rfl
        obtain ⟨v3, y3, c3, _, t3⟩ := hf 3 _ rfl
        obtain ⟨b, e0, _⟩ := DataW.trod_bool Try.underlying4 t0
        obtain ⟨s1, e1, _⟩ := DataW.trod_string Try.underlying9 t1
        obtain ⟨k, e2, _, hk⟩ := DataW.trod_int Try.underlying22 t2
        obtain ⟨s3, e3, _⟩ := DataW.trod_string Try.underlying9 t3
        injection e0 with e0 _
        injection e1 with e1 _
        injection e2 with e2 _
        injection e3 with e3 _
        have hk2 : 0 ≤ k ∧ k ≤ 255 := by simpa [Lit.wf, IntKind.min, IntKind.max, IntKind.signed, IntKind.bits] using hk
        refine ⟨⟨b, s1, k.toNat, s3⟩, fun _ => ⟨?_, ?_, ?_, ?_⟩⟩
        · rw [e0] at c0; exact c0
        · rw [e1] at c1; exact c1
        · rw [e2] at c2
          have hkk : ((k.toNat : Nat) : Int) = k := by omega
          show _ = some (Value.int .u8 ((k.toNat : Nat) : Int))
          rw [hkk]; exact c2
        · rw [e3] at c3; exact c3
      · exact ⟨⟨false, .empty, 0, .empty⟩, fun h => absurd h hil⟩
    obtain ⟨f, hf⟩ := Classical.axiomOfChoice hex
    refine ⟨some a, cap, (List.range len).map f, by simp, by simpa using hlc, hcm, at_of_addr (fun j u hu => ?_) (fun h => h)⟩
    have hj : j < len * 4 := by
      rcases Nat.lt_or_ge j (len * 4) with h | h
      · exact h
      · rw [List.getElem?_eq_none (by rw [lblCells_length]; simpa using h)] at hu; cases hu
    have hq : j / 4 < ((List.range len).map f).length := by simp; omega
    obtain ⟨g0, g1, g2, g3⟩ := lblCells_get hq
    obtain ⟨f0, f1, f2, f3⟩ := hf (j / 4) (by omega)
    simp only [List.getElem_map, List.getElem_range] at g0 g1 g2 g3
    have hd : j = j / 4 * 4 + j % 4 := by omega
    have hm4 : j % 4 < 4 := Nat.mod_lt _ (by omega)
    rw [hd] at hu ⊢
    generalize j % 4 = r at hu hm4 ⊢
    match r, hm4 with
    | 0, _ => rw [Nat.add_zero] at hu ⊢; rw [g0] at hu; rw [f0]; exact hu
    | 1, _ => rw [g1] at hu; rw [f1]; exact hu
    | 2, _ => rw [g2] at hu; rw [f2]; exact hu
    | 3, _ => rw [g3] at hu; rw [f3]; exact hu

theorem laidOut : laidOutB Try.prog = true := by kernel_rfl
theorem ownK : ownKnob Try.prog.godebug = none := by kernel_rfl

end Go.Proofs.Ytfajbkofbjcbbaa
