/-
  Memory: a value of a document lies in cells. 'S': in which blocks it may lie.
-/
import Derived.WalkKit
import Derived.Lib.Hide
import Derived.Test.YtfajbkofbjcbbaaV
namespace Go.Proofs.Ytfajbkofbjcbbaa
open Go.RowKit

/-- the cells from an address on hold these (nothing is said where there are none) -/
def At (S : Nat → Prop) (w : World) (a : Option Addr) (cs : List Value) : Prop :=
  cs ≠ [] → ∃ b o, a = some ⟨b, o, none⟩ ∧ S b ∧ ∀ j u, cs[j]? = some u → w.cell? ⟨b, o + j, none⟩ = some u

/-- the blocks of S are as they were -/
def Keeps (S : Nat → Prop) (w w' : World) : Prop := ∀ b, S b → b < w.heap.size → w'.heap[b]? = w.heap[b]?

theorem Keeps.refl (S : Nat → Prop) (w : World) : Keeps S w w := fun _ _ _ => rfl
theorem Keeps.cell {S : Nat → Prop} {w w' : World} (h : Keeps S w w') {p : Addr} {v : Value} (hS : S p.block) (hc : w.cell? p = some v) : w'.cell? p = some v :=
  (World.cell?_of_block (w := w) (h p.block hS (World.block_lt_of_cell? w p hc))).trans hc
theorem Keeps.of_below {S : Nat → Prop} {B : Nat} {w w' : World} (h : Below B w w') (hS : ∀ b, S b → b < w.heap.size → b < B) : Keeps S w w' := fun b hb hl => h.block b (hS b hb hl)
theorem Keeps.of_ext {S : Nat → Prop} {w w' : World} (h : Below w.heap.size w w') : Keeps S w w' := .of_below h fun _ _ hl => hl
theorem Keeps.of_grown {S : Nat → Prop} {w w' : World} {row : Option Nat} (h : w.grownBy w' row) (hS : ∀ b, S b → some b ≠ row) : Keeps S w w' := fun b hb hl => h.block b hl (hS b hb)

theorem Keeps.setCell {S : Nat → Prop} {a : World} (w : World) (h : Keeps S a w) (_hs : a.heap.size ≤ w.heap.size) {p : Addr} (hp : ∀ b, S b → b < a.heap.size → b ≠ p.block) (u : Value) : Keeps S a (w.setCell p u) := fun b hb hl =>
  (Below.heap_setCell w p u b (hp b hb hl)).trans (h b hb hl)
theorem Keeps.set {S : Nat → Prop} (w : World) {p : Addr} (hp : ∀ b, S b → b ≠ p.block) (u : Value) : Keeps S w (w.setCell p u) := fun b hb _ => Below.heap_setCell w p u b (hp b hb)
theorem Keeps.alloc {S : Nat → Prop} (w : World) (o : Obj) : Keeps S w (w.alloc o) := fun b _ hl => Below.heap_alloc w o b hl
theorem Keeps.drew {S : Nat → Prop} (w : World) : Keeps S w w.drew := fun _ _ _ => rfl

theorem At.keep {S : Nat → Prop} {w w' : World} {a : Option Addr} {cs : List Value} (h : At S w a cs) (hk : Keeps S w w') : At S w' a cs := fun hn =>
  let ⟨b, o, ha, hS, hc⟩ := h hn
  ⟨b, o, ha, hS, fun j u hu => hk.cell (p := ⟨b, o + j, none⟩) hS (hc j u hu)⟩
theorem At.mono {S T : Nat → Prop} {w : World} {a : Option Addr} {cs : List Value} (h : At S w a cs) (hST : ∀ b, b < w.heap.size → S b → T b) : At T w a cs := fun hn =>
  let ⟨b, o, ha, hS, hc⟩ := h hn
  ⟨b, o, ha, hST b (by
    have : ∃ u, cs[0]? = some u := by cases cs with | nil => exact absurd rfl hn | cons x r => exact ⟨x, rfl⟩
    obtain ⟨u, hu⟩ := this
    exact World.block_lt_of_cell? w ⟨b, o + 0, none⟩ (hc 0 u hu)) hS, hc⟩
theorem At.nil (S : Nat → Prop) (w : World) (a : Option Addr) : At S w a [] := fun h => absurd rfl h

/-- strings as cells -/
def strCells (ks : List ByteArray) : List Value := ks.map Value.string

mutual
/-- four cells that hold a value -/
def IsV (S : Nat → Prop) (w : World) : V → List Value → Prop
  | .mk k t l ks, cs => ∃ la lc ka kc, cs = [.int .u8 k, .string t, .slice la l.length lc, .slice ka ks.length kc] ∧ k < 256 ∧ l.length ≤ lc ∧ lc ≤ 16777216 ∧ ks.length ≤ kc ∧ kc ≤ 16777216 ∧
      At S w ka (strCells ks) ∧ ∃ cells, IsVs S w l cells ∧ At S w la cells
/-- the cells of a row of values -/
def IsVs (S : Nat → Prop) (w : World) : List V → List Value → Prop
  | [], cs => cs = []
  | v :: r, cs => ∃ c d, cs = c ++ d ∧ IsV S w v c ∧ IsVs S w r d
end

theorem IsV.length {S : Nat → Prop} {w : World} {v : V} {cs : List Value} (h : IsV S w v cs) : cs.length = 4 := by
  cases v; obtain ⟨la, lc, ka, kc, rfl, _⟩ := h; rfl
theorem IsVs.length {S : Nat → Prop} {w : World} {l : List V} {cs : List Value} (h : IsVs S w l cs) : cs.length = l.length * 4 := by
  induction l generalizing cs with
  | nil => obtain rfl := h; rfl
  | cons v r ih => obtain ⟨c, d, rfl, h1, h2⟩ := h; rw [List.length_append, IsV.length h1, ih h2, List.length_cons]; omega

mutual
theorem IsV.keep {S : Nat → Prop} {w w' : World} (hk : Keeps S w w') : ∀ {v : V} {cs : List Value}, IsV S w v cs → IsV S w' v cs
  | .mk _ _ _ _, _, ⟨la, lc, ka, kc, hcs, h1, h2, h3, h4, h5, h6, cells, h7, h8⟩ => ⟨la, lc, ka, kc, hcs, h1, h2, h3, h4, h5, h6.keep hk, cells, IsVs.keep hk h7, h8.keep hk⟩
theorem IsVs.keep {S : Nat → Prop} {w w' : World} (hk : Keeps S w w') : ∀ {l : List V} {cs : List Value}, IsVs S w l cs → IsVs S w' l cs
  | [], _, h => h
  | _ :: _, _, ⟨c, d, hcs, h1, h2⟩ => ⟨c, d, hcs, IsV.keep hk h1, IsVs.keep hk h2⟩
end
mutual
theorem IsV.mono {S T : Nat → Prop} {w : World} (hST : ∀ b, b < w.heap.size → S b → T b) : ∀ {v : V} {cs : List Value}, IsV S w v cs → IsV T w v cs
  | .mk _ _ _ _, _, ⟨la, lc, ka, kc, hcs, h1, h2, h3, h4, h5, h6, cells, h7, h8⟩ => ⟨la, lc, ka, kc, hcs, h1, h2, h3, h4, h5, h6.mono hST, cells, IsVs.mono hST h7, h8.mono hST⟩
theorem IsVs.mono {S T : Nat → Prop} {w : World} (hST : ∀ b, b < w.heap.size → S b → T b) : ∀ {l : List V} {cs : List Value}, IsVs S w l cs → IsVs T w l cs
  | [], _, h => h
  | _ :: _, _, ⟨c, d, hcs, h1, h2⟩ => ⟨c, d, hcs, IsV.mono hST h1, IsVs.mono hST h2⟩
end

theorem IsVs.append {S : Nat → Prop} {w : World} {l r : List V} {c d : List Value} (h : IsVs S w l c) (k : IsVs S w r d) : IsVs S w (l ++ r) (c ++ d) := by
  induction l generalizing c with
  | nil => obtain rfl := h; exact k
  | cons v l ih => obtain ⟨c1, c2, rfl, h1, h2⟩ := h; exact ⟨c1, c2 ++ d, by simp, h1, ih h2⟩
theorem IsVs.one {S : Nat → Prop} {w : World} {v : V} {c : List Value} (h : IsV S w v c) : IsVs S w [v] c := ⟨c, [], by simp, h, rfl⟩

/-- the i-th of a row -/
theorem IsVs.get {S : Nat → Prop} {w : World} {l : List V} {cs : List Value} (h : IsVs S w l cs) {i : Nat} (hi : i < l.length) :
    ∃ c0 c1 c2 c3, cs[i * 4]? = some c0 ∧ cs[i * 4 + 1]? = some c1 ∧ cs[i * 4 + 2]? = some c2 ∧ cs[i * 4 + 3]? = some c3 ∧ IsV S w l[i] [c0, c1, c2, c3] := by
  induction l generalizing cs i with
  | nil => simp at hi
  | cons v r ih =>
    obtain ⟨c, d, rfl, h1, h2⟩ := h
    have hl := IsV.length h1
    match c, hl with
    | [c0, c1, c2, c3], _ =>
      cases i with
      | zero => exact ⟨c0, c1, c2, c3, rfl, rfl, rfl, rfl, h1⟩
      | succ i =>
        obtain ⟨d0, d1, d2, d3, e0, e1, e2, e3, hv⟩ := ih h2 (i := i) (by simpa using hi)
        refine ⟨d0, d1, d2, d3, ?_, ?_, ?_, ?_, by simpa using hv⟩
        · rw [show (i + 1) * 4 = i * 4 + 4 by omega]; simpa using e0
        · rw [show (i + 1) * 4 + 1 = i * 4 + 1 + 4 by omega]; simpa using e1
        · rw [show (i + 1) * 4 + 2 = i * 4 + 2 + 4 by omega]; simpa using e2
        · rw [show (i + 1) * 4 + 3 = i * 4 + 3 + 4 by omega]; simpa using e3

/-- the i-th of a row that lies: its four cells -/
theorem At.getV {S : Nat → Prop} {w : World} {a : Option Addr} {l : List V} {cs : List Value} (h : At S w a cs) (hs : IsVs S w l cs) {i : Nat} (hi : i < l.length) :
    ∃ b o c0 c1 c2 c3, a = some ⟨b, o, none⟩ ∧ S b ∧ w.cell? ⟨b, o + i * 4, none⟩ = some c0 ∧ w.cell? ⟨b, o + i * 4 + 1, none⟩ = some c1 ∧ w.cell? ⟨b, o + i * 4 + 2, none⟩ = some c2 ∧ w.cell? ⟨b, o + i * 4 + 3, none⟩ = some c3 ∧
      IsV S w l[i] [c0, c1, c2, c3] := by
  obtain ⟨c0, c1, c2, c3, e0, e1, e2, e3, hv⟩ := hs.get hi
  have hn : cs ≠ [] := by rintro rfl; simp at e0
  obtain ⟨b, o, ha, hS, hc⟩ := h hn
  exact ⟨b, o, c0, c1, c2, c3, ha, hS, hc _ _ e0, hc _ _ e1, hc _ _ e2, hc _ _ e3, hv⟩
/-- the same, each cell in its form -/
theorem At.getF {S : Nat → Prop} {w : World} {a : Option Addr} {l : List V} {cs : List Value} (h : At S w a cs) (hs : IsVs S w l cs) {i : Nat} (hi : i < l.length) :
    ∃ b o la lc ka kc, a = some ⟨b, o, none⟩ ∧ S b ∧ w.cell? ⟨b, o + i * 4, none⟩ = some (.int .u8 l[i].kind) ∧ w.cell? ⟨b, o + i * 4 + 1, none⟩ = some (.string l[i].text) ∧
      w.cell? ⟨b, o + i * 4 + 2, none⟩ = some (.slice la l[i].list.length lc) ∧ w.cell? ⟨b, o + i * 4 + 3, none⟩ = some (.slice ka l[i].keys.length kc) ∧
      IsV S w l[i] [.int .u8 l[i].kind, .string l[i].text, .slice la l[i].list.length lc, .slice ka l[i].keys.length kc] := by
  obtain ⟨b, o, c0, c1, c2, c3, ha, hS, g0, g1, g2, g3, hv⟩ := h.getV hs hi
  generalize l[i] = v at *
  obtain ⟨k, t, l', ks⟩ := v
  obtain ⟨la, lc, ka, kc, hc, hr⟩ := hv
  injection hc with e0 hc
  injection hc with e1 hc
  injection hc with e2 hc
  injection hc with e3 _
  subst e0 e1 e2 e3
  exact ⟨b, o, la, lc, ka, kc, ha, hS, g0, g1, g2, g3, ⟨la, lc, ka, kc, rfl, hr⟩⟩
theorem At.getS {S : Nat → Prop} {w : World} {a : Option Addr} {ks : List ByteArray} (h : At S w a (strCells ks)) {i : Nat} (hi : i < ks.length) :
    ∃ b o, a = some ⟨b, o, none⟩ ∧ S b ∧ w.cell? ⟨b, o + i, none⟩ = some (.string ks[i]) := by
  have e : (strCells ks)[i]? = some (.string ks[i]) := by simp [strCells, hi]
  have hn : strCells ks ≠ [] := by rintro h0; rw [h0] at e; simp at e
  obtain ⟨b, o, ha, hS, hc⟩ := h hn
  exact ⟨b, o, ha, hS, hc _ _ e⟩

/-- a struct's value -/
def IsVal (S : Nat → Prop) (w : World) (v : V) (x : Value) : Prop := ∃ cs, x = .agg cs.toArray ∧ IsV S w v cs

end Go.Proofs.Ytfajbkofbjcbbaa
