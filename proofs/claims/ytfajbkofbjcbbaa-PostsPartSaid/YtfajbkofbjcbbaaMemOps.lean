/-
  Memory, more: rows of the call's own; append, make and cut in the form that the walk takes.
-/
import Derived.Maps.AppendAt
import Derived.Deep.AppendLies
import Derived.RegionTactic
import Derived.OwnWalk
import Derived.Test.YtfajbkofbjcbbaaMem
namespace Go.Proofs.Ytfajbkofbjcbbaa
open Go.RowKit

/-- a slice type's element: what the program's table says of it -/
structure Elem (P : Program) (t e : TypeId) (z : Value) (size bytes : Nat) : Prop where
  ht : P.underlying t = some (.slice e)
  info : ∃ i, P.info? e = some i ∧ i.zero = some z ∧ i.size = size ∧ i.bytes = bytes
  zs : z.cells.size = size
  pos : 0 < size
  small : bytes ≤ 128

/-- a row that may be written -/
def AtW (S : Nat → Prop) (w : World) (a : Option Addr) (cs : List Value) : Prop :=
  cs ≠ [] → ∃ b o, a = some ⟨b, o, none⟩ ∧ S b ∧ (∀ j u, cs[j]? = some u → w.cell? ⟨b, o + j, none⟩ = some u) ∧ ∀ j, w.frozen? ⟨b, j, none⟩ = false
theorem AtW.at_ {S : Nat → Prop} {w : World} {a : Option Addr} {cs : List Value} (h : AtW S w a cs) : At S w a cs := fun hn =>
  let ⟨b, o, ha, hS, hc, _⟩ := h hn
  ⟨b, o, ha, hS, hc⟩
theorem AtW.keep {S : Nat → Prop} {w w' : World} {a : Option Addr} {cs : List Value} (h : AtW S w a cs) (hk : Keeps S w w') : AtW S w' a cs := fun hn =>
  let ⟨b, o, ha, hS, hc, hf⟩ := h hn
  have hb : b < w.heap.size := by
    cases cs with
    | nil => exact absurd rfl hn
    | cons x r => exact World.block_lt_of_cell? w ⟨b, o + 0, none⟩ (hc 0 x rfl)
  ⟨b, o, ha, hS, fun j u hu => hk.cell (p := ⟨b, o + j, none⟩) hS (hc j u hu), fun j => (World.frozen?_of_block (w := w) (a := ⟨b, j, none⟩) (hk b hS hb)).trans (hf j)⟩
theorem AtW.mono {S T : Nat → Prop} {w : World} {a : Option Addr} {cs : List Value} (h : AtW S w a cs) (hST : ∀ b, b < w.heap.size → S b → T b) : AtW T w a cs := fun hn =>
  let ⟨b, o, ha, hS, hc, hf⟩ := h hn
  have hb : b < w.heap.size := by
    cases cs with
    | nil => exact absurd rfl hn
    | cons x r => exact World.block_lt_of_cell? w ⟨b, o + 0, none⟩ (hc 0 x rfl)
  ⟨b, o, ha, hST b hb hS, hc, hf⟩
theorem AtW.nil (S : Nat → Prop) (w : World) (a : Option Addr) : AtW S w a [] := fun h => absurd rfl h

/-- a row of the call's own: its cells may be written; it lies in its own block -/
theorem own_atW {w : World} {B : Nat} {e : TypeId} {size n c : Nat} {a : Option Addr} {xs : List Value} (h : w.ownsRow B e size (.slice a n c) n xs) :
    AtW (fun b => B ≤ b ∧ (Value.slice a n c).ownBlock = some b) w a xs := by
  intro hn
  obtain ⟨hl, h2⟩ := h
  rcases h2 with ⟨h2, h3⟩ | ⟨g, cap, cur, hv, hg, hh, hnc, hcm, hcs, htake⟩
  · subst h3; simp at hl; exact absurd hl hn
  · injection hv with hv1 hv2 hv3
    subst hv1 hv3
    refine ⟨g, 0, rfl, ⟨hg, rfl⟩, fun j u hu => ?_, fun j => by simp [World.frozen?, hh]⟩
    rw [← htake, List.getElem?_take] at hu
    simp only [World.cell?, hh, Nat.zero_add]
    split at hu
    · simpa using hu
    · cases hu
/-- the room behind: how many elements it may take -/
theorem own_length {w : World} {B : Nat} {e : TypeId} {size n : Nat} {v : Value} {xs : List Value} (h : w.ownsRow B e size v n xs) : xs.length = n * size := h.1

section
variable {P : Program} (w : World)

theorem run_append_of_nil (base : Nat) (t ty e : TypeId) (i : TypeInfo) (size : Nat) (ht : P.underlying t = some (.slice e)) (hi : P.info? e = some i)
    (v : Value) (n : Nat) (xs : List Value) (hown : w.ownsRow base e size v n xs) (c : Nat) : (Builtin.append_ #[t, t] ty #[v, .slice none 0 c]).run P w = .ok v w := by
  rcases hown.2 with ⟨rfl, rfl⟩ | ⟨g, cap, cur, rfl, _, _, hnc, _⟩
  · simp [Builtin.append_, run_underlying ht, sizeOf, typeInfo, hi, Builtin.lenOf, Builtin.firstCells]
  · simp [Builtin.append_, run_underlying ht, sizeOf, typeInfo, hi, Builtin.lenOf, Builtin.firstCells, hnc, storeCells]

/-- append onto a row of the call's own -/
theorem run_app {t e : TypeId} {z : Value} {size bytes : Nat} (E : Elem P t e z size bytes) (ty : TypeId) (B : Nat)
    (v : Value) (n : Nat) (xs : List Value) (hown : w.ownsRow B e size v n xs) (S : Nat → Prop) (A : Option Addr) (m c : Nat) (news : List Value) (hl : news.length = m * size) (hr : At S w A news)
    (h1 : ∀ u ∈ news, u.oneCell' = true) (hlen : n + m ≤ 67108864) (hbase : B ≤ w.heap.size) :
    ∃ v' w', (Builtin.append_ #[t, t] ty #[v, .slice A m c]).run P w = .ok v' w' ∧ w'.ownsRow B e size v' (n + m) (xs ++ news) ∧ w.grownBy w' v.ownBlock ∧
      (v'.ownBlock = v.ownBlock ∨ v'.ownBlock = some w.heap.size) := by
  obtain ⟨ht, ⟨i, hi, hz, hsize, hby⟩, hzs, hsz, hsm⟩ := E
  have hb2 : (n + m) * bytes ≤ 140737488355328 := Nat.le_trans (Nat.mul_le_mul hlen hsm) (by omega)
  have h63 : n + m ≤ maxLen := by unfold maxLen; omega
  by_cases hm : m = 0
  · subst hm
    have hn : news = [] := List.eq_nil_of_length_eq_zero (by simpa using hl)
    subst hn
    rcases A with _ | ad
    · exact ⟨v, w, run_append_of_nil w B t ty e i size ht hi v n xs hown c, by simpa using hown, World.grownBy.refl w _, .inl rfl⟩
    · obtain ⟨v', w', hrun, h2, h3, _, h5⟩ := run_append_own_at (P := P) w B t ty e i z size bytes ht hi hz hsize hby hzs hsz v n xs hown ad 0 c [] hl (by simp) h1 h63 hb2 hbase
      exact ⟨v', w', hrun, h2, h3, h5⟩
  · have hn : news ≠ [] := by
      rintro rfl
      have h0 : m * size = 0 := by simpa using hl.symm
      rcases Nat.mul_eq_zero.1 h0 with h | h <;> omega
    obtain ⟨b, o, rfl, _, hc⟩ := hr hn
    obtain ⟨v', w', hrun, h2, h3, _, h5⟩ := run_append_own_at (P := P) w B t ty e i z size bytes ht hi hz hsize hby hzs hsz v n xs hown ⟨b, o, none⟩ m c news hl
      (fun j u hu => by rw [Addr.add_lit]; exact hc j u hu) h1 h63 hb2 hbase
    exact ⟨v', w', hrun, h2, h3, h5⟩

theorem wp_app {o : Oper} {a : Act} {K : Act → World → Prop} {Q : Exit → Act → World → Prop} {t e : TypeId} {z : Value} {size bytes : Nat} (E : Elem P t e z size bytes) (s x : Operand)
    (ho : o.op = .call { callee := .builtin .append, args := #[s, x], argTypes := #[t, t] }) (B : Nat)
    (v : Value) (n : Nat) (xs : List Value) (hs : a.eval s = v) (hown : w.ownsRow B e size v n xs) (S : Nat → Prop) (A : Option Addr) (m c : Nat) (news : List Value) (hx : a.eval x = .slice A m c) (hl : news.length = m * size) (hr : At S w A news)
    (h1 : ∀ u ∈ news, u.oneCell' = true) (hlen : n + m ≤ 67108864) (hbase : B ≤ w.heap.size)
    (h : ∀ v' w', w'.ownsRow B e size v' (n + m) (xs ++ news) → w.grownBy w' v.ownBlock → (v'.ownBlock = v.ownBlock ∨ v'.ownBlock = some w.heap.size) → K (a.put o.dst v') w') : o.wp P a w K Q := by
  obtain ⟨v', w', hrun, h2, h3, h4⟩ := run_app (P := P) w E o.type B v n xs hown S A m c news hl hr h1 hlen hbase
  unfold Oper.wp execOp
  simp only [ho, resolve, invoke, builtin, Sem.run_bind, Sem.run_pure, Result.andThen_ok, List.map_toArray, List.map_cons, List.map_nil, hs, hx, hrun]
  exact h v' w' h2 h3 h4

theorem wpList_app {ops : Array Oper} {rest : List Oper} {o : Oper} {a : Act} {Q : Exit → Act → World → Prop} (hgd : o.guard = none) {t e : TypeId} {z : Value} {size bytes : Nat} (E : Elem P t e z size bytes) (s x : Operand)
    (ho : o.op = .call { callee := .builtin .append, args := #[s, x], argTypes := #[t, t] }) (B : Nat)
    (v : Value) (n : Nat) (xs : List Value) (hs : a.eval s = v) (hown : w.ownsRow B e size v n xs) (S : Nat → Prop) (A : Option Addr) (m c : Nat) (news : List Value) (hx : a.eval x = .slice A m c) (hl : news.length = m * size) (hr : At S w A news)
    (h1 : ∀ u ∈ news, u.oneCell' = true) (hlen : n + m ≤ 67108864) (hbase : B ≤ w.heap.size)
    (h : ∀ v' w', w'.ownsRow B e size v' (n + m) (xs ++ news) → w.grownBy w' v.ownBlock → (v'.ownBlock = v.ownBlock ∨ v'.ownBlock = some w.heap.size) → wpList P ops Q rest (a.put o.dst v') w') : wpList P ops Q (o :: rest) a w :=
  wpList_plain hgd fun _ hK => wp_app w E s x ho B v n xs hs hown S A m c news hx hl hr h1 hlen hbase fun v' w' h2 h3 h4 => hK _ _ (h v' w' h2 h3 h4)

/-- append within the room: it stays where it is -/
theorem run_fit {t e : TypeId} {z : Value} {size bytes : Nat} (E : Elem P t e z size bytes) (ty : TypeId) (B : Nat)
    (g n cap : Nat) (xs : List Value) (hown : w.ownsRow B e size (.slice (some ⟨g, 0, none⟩) n cap) n xs) (S : Nat → Prop) (A : Option Addr) (m c : Nat) (news : List Value) (hl : news.length = m * size) (hr : At S w A news)
    (h1 : ∀ u ∈ news, u.oneCell' = true) (hroom : n + m ≤ cap) :
    ∃ w', (Builtin.append_ #[t, t] ty #[.slice (some ⟨g, 0, none⟩) n cap, .slice A m c]).run P w = .ok (.slice (some ⟨g, 0, none⟩) (n + m) cap) w' ∧ w'.ownsRow B e size (.slice (some ⟨g, 0, none⟩) (n + m) cap) (n + m) (xs ++ news) ∧ w.grownBy w' (some g) := by
  obtain ⟨ht, ⟨i, hi, hz, hsize, hby⟩, hzs, hsz, hsm⟩ := E
  by_cases hm : m = 0
  · subst hm
    have hn : news = [] := List.eq_nil_of_length_eq_zero (by simpa using hl)
    subst hn
    rcases A with _ | ad
    · exact ⟨w, run_append_of_nil w B t ty e i size ht hi _ n xs hown c, by simpa using hown, World.grownBy.refl w _⟩
    · exact run_append_fits (P := P) w B t ty e i size ht hi hsize g n cap xs hown ad 0 c [] hl (by simp) h1 hroom
  · have hn : news ≠ [] := by
      rintro rfl
      have h0 : m * size = 0 := by simpa using hl.symm
      rcases Nat.mul_eq_zero.1 h0 with h | h <;> omega
    obtain ⟨b, o, rfl, _, hc⟩ := hr hn
    exact run_append_fits (P := P) w B t ty e i size ht hi hsize g n cap xs hown ⟨b, o, none⟩ m c news hl (fun j u hu => by rw [Addr.add_lit]; exact hc j u hu) h1 hroom

theorem wp_fit {o : Oper} {a : Act} {K : Act → World → Prop} {Q : Exit → Act → World → Prop} {t e : TypeId} {z : Value} {size bytes : Nat} (E : Elem P t e z size bytes) (s x : Operand)
    (ho : o.op = .call { callee := .builtin .append, args := #[s, x], argTypes := #[t, t] }) (B : Nat)
    (g n cap : Nat) (xs : List Value) (hs : a.eval s = .slice (some ⟨g, 0, none⟩) n cap) (hown : w.ownsRow B e size (.slice (some ⟨g, 0, none⟩) n cap) n xs) (S : Nat → Prop) (A : Option Addr) (m c : Nat) (news : List Value) (hx : a.eval x = .slice A m c) (hl : news.length = m * size) (hr : At S w A news)
    (h1 : ∀ u ∈ news, u.oneCell' = true) (hroom : n + m ≤ cap)
    (h : ∀ w', w'.ownsRow B e size (.slice (some ⟨g, 0, none⟩) (n + m) cap) (n + m) (xs ++ news) → w.grownBy w' (some g) → K (a.put o.dst (.slice (some ⟨g, 0, none⟩) (n + m) cap)) w') : o.wp P a w K Q := by
  obtain ⟨w', hrun, h2, h3⟩ := run_fit (P := P) w E o.type B g n cap xs hown S A m c news hl hr h1 hroom
  unfold Oper.wp execOp
  simp only [ho, resolve, invoke, builtin, Sem.run_bind, Sem.run_pure, Result.andThen_ok, List.map_toArray, List.map_cons, List.map_nil, hs, hx, hrun]
  exact h w' h2 h3
theorem wpList_fit {ops : Array Oper} {rest : List Oper} {o : Oper} {a : Act} {Q : Exit → Act → World → Prop} (hgd : o.guard = none) {t e : TypeId} {z : Value} {size bytes : Nat} (E : Elem P t e z size bytes) (s x : Operand)
    (ho : o.op = .call { callee := .builtin .append, args := #[s, x], argTypes := #[t, t] }) (B : Nat)
    (g n cap : Nat) (xs : List Value) (hs : a.eval s = .slice (some ⟨g, 0, none⟩) n cap) (hown : w.ownsRow B e size (.slice (some ⟨g, 0, none⟩) n cap) n xs) (S : Nat → Prop) (A : Option Addr) (m c : Nat) (news : List Value) (hx : a.eval x = .slice A m c) (hl : news.length = m * size) (hr : At S w A news)
    (h1 : ∀ u ∈ news, u.oneCell' = true) (hroom : n + m ≤ cap)
    (h : ∀ w', w'.ownsRow B e size (.slice (some ⟨g, 0, none⟩) (n + m) cap) (n + m) (xs ++ news) → w.grownBy w' (some g) → wpList P ops Q rest (a.put o.dst (.slice (some ⟨g, 0, none⟩) (n + m) cap)) w') : wpList P ops Q (o :: rest) a w :=
  wpList_plain hgd fun _ hK => wp_fit w E s x ho B g n cap xs hs hown S A m c news hx hl hr h1 hroom fun w' h2 h3 => hK _ _ (h w' h2 h3)

/-- the same two in a region that draws its order -/
theorem step_app {ops : Array Oper} {o : Oper} {a : Act} {K : Act → World → Prop} {Q : Exit → Act → World → Prop} {R : Prop} (hgd : o.guard = none) {t e : TypeId} {z : Value} {size bytes : Nat} (E : Elem P t e z size bytes) (s x : Operand)
    (ho : o.op = .call { callee := .builtin .append, args := #[s, x], argTypes := #[t, t] }) (B : Nat)
    (v : Value) (n : Nat) (xs : List Value) (hs : a.eval s = v) (hown : w.ownsRow B e size v n xs) (S : Nat → Prop) (A : Option Addr) (m c : Nat) (news : List Value) (hx : a.eval x = .slice A m c) (hl : news.length = m * size) (hr : At S w A news)
    (h1 : ∀ u ∈ news, u.oneCell' = true) (hlen : n + m ≤ 67108864) (hbase : B ≤ w.heap.size)
    (h : ∀ v' w', w'.ownsRow B e size v' (n + m) (xs ++ news) → w.grownBy w' v.ownBlock → (v'.ownBlock = v.ownBlock ∨ v'.ownBlock = some w.heap.size) → K (a.put o.dst v') w') :
    if Region.wanted o (yielded ops a.tmps) = true then Oper.wp P o a w K Q else R := by
  have hw : Region.wanted o (yielded ops a.tmps) = true := by simp [Region.wanted, hgd]
  rw [if_pos hw]
  exact wp_app w E s x ho B v n xs hs hown S A m c news hx hl hr h1 hlen hbase h
theorem step_fit {ops : Array Oper} {o : Oper} {a : Act} {K : Act → World → Prop} {Q : Exit → Act → World → Prop} {R : Prop} (hgd : o.guard = none) {t e : TypeId} {z : Value} {size bytes : Nat} (E : Elem P t e z size bytes) (s x : Operand)
    (ho : o.op = .call { callee := .builtin .append, args := #[s, x], argTypes := #[t, t] }) (B : Nat)
    (g n cap : Nat) (xs : List Value) (hs : a.eval s = .slice (some ⟨g, 0, none⟩) n cap) (hown : w.ownsRow B e size (.slice (some ⟨g, 0, none⟩) n cap) n xs) (S : Nat → Prop) (A : Option Addr) (m c : Nat) (news : List Value) (hx : a.eval x = .slice A m c) (hl : news.length = m * size) (hr : At S w A news)
    (h1 : ∀ u ∈ news, u.oneCell' = true) (hroom : n + m ≤ cap)
    (h : ∀ w', w'.ownsRow B e size (.slice (some ⟨g, 0, none⟩) (n + m) cap) (n + m) (xs ++ news) → w.grownBy w' (some g) → K (a.put o.dst (.slice (some ⟨g, 0, none⟩) (n + m) cap)) w') :
    if Region.wanted o (yielded ops a.tmps) = true then Oper.wp P o a w K Q else R := by
  have hw : Region.wanted o (yielded ops a.tmps) = true := by simp [Region.wanted, hgd]
  rw [if_pos hw]
  exact wp_fit w E s x ho B g n cap xs hs hown S A m c news hx hl hr h1 hroom h

/-- make: 'make([]T, l, c)' with l ≤ c -/
theorem run_mk {t e : TypeId} {z : Value} {size bytes : Nat} (E : Elem P t e z size bytes) (kl kc : IntKind) (n c : Nat) (hnc : n ≤ c) (hc : c ≤ 67108864) :
    (Instr.makeSlice t (.int kl (n : Int)) (.int kc (c : Int))).run P w = .ok (.slice (some ⟨w.heap.size, 0, none⟩) n c) (w.alloc (.cells (madeCells z.cells (c * size)) e)) := by
  obtain ⟨ht, ⟨i, hi, hz, hsize, hby⟩, hzs, hsz, hsm⟩ := E
  have hb2 : i.bytes * c ≤ 281474976710656 := by rw [hby]; exact Nat.le_trans (Nat.mul_le_mul hsm hc) (by omega)
  have hb : (i.bytes : Int) * (c : Int) ≤ 281474976710656 := by
    have h : ((i.bytes * c : Nat) : Int) ≤ 281474976710656 := by omega
    rwa [Int.natCast_mul] at h
  have hr := run_make (P := P) w t e i z ht hi hz kl kc n c (by omega) (by omega) hb (by omega)
  simp only [Int.toNat_natCast, hsize] at hr
  exact hr
end

theorem own_made {w : World} {e : TypeId} (z : Value) (size c : Nat) {B : Nat} (hB : B ≤ w.heap.size) (hc : c ≤ 67108864) :
    (w.alloc (.cells (madeCells z.cells (c * size)) e)).ownsRow B e size (.slice (some ⟨w.heap.size, 0, none⟩) 0 c) 0 [] :=
  World.ownsRow_made w _ c hB (by unfold maxLen; omega) (by rw [size_madeCells])

/-- a new row -/
theorem At.new {S : Nat → Prop} (w : World) (cs : List Value) (t : TypeId) (hS : S w.heap.size) : At S (w.alloc (.cells cs.toArray t)) (some ⟨w.heap.size, 0, none⟩) cs := fun _ =>
  ⟨_, 0, rfl, hS, fun j u hu => by rw [Nat.zero_add, World.cell?_alloc_new]; simpa using hu⟩

/-- a part of a row -/
theorem At.take {S : Nat → Prop} {w : World} {a : Option Addr} {cs : List Value} (h : At S w a cs) (n : Nat) : At S w a (cs.take n) := fun hn =>
  let ⟨b, o, ha, hS, hc⟩ := h (by rintro rfl; simp at hn)
  ⟨b, o, ha, hS, fun j u hu => hc j u (by rw [List.getElem?_take] at hu; split at hu; exact hu; cases hu)⟩
theorem AtW.take {S : Nat → Prop} {w : World} {a : Option Addr} {cs : List Value} (h : AtW S w a cs) (n : Nat) : AtW S w a (cs.take n) := fun hn =>
  let ⟨b, o, ha, hS, hc, hf⟩ := h (by rintro rfl; simp at hn)
  ⟨b, o, ha, hS, fun j u hu => hc j u (by rw [List.getElem?_take] at hu; split at hu; exact hu; cases hu), hf⟩
/-- a part of a row, from its n-th cell on -/
theorem At.drop {S : Nat → Prop} {w : World} {a : Option Addr} {cs : List Value} (h : At S w a cs) (n : Nat) : At S w (a.map (·.add n)) (cs.drop n) := fun hn =>
  let ⟨b, o, ha, hS, hc⟩ := h (by rintro rfl; simp at hn)
  ⟨b, o + n, by rw [ha]; simp [Addr.add_lit], hS, fun j u hu => by rw [List.getElem?_drop] at hu; have := hc _ u hu; rwa [← Nat.add_assoc] at this⟩

/-- whole numbers as cells -/
def intCells (xs : List Int) : List Value := xs.map (Value.int .i64)
theorem intCells_length (xs : List Int) : (intCells xs).length = xs.length := by simp [intCells]
theorem strCells_length (xs : List ByteArray) : (strCells xs).length = xs.length := by simp [strCells]
theorem intCells_append (xs ys : List Int) : intCells (xs ++ ys) = intCells xs ++ intCells ys := by simp [intCells]
theorem strCells_append (xs ys : List ByteArray) : strCells (xs ++ ys) = strCells xs ++ strCells ys := by simp [strCells]
theorem intCells_one (xs : List Int) : ∀ u ∈ intCells xs, u.oneCell' = true := by
  intro u hu
  obtain ⟨_, _, rfl⟩ := List.mem_map.1 hu
  rfl
theorem strCells_one (xs : List ByteArray) : ∀ u ∈ strCells xs, u.oneCell' = true := by
  intro u hu
  obtain ⟨_, _, rfl⟩ := List.mem_map.1 hu
  rfl
theorem IsV.one {S : Nat → Prop} {w : World} {v : V} {cs : List Value} (h : IsV S w v cs) : ∀ u ∈ cs, u.oneCell' = true := by
  cases v; obtain ⟨la, lc, ka, kc, rfl, _⟩ := h
  intro u hu
  simp only [List.mem_cons, List.not_mem_nil, or_false] at hu
  rcases hu with rfl | rfl | rfl | rfl <;> rfl
theorem IsVs.one_ {S : Nat → Prop} {w : World} {l : List V} {cs : List Value} (h : IsVs S w l cs) : ∀ u ∈ cs, u.oneCell' = true := by
  induction l generalizing cs with
  | nil => obtain rfl := h; simp
  | cons v r ih =>
    obtain ⟨c, d, rfl, h1, h2⟩ := h
    intro u hu
    rcases List.mem_append.1 hu with hu | hu
    · exact h1.one u hu
    · exact ih h2 u hu
theorem At.getI {S : Nat → Prop} {w : World} {a : Option Addr} {xs : List Int} (h : At S w a (intCells xs)) {i : Nat} (hi : i < xs.length) :
    ∃ b o, a = some ⟨b, o, none⟩ ∧ S b ∧ w.cell? ⟨b, o + i, none⟩ = some (.int .i64 xs[i]) := by
  have e : (intCells xs)[i]? = some (.int .i64 xs[i]) := by simp [intCells, hi]
  have hn : intCells xs ≠ [] := by rintro h0; rw [h0] at e; simp at e
  obtain ⟨b, o, ha, hS, hc⟩ := h hn
  exact ⟨b, o, ha, hS, hc _ _ e⟩

end Go.Proofs.Ytfajbkofbjcbbaa
