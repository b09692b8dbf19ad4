/- Walks: posts.each, posts.Of. -/
import Derived.RangeFuncNested
import Derived.RangeFuncCalls
import Derived.Deep.RegionHeld3
import Derived.LoopNIn
import Derived.Test.YtfajbkofbjcbbaaWZ
namespace Go.Proofs.Ytfajbkofbjcbbaa
open Go.RowKit Go.Sort Go.Shelf
attribute [local go_sem] Oper.semAt_some

set_option maxHeartbeats 1000000 in
/-- each: the entry is boxed -/
theorem each_any (c0 c1 c2 c3 c4 c5 : Value) (w : World) (_h : #[c0, c1, c2, c3, c4, c5].size = 6) :
    Calls Try.prog 43 #[.agg #[c0, c1, c2, c3, c4, c5]] w fun e w' => e = .returned (.func (.func 64) #[] #[.pointer (some ⟨w.heap.size, 0, none⟩)]) ∧ w' = w.alloc (.cells #[c0, c1, c2, c3, c4, c5] 75) := by
  go_enter Try.func43, Try.ntmps43
  go_wp2
  go_ret
  exact ⟨rfl, rfl⟩

set_option maxRecDepth 100000 in
set_option maxHeartbeats 2000000 in
theorem each_stops (n n₀ Be d : Nat) (en : En) (w : World) (hBe : Lies w Be 75 en.cells.toArray) (hok : en.val.ok d = true) (hwt : en.val.wt ≤ 16777216) (hv : IsV (· < n₀) w en.val en.vcells) (hn₀ : n₀ ≤ w.heap.size) :
    SeqStopsK Fence.wide n Try.prog 64 #[.pointer (some ⟨Be, 0, none⟩)] encA (KE n₀) (fun ys => ys.map projA = postE en.con) (fun _ => True) (postE en.con).length w := by
  intro l J Jx W hW hJ hJx hY h0
  have hro : Fence.wide.round = none := rfl
  have hdd : ∀ k : Nat, (Fence.wide.depth.isSome = true → 1 ≤ k) := fun k h => by cases h
  have hg := gone_in l n₀ W.heap.size (postE en.con).length J Jx hJ (fun m pre x W1 hj hl => YieldAt.anyDepth rfl m (hY pre x W1 hj hl)) en.val (n - 1) en [] W d rfl hok hwt (hv.keep (Keeps.of_ext hW)) (Nat.le_trans hn₀ hW.size) h0 (by simp)
  have hL := hBe.ext hW
  have c0 : W.cell? ⟨Be, 0, none⟩ = some (.string en.key) := hL.cell 0
  have c1 : W.cell? ⟨Be, 1, none⟩ = some (.bool en.keyed) := hL.cell 1
  have c2 : W.cell? ⟨Be, 2, none⟩ = some (.int .u8 en.val.kind) := hL.cell 2
  have c3 : W.cell? ⟨Be, 3, none⟩ = some (.string en.val.text) := hL.cell 3
  have c4 : W.cell? ⟨Be, 4, none⟩ = some (.slice en.la en.val.list.length en.lc) := hL.cell 4
  have c5 : W.cell? ⟨Be, 5, none⟩ = some (.slice en.ka en.val.keys.length en.kc) := hL.cell 5
  have HG := Lib.hid hg
  clear hg hL hY hJ hJx h0 hv hok hwt hBe
  show CallsIn Fence.wide n Try.prog 64 #[.func (.yield l) #[] #[], .pointer (some ⟨Be, 0, none⟩)] W _
  refine callsIn_of_wp Try.func64 rfl trivial ?_ hro
  simp only [Try.ntmps64, List.size_toArray, List.length_cons, List.length_nil, Nat.reduceAdd, Nat.reduceSub, Array.replicate_succ, Array.replicate_zero, List.push_toArray, List.append_toArray, List.nil_append, List.cons_append]
  gi_wp2_with (refine ⟨trivial, hdd _, ?_⟩; gi_at_call 65; refine HG.out.mono ?_; rintro e W1 (⟨ys, rfl, h1, h2, h3⟩ | ⟨q, m, hm, rfl, hx⟩))
  · go_end0
    exact ⟨⟨_, rfl⟩, .inl ⟨ys, h1, by simpa using h2⟩⟩
  · go_end0
    exact ⟨⟨_, rfl⟩, .inr ⟨q, trivial, by simpa using hx⟩⟩

theorem wpListIn_app {F : Fence} {nf : Nat} {P : Program} (w : World) {ops : Array Oper} {rest : List Oper} {o : Oper} {a : Act} {Q : Exit → Act → World → Prop} (hgd : o.guard = none) {t e : TypeId} {z : Value} {size bytes : Nat} (E : Elem P t e z size bytes) (s x : Operand)
    (ho : o.op = .call { callee := .builtin .append, args := #[s, x], argTypes := #[t, t] }) (B : Nat)
    (v : Value) (n : Nat) (xs : List Value) (hs : a.eval s = v) (hown : w.ownsRow B e size v n xs) (S : Nat → Prop) (A : Option Addr) (m c : Nat) (news : List Value) (hx : a.eval x = .slice A m c) (hl : news.length = m * size) (hr : At S w A news)
    (h1 : ∀ u ∈ news, u.oneCell' = true) (hlen : n + m ≤ 67108864) (hbase : B ≤ w.heap.size)
    (h : ∀ v' w', w'.ownsRow B e size v' (n + m) (xs ++ news) → w.grownBy w' v.ownBlock → (v'.ownBlock = v.ownBlock ∨ v'.ownBlock = some w.heap.size) → wpListIn F nf P ops Q rest (a.put o.dst v') w') : wpListIn F nf P ops Q (o :: rest) a w := by
  refine wpListIn_plain hgd fun K hK' => ?_
  obtain ⟨v', w', hrun, h2, h3, h4⟩ := run_app (P := P) w E o.type B v n xs hown S A m c news hl hr h1 hlen hbase
  unfold Oper.wpIn
  refine ⟨?_, ?_⟩
  · simp [Oper.about, ho, resolve, Target.leads, Sem.run_pure]
  · rw [Oper.semAt_plain F _ _ (by rw [ho]; intro c hc'; cases hc')]
    simp [execOp, ho, resolve, invoke, builtin, hs, hx, hrun, Result.andThen]
    exact hK' _ _ (h v' w' h2 h3 h4)

theorem setCell_grown (W : World) (p : Addr) (v : Value) : W.grownBy (W.setCell p v) (some p.block) :=
  ⟨rfl, rfl, rfl, by simp, fun k _ hk => Below.heap_setCell W p v k (fun e => hk (by rw [e]))⟩
/-- entries, what lay below, and what is no cells, stay -/
def GE (n₀ : Nat) (W W' : World) : Prop := KE n₀ W W' ∧ KeepsOthers W W'
theorem GE.refl (n₀ : Nat) (W : World) : GE n₀ W W := ⟨KE.refl _ _, KeepsOthers.refl _⟩
theorem GE.trans {n₀ : Nat} {A B C : World} (h : GE n₀ A B) (k : GE n₀ B C) : GE n₀ A C := ⟨h.1.trans k.1, h.2.trans k.2⟩
theorem GE.grown {n₀ : Nat} {W W' : World} {row : Option Nat} (h : W.grownBy W' row) (hn : n₀ ≤ W.heap.size) (hr : ∀ k, row = some k → n₀ ≤ k ∧ ∃ (cs : Array Value) (t : TypeId), t ≠ 75 ∧ W.heap[k]? = some (.cells cs t (0, 0))) : GE n₀ W W' := by
  refine ⟨⟨(Below.refl n₀ W).grown h hn (fun k e => (hr k e).1), fun b cs hb => ?_⟩, ⟨h.size, fun b o hb ho => ?_⟩⟩
  · refine (h.block b (Array.getElem?_eq_some_iff.1 hb).1 (fun e => ?_)).trans hb
    obtain ⟨_, cs', t, ht, hc⟩ := hr b e.symm
    rw [hb] at hc
    injection hc with hc
    injection hc with _ h2
    exact ht h2.symm
  · refine (h.block b (Array.getElem?_eq_some_iff.1 hb).1 (fun e => ?_)).trans hb
    obtain ⟨_, cs', t, ht, hc⟩ := hr b e.symm
    rw [hb] at hc
    injection hc with hc
    subst hc
    cases ho
theorem GE.alloc {n₀ : Nat} (W : World) (hn : n₀ ≤ W.heap.size) (o : Obj) : GE n₀ W (W.alloc o) := GE.grown (World.grownBy_alloc W o none) hn (fun k e => by cases e)
theorem GE.set {n₀ : Nat} (W : World) (hn : n₀ ≤ W.heap.size) {b : Nat} (i : Nat) (v : Value) (hb : n₀ ≤ b) {t : TypeId} {cs : Array Value} (h : Lies W b t cs) (ht : t ≠ 75) : GE n₀ W (W.setCell ⟨b, i, none⟩ v) :=
  GE.grown (setCell_grown W ⟨b, i, none⟩ v) hn (fun k e => by injection e with e; subst e; exact ⟨hb, cs, t, ht, h⟩)
theorem own_row {w : World} {B : Nat} {e : TypeId} {size n : Nat} {v : Value} {xs : List Value} (h : w.ownsRow B e size v n xs) {k : Nat} (hk : v.ownBlock = some k) : B ≤ k ∧ ∃ cs : Array Value, w.heap[k]? = some (.cells cs e (0, 0)) := by
  rcases h.2 with ⟨rfl, _⟩ | ⟨g, cap, cur, rfl, hg, hh, _⟩
  · cases hk
  · obtain rfl : g = k := by simpa [Value.ownBlock] using hk
    exact ⟨hg, cur, hh⟩
theorem GE.app {n₀ : Nat} {W W' : World} {B : Nat} {e : TypeId} {size n : Nat} {v : Value} {xs : List Value} (ho : W.ownsRow B e size v n xs) (hg : W.grownBy W' v.ownBlock) (hn : n₀ ≤ W.heap.size) (hB : n₀ ≤ B) (he : e ≠ 75) : GE n₀ W W' :=
  GE.grown hg hn (fun k hk => by obtain ⟨h1, cs, h2⟩ := own_row ho hk; exact ⟨by omega, cs, e, he, h2⟩)

/-- what Of has gathered -/
def Gath (w : World) (pre : List Alp) (W : World) : Prop :=
  (∃ v1 v2, Lies W (w.heap.size + 1) 33 #[v1, v2, .slice none 0 0] ∧ W.ownsRow (w.heap.size + 2) 46 4 v1 pre.length (lblCells ((pre.map projA).map (·.1))) ∧
    W.ownsRow (w.heap.size + 2) 3 1 v2 pre.length (intCells (leftsOf 0 (pre.map projA)))) ∧ Below w.heap.size w W
theorem gath_own (w : World) (B : Nat) (hB : w.heap.size ≤ B) : OwnFrom B (Gath w) := by
  rintro pre W W' row ⟨⟨v1, v2, h1, h2, h3⟩, h4⟩ hg hr
  have hne : ∀ k (cs : Array Value) (t : TypeId), W.heap[k]? = some (.cells cs t (0, 0)) → some k ≠ row := by
    intro k cs t hk e
    obtain ⟨_, o, ho, hc⟩ := hr k e.symm
    rw [hk] at ho
    injection ho with ho
    subst ho
    cases hc
  refine ⟨⟨v1, v2, h1.grown hg (hne _ _ _ h1), h2.kept hg ?_, h3.kept hg ?_⟩, h4.grown hg h4.size (fun k e => by have := (hr k e).1; omega)⟩
  · cases hv : v1.ownBlock with
    | none => exact .inl rfl
    | some k => obtain ⟨_, cs, hc⟩ := own_row h2 hv; exact .inr (hne k cs _ hc)
  · cases hv : v2.ownBlock with
    | none => exact .inl rfl
    | some k => obtain ⟨_, cs, hc⟩ := own_row h3 hv; exact .inr (hne k cs _ hc)
end Go.Proofs.Ytfajbkofbjcbbaa
