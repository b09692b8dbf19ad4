/- Walk: posts.gone. -/
import Derived.RangeFuncKeeps
import Derived.RangeFuncBound
import Derived.RangeFuncLeaves
import Derived.TacticsInMore
import Derived.OwnWalkIn
import Derived.LoopIn
import Derived.Test.YtfajbkofbjcbbaaWY
import Derived.Test.YtfajbkofbjcbbaaPlainJ
namespace Go.Proofs.Ytfajbkofbjcbbaa
open Go.RowKit Go.Sort Go.Shelf
attribute [local go_sem] Oper.semAt_some

theorem room_of_none {F : Fence} (hd : F.depth = none) (k : Nat) : F.room k := fun d h => by rw [hd] at h; cases h
theorem RoundIn.anyDepth {F : Fence} (hd : F.depth = none) {m m' : Nat} {P : Program} {l : Nat} {f : FuncId} {tmps : Array Value} {assign body : Code} {w : World} {R : Ending → World → Prop}
    (h : RoundIn F m P l f tmps assign body w R) : RoundIn F m' P l f tmps assign body w R := ⟨h.1, fun c cs _ => h.2 c cs (room_of_none hd _)⟩
theorem YieldAt.anyDepth {F : Fence} (hd : F.depth = none) {m : Nat} (m' : Nat) {P : Program} {l : Nat} {args : Array Value} {W : World} {R : Ending → World → Prop} (h : YieldAt F m P l args W R) : YieldAt F m' P l args W R := by
  obtain ⟨fn, tmps, assign, body, hy, hR⟩ := h
  exact ⟨fn, tmps, assign, body, hy, RoundIn.anyDepth hd hR⟩

/-- what comes: an entry, and how many are in it -/
abbrev Alp := { x : En × Nat // x.2 ≤ 16777216 }
abbrev encA (x : Alp) : Array Value := #[.agg #[.string x.1.1.key, .bool x.1.1.keyed, .int .u8 x.1.1.val.kind, .string x.1.1.val.text, .slice x.1.1.la x.1.1.val.list.length x.1.1.lc, .slice x.1.1.ka x.1.1.val.keys.length x.1.1.kc], .int .i64 x.1.2]
def projA (x : Alp) : Lbl × Nat := (lblOf x.1.1.con, x.1.2)

/-- what a round keeps: what lay below n₀, and entries -/
def KE (n₀ : Nat) (W W' : World) : Prop := Below n₀ W W' ∧ ∀ (b : Nat) (cs : Array Value), W.heap[b]? = some (.cells cs 75 (0, 0)) → W'.heap[b]? = some (.cells cs 75 (0, 0))
theorem KE.refl (n₀ : Nat) (W : World) : KE n₀ W W := ⟨Below.refl _ _, fun _ _ h => h⟩
theorem KE.trans {n₀ : Nat} {A B C : World} (h : KE n₀ A B) (k : KE n₀ B C) : KE n₀ A C := ⟨h.1.trans k.1, fun b cs hb => k.2 b cs (h.2 b cs hb)⟩
theorem KE.of_ext {n₀ : Nat} {W W' : World} (hn : n₀ ≤ W.heap.size) (h : Below W.heap.size W W') : KE n₀ W W' :=
  ⟨h.mono hn, fun b _ hb => (h.block b (Array.getElem?_eq_some_iff.1 hb).1).trans hb⟩
theorem KE.putObj {n₀ : Nat} {w : World} (hn : n₀ ≤ w.heap.size) (W : World) (l : Nat) (o o' : Obj) (hl : w.heap.size ≤ l) (h : W.heap[l]? = some o) (ho : o.isCells = false) (hw : o.isWalk = false) : KE n₀ W (W.putObj l o') :=
  ⟨belowK_b hn W l o o' hl h ho hw, fun b cs hb => by
    have hne : l ≠ b := by rintro rfl; rw [hb] at h; injection h with h; subst h; cases ho
    exact (World.putObj_heap_other (by omega)).trans hb⟩
theorem Ents.ke {n₀ : Nat} {W W' : World} {g : Nat} {es : List En} (h : Ents W g es) (k : KE n₀ W W') : Ents W' g es := k.2 _ _ h
theorem Lies.ke {n₀ : Nat} {W W' : World} {g : Nat} {cs : Array Value} (h : Lies W g 75 cs) (k : KE n₀ W W') : Lies W' g 75 cs := k.2 _ _ h
theorem abides_ext {β : Type} {B : Nat} {J : β → World → Prop} (hJ : AbidesFrom B J) {s : β} {W W' : World} (h : J s W) (hb : Below W.heap.size W W') : J s W' :=
  hJ s W W' none h ⟨hb.os, hb.tape, hb.output, hb.size, fun k hk _ => hb.block k hk⟩ (fun r e => by cases e)

/-- what gone comes to -/
def GoneRes (n₀ : Nat) (J Jx : List Alp → World → Prop) (pre : List Alp) (en : En) (W : World) (e : Ending) (W' : World) : Prop :=
  (∃ ys : List Alp, e = .returned (.tuple #[.int .i64 ys.length, .bool true]) ∧ ys.map projA = postE en.con ∧ J (pre ++ ys) W' ∧ KE n₀ W W') ∨
  (∃ (q : List Alp) (m : Nat), m ≤ (postE en.con).length ∧ e = .returned (.tuple #[.int .i64 m, .bool false]) ∧ Jx (pre ++ q) W')

theorem entries_v (S : Nat → Prop) (v : V) (la ka : Option Addr) (lc kc : Nat) (w : World) (hv : IsV S w v [.int .u8 v.kind, .string v.text, .slice la v.list.length lc, .slice ka v.keys.length kc])
    (hlen : v.list.length ≤ 16777216) (hklen : v.keys.length ≤ 16777216) (h8 : v.kind = 8 → v.keys.length = v.list.length) :
    Calls Try.prog 84 #[.agg #[.int .u8 v.kind, .string v.text, .slice la v.list.length lc, .slice ka v.keys.length kc]] w fun e w' => EntRes S v w e w' := by
  obtain ⟨k, t, l, ks⟩ := v
  obtain ⟨la', lc', ka', kc', hc, hk, h1, h2, h3, h4, h5, cells, h6, h7⟩ := hv
  injection hc with e0 hc
  injection hc with e1 hc
  injection hc with e2 hc
  injection hc with e3 _
  injection e2 with e2a _ e2c
  injection e3 with e3a _ e3c
  subst e2a e2c e3a e3c
  exact entries_any S k t l ks la ka lc kc cells w h6 h7 h5 hlen hklen h8

set_option maxRecDepth 100000 in
set_option maxHeartbeats 2000000 in
theorem gone_in (l n₀ B N : Nat) (J Jx : List Alp → World → Prop) (hJ : AbidesFrom B J)
    (hY : ∀ m pre x W, J pre W → pre.length < N → YieldAt Fence.wide m Try.prog l (encA x) W fun e W' =>
      (e = .returned (.bool true) ∧ J (pre ++ [x]) W' ∧ KE n₀ W W') ∨ (e = .returned (.bool false) ∧ Jx (pre ++ [x]) W')) :
    ∀ (v : V) (n : Nat) (en : En) (pre : List Alp) (W : World) (d : Nat), en.val = v → v.ok d = true → v.wt ≤ 16777216 → IsV (· < n₀) W v en.vcells → n₀ ≤ W.heap.size → J pre W → pre.length + (postE en.con).length ≤ N →
      CallsIn Fence.wide n Try.prog 65 #[.agg #[.string en.key, .bool en.keyed, .int .u8 en.val.kind, .string en.val.text, .slice en.la en.val.list.length en.lc, .slice en.ka en.val.keys.length en.kc], .func (.yield l) #[] #[]] W fun e W' => GoneRes n₀ J Jx pre en W e W' := by
  have hro : Fence.wide.round = none := rfl
  have hdd : ∀ k : Nat, (Fence.wide.depth.isSome = true → 1 ≤ k) := fun k h => by cases h
  intro v
  induction v using V.byWt with
  | h v ih =>
  intro n en pre W d hen hok hwt hv hn₀ hJ0 hN
  subst hen
  have hB0 : Below W.heap.size W (W.alloc (.cells en.cells.toArray 75)) := (Below.refl _ _).alloc (Nat.le_refl _) _
  have hv1 := hv.keep (Keeps.of_ext hB0)
  have hwe := V.wt_eq en.val
  have hll := wts_length en.val.list
  have hc := entries_v (· < n₀) en.val en.la en.ka en.lc en.kc _ hv1 (by omega) (by omega) (ok_keys hok)
  have HC := Lib.hid hc
  have HV := Lib.hid hv
  have HOK := Lib.hid hok
  have HWT := Lib.hid hwt
  have HIH := Lib.hid ih
  have HJ := Lib.hid hJ
  have HY := Lib.hid hY
  have HJ0 := Lib.hid hJ0
  have HN := Lib.hid hN
  have HL0 : Hid (Lies (W.alloc (.cells en.cells.toArray 75)) W.heap.size 75 en.cells.toArray) := Lib.hid (Lies.new _ _ _)
  have HB0 := Lib.hid hB0
  clear hc hv hv1 hok hwt ih hJ hY hJ0 hN hwe hll hB0
  refine callsIn_of_wp Try.func65 rfl trivial ?_ hro
  simp only [Try.ntmps65, List.size_toArray, List.length_cons, List.length_nil, Nat.reduceAdd, Nat.reduceSub, Array.replicate_succ, Array.replicate_zero, List.push_toArray, List.append_toArray, List.nil_append, List.cons_append]
  gi_wp2_with (refine ⟨trivial, hdd _, ?_⟩; gi_at_call 84; refine (callsIn_wide.2 HC.out).mono ?_; rintro e W1 ⟨g, es, rfl, hel, hE, hes, hev, hg, hB1⟩)
  have hB1' := HB0.out.trans (hB1.mono (by simp))
  have hL1 := HL0.out.ext hB1
  have hK1 : KE n₀ W W1 := KE.of_ext hn₀ hB1'
  have hJ1 : J pre W1 := abides_ext HJ.out HJ0.out hB1'
  have hn1 : n₀ ≤ W1.heap.size := Nat.le_trans hn₀ hB1'.size
  have HES := Lib.hid hes
  have HEL := Lib.hid hel
  have HEV := Lib.hid hev
  have hlb : en.val.list.length ≤ 16777216 := by have := V.wt_eq en.val; have := wts_length en.val.list; have := HWT.out; omega
  have HB1 := Lib.hid hB1'
  have HE := Lib.hid hE
  have HL1 := Lib.hid hL1
  have HK1 := Lib.hid hK1
  have HJ1 := Lib.hid hJ1
  clear hes hel hev hB1 hB1' hE hL1 hK1 hJ1
  gi_loopw [4, 14] (fun s4 s14 wr => ∃ (i m : Nat) (ys : List Alp), i ≤ en.val.list.length ∧ s14 = .int .i64 i ∧ s4 = .int .i64 m ∧ m ≤ 16777216 ∧ Hid (m = ys.length ∧ ys.map projA = ((en.val.ents.take i).map postE).flatten) ∧ Hid (J (pre ++ ys) wr) ∧ Hid (KE n₀ W1 wr) ∧ W1.heap.size ≤ wr.heap.size)
    (fun _ s14 _ => en.val.list.length - (intOf s14).toNat)
  case atStart => exact ⟨0, 0, [], Nat.zero_le _, rfl, rfl, by omega, ⟨rfl, by simp⟩, (by show J (pre ++ []) W1; rw [List.append_nil]; exact HJ1.out), KE.refl _ _, Nat.le_refl _⟩
  case round =>
    obtain ⟨i, m, ys, hi, rfl, rfl, hm, HY1, HJw, HKw, hsz⟩ := hrel
    by_cases hlt : i < en.val.list.length
    · have hi2 : i < es.length := by rw [HEL.out]; exact hlt
      have hE2 := Ents.ke HE.out HKw.out
      obtain ⟨z0, z1, z2, z3, z4, z5⟩ := hE2.cells hi2
      have hent : i < en.val.ents.length := by rw [← HES.out]; simpa using hi2
      have hcon : es[i].con = en.val.ents[i] := by
        have h := congrArg (fun (l : List Ent0) => l[i]?) HES.out
        simp only [List.getElem?_map, List.getElem?_eq_getElem hi2, List.getElem?_eq_getElem hent, Option.map_some, Option.some.injEq] at h
        exact h
      have hmem : es[i].val ∈ en.val.list := V.ents_mem (e := es[i].con) (by rw [hcon]; exact List.getElem_mem hent)
      have hwt2 := V.mem_wt hmem
      have hok2 := ok_mem HOK.out hmem
      have hv2 : IsV (· < n₀) wr es[i].val es[i].vcells := (HEV.out es[i] (List.getElem_mem hi2)).keep (Keeps.of_below HKw.out.1 fun _ h _ => h)
      have hsub : ((en.val.ents.take (i + 1)).map postE).flatten.length + 1 ≤ en.val.wt := subs_le en.val (i + 1)
      have hflat := take_flat_succ en.val i hent
      rw [← hcon] at hflat
      have hsub2 : ys.length + (postE es[i].con).length + 1 ≤ (postE en.con).length := by
        rw [postE_eq en.con]
        have h2 : ((en.val.ents.take (i + 1)).map postE).flatten.length ≤ (en.val.ents.map postE).flatten.length := by
          conv => rhs; rw [← List.take_append_drop (i + 1) en.val.ents]
          rw [List.map_append, List.flatten_append, List.length_append]; omega
        rw [hflat, List.length_append, ← HY1.out.2, List.length_map] at h2
        simp only [List.length_append, List.length_singleton]
        have h3 : en.con.2.2 = en.val := rfl
        rw [h3]
        omega
      have hpl : pre.length + ys.length + (postE es[i].con).length ≤ N := by
        have h1 := HN.out
        omega
      have hbd : ys.length + (postE es[i].con).length ≤ 16777216 := by
        have h4 := HWT.out
        rw [hflat, List.length_append, ← HY1.out.2, List.length_map] at hsub
        omega
      obtain ⟨x, hx⟩ : ∃ x, es[i] = x := ⟨_, rfl⟩
      rw [hx] at z0 z1 z2 z3 z4 z5 hwt2 hok2 hv2 hflat hpl hbd hsub2
      have hC : ∀ W', Below wr.heap.size wr W' → Hid (CallsIn Fence.wide (n - 1) Try.prog 65 #[.agg #[.string x.key, .bool x.keyed, .int .u8 x.val.kind, .string x.val.text, .slice x.la x.val.list.length x.lc, .slice x.ka x.val.keys.length x.kc], .func (.yield l) #[] #[]] W' fun e W'' =>
          (∃ ys2 : List Alp, e = .returned (.tuple #[.int .i64 ys2.length, .bool true]) ∧ m + ys2.length ≤ 16777216 ∧ Hid (ys2.map projA = postE x.con) ∧ Hid (J (pre ++ ys ++ ys2) W'') ∧ Hid (KE n₀ wr W'') ∧ wr.heap.size ≤ W''.heap.size) ∨
          (∃ (q : List Alp) (m2 : Nat), m + m2 ≤ 16777216 ∧ Hid (m + m2 ≤ (postE en.con).length) ∧ e = .returned (.tuple #[.int .i64 m2, .bool false]) ∧ Hid (Jx (pre ++ q) W''))) := fun W' hb =>
        (HIH.out x.val hwt2 (n - 1) x (pre ++ ys) W' (d - 1) rfl hok2 (by have := HWT.out; omega) (hv2.keep (Keeps.of_ext hb)) (by have := hb.size; omega) (abides_ext HJ.out HJw.out hb) (by simpa using hpl)).mono fun e W'' h => by
          rcases h with ⟨ys2, h1, h2, h3, h4⟩ | ⟨q, m2, h1, h2, h3⟩
          · exact .inl ⟨ys2, h1, by rw [HY1.out.1]; have := congrArg List.length h2; rw [List.length_map] at this; omega, h2, h3, (KE.of_ext (by omega) hb).trans h4, Nat.le_trans hb.size h4.1.size⟩
          · exact .inr ⟨ys ++ q, m2, by rw [HY1.out.1]; omega, (by show _ ≤ _; rw [HY1.out.1]; omega), h2, by show Jx (pre ++ (ys ++ q)) W''; rw [← List.append_assoc]; exact h3⟩
      have HFLAT := Lib.hid hflat
      clear hE2 hent hcon hmem hwt2 hok2 hv2 hsub hsub2 hflat hpl hbd hx
      gi_wp2_with (refine ⟨trivial, hdd _, ?_⟩; gi_at_call 65; refine ((hC _ ((Below.refl _ wr).alloc (Nat.le_refl _) _)).out).mono ?_; rintro e W2 (⟨ys2, rfl, hb2, hp2, hJ2, hK2, hsz2⟩ | ⟨q, m2, hm2, hm3, rfl, hx2⟩))
      · go_roundw
        case rel =>
          refine ⟨i + 1, m + ys2.length, ys ++ ys2, by omega, by go_num, by go_num, hb2, ⟨by rw [HY1.out.1, List.length_append], by rw [HFLAT.out, List.map_append, HY1.out.2, hp2.out]⟩, (by show J (pre ++ (ys ++ ys2)) W2; rw [← List.append_assoc]; exact hJ2.out), HKw.out.trans hK2.out, by omega⟩
        case measure => simp [intOf]; omega
      · go_ret2
        exact .inr ⟨q, m + m2, hm3.out, by go_num, hx2.out⟩
    · have hi2 : i = en.val.list.length := by omega
      have hm2 : Hid (m = ((en.val.ents).map postE).flatten.length ∧ ys.map projA = (en.val.ents.map postE).flatten) := by
        have h1 := HY1.out
        have hl : en.val.ents.length = en.val.list.length := by rw [← HES.out, List.length_map, HEL.out]
        rw [hi2, ← hl, List.take_length] at h1
        exact ⟨by rw [h1.1, ← h1.2, List.length_map], h1.2⟩
      have hL2 := Lies.ke HL1.out HKw.out
      have c0 : wr.cell? ⟨W.heap.size, 0, none⟩ = some (.string en.key) := hL2.cell 0
      have c1 : wr.cell? ⟨W.heap.size, 1, none⟩ = some (.bool en.keyed) := hL2.cell 1
      have c2 : wr.cell? ⟨W.heap.size, 2, none⟩ = some (.int .u8 en.val.kind) := hL2.cell 2
      have c3 : wr.cell? ⟨W.heap.size, 3, none⟩ = some (.string en.val.text) := hL2.cell 3
      have c4 : wr.cell? ⟨W.heap.size, 4, none⟩ = some (.slice en.la en.val.list.length en.lc) := hL2.cell 4
      have c5 : wr.cell? ⟨W.heap.size, 5, none⟩ = some (.slice en.ka en.val.keys.length en.kc) := hL2.cell 5
      have hpl : (pre ++ ys).length < N := by
        have h1 := HN.out
        rw [postE_eq] at h1
        have h3 : en.con.2.2 = en.val := rfl
        have h4 := congrArg List.length hm2.out.2
        rw [h3] at h1
        simp only [List.length_append, List.length_singleton, List.length_map] at h1 h4 ⊢
        omega
      have hmb : m + 1 ≤ 16777216 := by
        have h4 := hm2.out.1
        have h5 := subs_le en.val en.val.ents.length
        rw [List.take_length] at h5
        have := HWT.out
        omega
      obtain ⟨fn, tmps, assign, body, hy, hR⟩ := HY.out (n - 1) (pre ++ ys) ⟨(en, m), hm⟩ wr HJw.out hpl
      dsimp only [encA] at hy
      have HR := Lib.hid hR
      clear hR hL2 hi2 hpl
      gi_wp2
      refine ⟨hdd _, HR.out.mono ?_⟩
      rintro e W3 (⟨rfl, hJ3, hK3⟩ | ⟨rfl, hx3⟩)
      · gi_wp2
        go_ret2
        refine .inl ⟨ys ++ [⟨(en, m), hm⟩], by simp [HY1.out.1], ?_, by rw [← List.append_assoc]; exact hJ3, (HK1.out.trans HKw.out).trans hK3⟩
        rw [postE_eq, List.map_append, hm2.out.2]
        show _ = (en.val.ents.map postE).flatten ++ [(lblOf en.con, (en.val.ents.map postE).flatten.length)]
        rw [← hm2.out.1]
        rfl
      · gi_wp2
        go_ret2
        exact .inr ⟨ys ++ [⟨(en, m), hm⟩], m + 1, by rw [postE_eq en.con, List.length_append, hm2.out.1]; exact Nat.le_refl _, by go_num, by rw [← List.append_assoc]; exact hx3⟩
end Go.Proofs.Ytfajbkofbjcbbaa
