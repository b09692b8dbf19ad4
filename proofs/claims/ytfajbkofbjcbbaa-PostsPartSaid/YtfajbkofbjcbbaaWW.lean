/- Entries: their cells, their order; walks: cmp.Compare of strings, the closure that compares entries. -/
import Derived.WalkLawsBesides
import Derived.Sort.Walk0
import Derived.Sort.Statements
import Derived.Shelf.SlSortCmp.Insertion
import Derived.Test.YtfajbkofbjcbbaaWB
import Derived.Test.YtfajbkofbjcbbaaPlainC
namespace Go.Proofs.Ytfajbkofbjcbbaa
open Go.RowKit Go.Sort Go.Shelf

instance : Inhabited V := ⟨.mk 0 .empty [] []⟩

/-- an entry: its key, is it one, its value; where the value's lists lie; its number -/
structure En where
  key : ByteArray
  keyed : Bool
  val : V
  la : Option Addr
  lc : Nat
  ka : Option Addr
  kc : Nat
  num : Nat
instance : Inhabited En := ⟨⟨.empty, false, default, none, 0, none, 0, 0⟩⟩

/-- the value's four cells -/
def En.vcells (e : En) : List Value := [.int .u8 e.val.kind, .string e.val.text, .slice e.la e.val.list.length e.lc, .slice e.ka e.val.keys.length e.kc]
/-- an entry's six cells -/
def En.cells (e : En) : List Value := [.string e.key, .bool e.keyed, .int .u8 e.val.kind, .string e.val.text, .slice e.la e.val.list.length e.lc, .slice e.ka e.val.keys.length e.kc]
theorem En.cells_length (e : En) : e.cells.length = 6 := rfl
theorem En.cells_one (e : En) : ∀ v ∈ e.cells, v.oneCell' = true := by
  intro v hv
  simp only [En.cells, List.mem_cons, List.not_mem_nil, or_false] at hv
  rcases hv with rfl | rfl | rfl | rfl | rfl | rfl <;> rfl

/-- how strings stand -/
def cmpS (x y : ByteArray) : Int := if Op.bytesLess x.toList y.toList then -1 else if Op.bytesLess y.toList x.toList then 1 else 0
theorem bytesLess_L (x y : ByteArray) : Op.bytesLess x.toList y.toList = decide (x.data.toList < y.data.toList) := by
  rw [bytesLess_eq, Lib.toList_data, Lib.toList_data]
theorem gtr_iff (x y : ByteArray) : (!(Op.bytesLess x.toList y.toList || x.toList == y.toList)) = Op.bytesLess y.toList x.toList := by
  simp only [bytesLess_eq]
  rw [Bool.eq_iff_iff]
  simp only [Bool.not_eq_true', Bool.or_eq_false_iff, decide_eq_false_iff_not, beq_eq_false_iff_ne, ne_eq, decide_eq_true_eq]
  constructor
  · rintro ⟨h1, h2⟩
    exact Classical.byContradiction fun hn => h2 (List.le_antisymm (List.not_lt.1 hn) (List.not_lt.1 h1))
  · intro h
    exact ⟨fun h1 => List.lt_irrefl _ (List.lt_trans h h1), fun e => by rw [e] at h; exact List.lt_irrefl _ h⟩
theorem cmpS_lt (x y : ByteArray) : decide (cmpS x y < 0) = Op.bytesLess x.toList y.toList := by
  unfold cmpS
  cases Op.bytesLess x.toList y.toList
  · cases Op.bytesLess y.toList x.toList <;> simp
  · simp
def cfE (x y : En) : Int := cmpS x.key y.key
/-- entries' order: by keys -/
def ltE (x y : En) : Bool := Op.bytesLess x.key.toList y.key.toList
theorem ltOf_cfE : ltOf cfE = ltE := by
  funext x y
  exact cmpS_lt _ _
theorem swoE : SWO ltE := by
  have e : ltE = fun x y => decide (x.key.data.toList < y.key.data.toList) := by
    funext x y; exact bytesLess_L _ _
  rw [e]
  refine ⟨fun x => by simp [List.lt_irrefl], fun x y z h1 h2 => ?_, fun x y z h1 h2 => ?_⟩
  · simp only [decide_eq_true_eq] at *
    exact List.lt_trans h1 h2
  · simp only [decide_eq_false_iff_not, List.not_lt] at *
    exact List.le_trans h2 h1

set_option maxHeartbeats 400000 in
theorem isNaNS (x : ByteArray) (w : World) : Calls Try.prog 89 #[.string x] w fun e w' => e = .returned (.bool false) ∧ w = w' := by
  go_enter Try.func89, Try.ntmps89
  go_wp2
  go_ret
  exact ⟨by simp, rfl⟩

set_option maxHeartbeats 400000 in
theorem compareS (x y : ByteArray) (w : World) : Calls Try.prog 77 #[.string x, .string y] w fun e w' => e = .returned (.int .i64 (cmpS x y)) ∧ w = w' := by
  have hg := gtr_iff x y
  cases h1 : Op.bytesLess x.toList y.toList with
  | true =>
    have HC : Hid (cmpS x y = -1) := by show _ = _; unfold cmpS; rw [h1]; rfl
    clear hg
    go_enter Try.func77, Try.ntmps77
    go_wp2_with (go_at_call 89; refine (isNaNS _ _).mono ?_; rintro e w' ⟨rfl, rfl⟩)
    go_ret
    exact ⟨by rw [HC.out]; rfl, rfl⟩
  | false =>
    rw [h1] at hg
    simp only [Bool.false_or] at hg
    cases h2 : Op.bytesLess y.toList x.toList with
    | true =>
      have HC : Hid (cmpS x y = 1) := by show _ = _; unfold cmpS; rw [h1, h2]; rfl
      rw [h2] at hg
      have hg2 : (x.toList == y.toList) = false := by simpa using hg
      clear hg h2
      go_enter Try.func77, Try.ntmps77
      go_wp2_with (go_at_call 89; refine (isNaNS _ _).mono ?_; rintro e w' ⟨rfl, rfl⟩)
      go_ret
      exact ⟨by rw [HC.out]; rfl, rfl⟩
    | false =>
      have HC : Hid (cmpS x y = 0) := by show _ = _; unfold cmpS; rw [h1, h2]; rfl
      rw [h2] at hg
      have hg2 : (x.toList == y.toList) = true := by simpa using hg
      clear hg h2
      go_enter Try.func77, Try.ntmps77
      go_wp2_with (go_at_call 89; refine (isNaNS _ _).mono ?_; rintro e w' ⟨rfl, rfl⟩)
      go_ret
      exact ⟨by rw [HC.out]; rfl, rfl⟩

set_option maxHeartbeats 400000 in
/-- the closure: two blocks more -/
theorem cmpE_any (x y : En) (w : World) : Calls Try.prog 92 #[.agg x.cells.toArray, .agg y.cells.toArray] w fun e w' => e = .returned (.int .i64 (cfE x y)) ∧
    w' = (w.alloc (.cells x.cells.toArray 75)).alloc (.cells y.cells.toArray 75) := by
  unfold cfE En.cells
  go_enter Try.func92, Try.ntmps92
  go_wp2_with (go_at_call 77; refine (compareS _ _ _).mono ?_; rintro e w' ⟨rfl, rfl⟩)
  go_ret
  exact ⟨rfl, rfl⟩
end Go.Proofs.Ytfajbkofbjcbbaa
