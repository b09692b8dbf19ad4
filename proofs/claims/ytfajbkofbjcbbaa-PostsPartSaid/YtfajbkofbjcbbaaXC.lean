/- Walks: posts.Of of no value; inarchlaw19.small. -/
import Derived.Test.YtfajbkofbjcbbaaXB
namespace Go.Proofs.Ytfajbkofbjcbbaa
open Go.RowKit Go.Sort Go.Shelf

set_option maxRecDepth 100000 in
set_option maxHeartbeats 1000000 in
theorem of_no (S : Nat → Prop) (v : V) (la ka : Option Addr) (lc kc : Nat) (w : World) (hv : IsV S w v [.int .u8 v.kind, .string v.text, .slice la v.list.length lc, .slice ka v.keys.length kc]) (hmay : v.may = false) :
    Calls Try.prog 15 #[.agg #[.int .u8 v.kind, .string v.text, .slice la v.list.length lc, .slice ka v.keys.length kc]] w fun e w' => e = .returned noPost ∧ Below w.heap.size w w' := by
  have hl2 := lies_two w #[.int .u8 v.kind, .string v.text, .slice la v.list.length lc, .slice ka v.keys.length kc] 26 #[.slice none 0 0, .slice none 0 0, .slice none 0 0] 33
  have hB2 : Below w.heap.size w ((w.alloc (.cells #[.int .u8 v.kind, .string v.text, .slice la v.list.length lc, .slice ka v.keys.length kc] 26)).alloc (.cells #[.slice none 0 0, .slice none 0 0, .slice none 0 0] 33)) := ((Below.refl _ _).alloc (Nat.le_refl _) _).alloc (by simp) _
  have hv0 := (hv.mono (T := (· < w.heap.size)) fun b hb _ => hb)
  have hmc := may_any v (· < w.heap.size) _ _ (hv0.keep (Keeps.of_ext hB2))
  rw [hmay] at hmc
  have HMC := Lib.hid hmc
  have HL2 := Lib.hid hl2
  have HB2 := Lib.hid hB2
  clear hmc hl2 hB2 hv hv0 hmay
  go_enter Try.func15, Try.ntmps15
  go_wp2_with fail
  refine HMC.out.mono ?_
  rintro e wm ⟨rfl, hbm⟩
  have hp := HL2.out.2.ext hbm
  have p0 : wm.cell? ⟨w.heap.size + 1, 0, none⟩ = some (.slice none 0 0) := hp.cell 0
  have p1 : wm.cell? ⟨w.heap.size + 1, 1, none⟩ = some (.slice none 0 0) := hp.cell 1
  have p2 : wm.cell? ⟨w.heap.size + 1, 2, none⟩ = some (.slice none 0 0) := hp.cell 2
  have p0f := hp.frozen 0
  have p1f := hp.frozen 1
  have p2f := hp.frozen 2
  have hpl := hp.lt
  have HP := Lib.hid hp
  have HB : Hid (Below w.heap.size w wm) := Lib.hid (HB2.out.trans (hbm.mono (by simp; omega)))
  clear hp hbm
  go_wp2
  refine bodyPost_ret (v := noPost) (ret2 rfl stPost rfl rfl (((HP.out.set 0 (.slice none 0 0)).set 1 (.slice none 0 0)).set 2 (.slice none 0 0))) rfl ⟨rfl, ?_⟩
  exact ((HB.out.setCell (by simp) _).setCell (by simp) _).setCell (by simp) _

def vOne : V := .mk 4 ⟨#[49]⟩ [] []
def vX : V := .mk 3 ⟨#[120]⟩ [] []
def vL : V := .mk 7 ⟨#[]⟩ [vOne] []
def vSmall : V := .mk 8 ⟨#[]⟩ [vL, vX] [⟨#[98]⟩, ⟨#[97]⟩]

theorem stVal : StructTy Try.prog 26 4 := ⟨_, Try.underlying26, by kernel_rfl⟩
/-- a row's cells out of a block -/
theorem At.of_lies {S : Nat → Prop} {w : World} {b : Nat} {t : TypeId} {cs : Array Value} (h : Lies w b t cs) (hS : S b) : At S w (some ⟨b, 0, none⟩) cs.toList := fun _ =>
  ⟨b, 0, rfl, hS, fun j u hu => by rw [Nat.zero_add, h.cell]; simpa using hu⟩

/-- what small hands back -/
def SmallRes (w : World) (e : Ending) (w' : World) : Prop :=
  ∃ la ka, e = .returned (.agg #[.int .u8 8, .string ⟨#[]⟩, .slice la 2 2, .slice ka 2 2]) ∧ IsV (fun b => w.heap.size ≤ b) w' vSmall [.int .u8 8, .string ⟨#[]⟩, .slice la 2 2, .slice ka 2 2] ∧ Below w.heap.size w w'

set_option maxRecDepth 100000 in
set_option maxHeartbeats 1000000 in
theorem small_any (w : World) : Calls Try.prog 42 #[] w fun e w' => SmallRes w e w' := by
  go_enter Try.func42, Try.ntmps42
  go_wp2
  have h0 : Lies ((((((w.alloc (.cells #[.int .u8 8, .string ⟨#[]⟩, .slice (some ⟨w.heap.size + 1 + 1 + 1 + 1 + 1, 0, none⟩) 2 2, .slice (some ⟨w.heap.size + 1 + 1 + 1, 0, none⟩) 2 2] 26)).alloc (.cells #[.int .u8 4, .string ⟨#[49]⟩, .slice none 0 0, .slice none 0 0] 26)).alloc (.cells #[.int .u8 3, .string ⟨#[120]⟩, .slice none 0 0, .slice none 0 0] 26)).alloc
      (.cells #[.string ⟨#[98]⟩, .string ⟨#[97]⟩] 9)).alloc (.cells #[.int .u8 4, .string ⟨#[49]⟩, .slice none 0 0, .slice none 0 0] 26)).alloc (.cells #[.int .u8 7, .string ⟨#[]⟩, .slice (some ⟨w.heap.size + 1 + 1 + 1 + 1, 0, none⟩) 1 1, .slice none 0 0, .int .u8 3, .string ⟨#[120]⟩, .slice none 0 0, .slice none 0 0] 26))
      w.heap.size 26 #[.int .u8 8, .string ⟨#[]⟩, .slice (some ⟨w.heap.size + 1 + 1 + 1 + 1 + 1, 0, none⟩) 2 2, .slice (some ⟨w.heap.size + 1 + 1 + 1, 0, none⟩) 2 2] := (((((Lies.new w _ _).alloc _).alloc _).alloc _).alloc _).alloc _
  refine bodyPost_ret (v := .agg #[.int .u8 8, .string ⟨#[]⟩, .slice (some ⟨w.heap.size + 1 + 1 + 1 + 1 + 1, 0, none⟩) 2 2, .slice (some ⟨w.heap.size + 1 + 1 + 1, 0, none⟩) 2 2]) (ret1 rfl stVal rfl h0) rfl ⟨_, _, rfl, ?_, ?_⟩
  · refine ⟨_, 2, _, 2, rfl, by omega, by simp, by omega, by simp, by omega, ?_, [.int .u8 7, .string ⟨#[]⟩, .slice (some ⟨w.heap.size + 1 + 1 + 1 + 1, 0, none⟩) 1 1, .slice none 0 0, .int .u8 3, .string ⟨#[120]⟩, .slice none 0 0, .slice none 0 0], ?_, ?_⟩
    · exact At.of_lies ((Lies.new_at (by simp) 9 #[.string ⟨#[98]⟩, .string ⟨#[97]⟩]).alloc _ |>.alloc _) (show w.heap.size ≤ _ by omega)
    · refine ⟨[.int .u8 7, .string ⟨#[]⟩, .slice (some ⟨w.heap.size + 1 + 1 + 1 + 1, 0, none⟩) 1 1, .slice none 0 0], [.int .u8 3, .string ⟨#[120]⟩, .slice none 0 0, .slice none 0 0], rfl, ?_, [.int .u8 3, .string ⟨#[120]⟩, .slice none 0 0, .slice none 0 0], [], rfl, ?_, rfl⟩
      · refine ⟨_, 1, _, 0, rfl, by omega, by simp, by omega, by simp, by omega, At.nil _ _ _, [.int .u8 4, .string ⟨#[49]⟩, .slice none 0 0, .slice none 0 0], ⟨[.int .u8 4, .string ⟨#[49]⟩, .slice none 0 0, .slice none 0 0], [], rfl, ?_, rfl⟩, ?_⟩
        · exact ⟨none, 0, none, 0, rfl, by omega, by simp, by omega, by simp, by omega, At.nil _ _ _, [], rfl, At.nil _ _ _⟩
        · exact At.of_lies ((Lies.new_at (by simp) 26 #[.int .u8 4, .string ⟨#[49]⟩, .slice none 0 0, .slice none 0 0]).alloc _) (show w.heap.size ≤ _ by omega)
      · exact ⟨none, 0, none, 0, rfl, by omega, by simp, by omega, by simp, by omega, At.nil _ _ _, [], rfl, At.nil _ _ _⟩
    · exact At.of_lies (Lies.new_at (by simp) 26 #[.int .u8 7, .string ⟨#[]⟩, .slice (some ⟨w.heap.size + 1 + 1 + 1 + 1, 0, none⟩) 1 1, .slice none 0 0, .int .u8 3, .string ⟨#[120]⟩, .slice none 0 0, .slice none 0 0]) (show w.heap.size ≤ _ by omega)
  · exact ((((((Below.refl _ _).alloc (Nat.le_refl _) _).alloc (by simp) _).alloc (by simp; omega) _).alloc (by simp; omega) _).alloc (by simp; omega) _).alloc (by simp; omega) _
end Go.Proofs.Ytfajbkofbjcbbaa
