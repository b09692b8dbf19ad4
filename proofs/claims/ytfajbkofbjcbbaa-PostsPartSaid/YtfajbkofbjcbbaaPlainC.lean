/- Plain Lean: may a value be? -/
import Derived.Test.YtfajbkofbjcbbaaPlainB
namespace Go.Proofs.Ytfajbkofbjcbbaa

/-- no key twice -/
def nodupB : List ByteArray → Bool
  | [] => true
  | k :: r => !(r.any fun x => x.toList == k.toList) && nodupB r

/-- is a value's own what its kind asks for? -/
def shapeB (k : Nat) (t : ByteArray) (n : Nat) (ks : List ByteArray) : Bool :=
  if k = 0 then t.toList.isEmpty && n + ks.length == 0
  else if k = 1 then (t.toList == [116, 114, 117, 101] || t.toList == [102, 97, 108, 115, 101]) && n + ks.length == 0
  else if k = 3 then n + ks.length == 0
  else if k = 2 ∨ k = 4 ∨ k = 5 ∨ k = 6 then !t.toList.isEmpty && n + ks.length == 0
  else if k = 7 then t.toList.isEmpty && ks.length == 0
  else if k = 8 then t.toList.isEmpty && ks.length == n && nodupB ks
  else false

mutual
/-- may a value be within so many lists and maps? -/
def V.ok : V → Nat → Bool
  | .mk k t l ks, left => shapeB k t l.length ks && !(left == 0 && decide (7 ≤ k)) && oks l (left - 1)
def oks : List V → Nat → Bool
  | [], _ => true
  | v :: r, left => v.ok left && oks r left
end
/-- may a value be? -/
def V.may (v : V) : Bool := v.ok 256

theorem shapeB_small {k : Nat} {t : ByteArray} {n : Nat} {ks : List ByteArray} (h : shapeB k t n ks = true) (hk : k < 7) : n = 0 ∧ ks.length = 0 := by
  unfold shapeB at h
  repeat' split at h
  all_goals simp_all
  all_goals omega
theorem shapeB_kind {k : Nat} {t : ByteArray} {n : Nat} {ks : List ByteArray} (h : shapeB k t n ks = true) : k ≤ 8 := by
  unfold shapeB at h
  repeat' split at h
  all_goals simp_all
  all_goals omega

end Go.Proofs.Ytfajbkofbjcbbaa
