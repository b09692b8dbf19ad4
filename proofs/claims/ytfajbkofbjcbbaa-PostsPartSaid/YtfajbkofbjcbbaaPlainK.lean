/- Plain Lean: the example's postorder. -/
import Derived.Test.YtfajbkofbjcbbaaXC
namespace Go.Proofs.Ytfajbkofbjcbbaa
theorem toL_eq (l : List UInt8) : (ByteArray.mk l.toArray).toList = l := by rw [ByteArray.toList_eq]
theorem vSmall_may : vSmall.may = true := by
  simp [V.may, vSmall, vL, vX, vOne, V.ok, oks, shapeB, nodupB, ByteArray.toList_eq]
theorem vSmall_wt : vSmall.wt ≤ 16777216 := by
  simp [vSmall, vL, vX, vOne, V.wt, wts, sizes, ByteArray.size]
theorem ents_small : vSmall.ents = [(⟨#[97]⟩, true, vX), (⟨#[98]⟩, true, vL)] := by
  simp [V.ents, vSmall, V.base, srtS, insS, lt0, Op.bytesLess, ByteArray.toList_eq]
theorem ents_L : vL.ents = [(.empty, false, vOne)] := by
  simp [V.ents, vL, V.base, srtS, insS]
theorem ents_X : vX.ents = [] := by simp [V.ents, vX, V.base, srtS]
theorem ents_One : vOne.ents = [] := by simp [V.ents, vOne, V.base, srtS]
theorem post_small : vSmall.post = [(⟨true, ⟨#[97]⟩, 3, ⟨#[120]⟩⟩, 0), (⟨false, .empty, 4, ⟨#[49]⟩⟩, 0), (⟨true, ⟨#[98]⟩, 7, ⟨#[]⟩⟩, 1), (⟨false, .empty, 8, ⟨#[]⟩⟩, 3)] := by
  unfold V.post
  rw [postE_eq]
  simp only [ents_small, List.map_cons, List.map_nil]
  rw [postE_eq (⟨#[97]⟩, true, vX), postE_eq (⟨#[98]⟩, true, vL)]
  simp only [ents_X, ents_L, List.map_cons, List.map_nil]
  rw [postE_eq (.empty, false, vOne)]
  simp only [ents_One, List.map_nil]
  simp [lblOf, vSmall, vL, vX, vOne, V.kind, V.text]
theorem labels_small : vSmall.labels = [⟨true, ⟨#[97]⟩, 3, ⟨#[120]⟩⟩, ⟨false, .empty, 4, ⟨#[49]⟩⟩, ⟨true, ⟨#[98]⟩, 7, ⟨#[]⟩⟩, ⟨false, .empty, 8, ⟨#[]⟩⟩] := by
  unfold V.labels; rw [post_small]; rfl
theorem left_small : vSmall.left = [0, 1, 1, 0] := by
  unfold V.left; rw [post_small]; rfl
theorem roots_small : rootsOf [0, 1, 1, 0] = [2, 3] := by decide
theorem roots_small2 : rootsOf [0, 0] = [1] := by decide
theorem partOk_small : partOk vSmall.labels vSmall.left 2 := by
  rw [labels_small, left_small]; simp [partOk]
theorem partFrom_small : partFrom vSmall.left 2 = 1 := by rw [left_small]; rfl
theorem partLen_small : partLen vSmall.left 2 = 2 := by unfold partLen; rw [partFrom_small]; rfl
theorem partFits_small : partFits vSmall.left 2 (partLen vSmall.left 2) := by
  rw [partLen_small]
  intro i hi
  rw [partFrom_small, left_small]
  match i, hi with
  | 0, _ => simp
  | 1, _ => simp
theorem partLabels_small : partLabels vSmall.labels vSmall.left 2 = [⟨false, .empty, 4, ⟨#[49]⟩⟩, ⟨true, ⟨#[98]⟩, 7, ⟨#[]⟩⟩] := by
  unfold partLabels; rw [partFrom_small, partLen_small, labels_small]; rfl
theorem partLeft_small : partLeft vSmall.left 2 = [0, 0] := by
  unfold partLeft; rw [partFrom_small, partLen_small, left_small]; rfl
end Go.Proofs.Ytfajbkofbjcbbaa
