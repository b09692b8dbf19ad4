/- Walks: the library's stable sort: symMerge, of any two runs. -/
import Derived.Test.YtfajbkofbjcbbaaWT
namespace Go.Proofs.Ytfajbkofbjcbbaa
open Go.Shelf Go.RowKit Go.Lib Go.Sort
variable {P : Program} {α : Type} [Inhabited α]

theorem symMerge_g (L : StL P) (k : Nat) (aE : ∀ w, (isAgg 75).run P w = .ok true w) (zE : ∀ w, (Go.sizeOf 75).run P w = .ok k w) (enc : α → List Value) (cf : α → α → Int) (hO : SWO (ltOf cf)) (g : Nat) (cb : Array Value) (blk off cap n : Nat) (d0 : Array α) (w0 : World)
    (eg : ∀ args w, (callFunc g args).run P w = .ok (.enter g args) w) (hcmp : CmpLays P g cb enc k cf blk off n w0) (R : RowK enc k w0 blk off d0) (hs : d0.size = n) (hsz : n < 2305843009213693952) :
    ∀ (N : Nat) (pre X Y post : List α) (w : World), X.length + Y.length ≤ N → 0 < X.length → 0 < Y.length → Srt (ltOf cf) X → Srt (ltOf cf) Y → (pre ++ X ++ Y ++ post).length = n → SWK enc k w0 blk off (pre ++ X ++ Y ++ post).toArray w →
      ∀ a m b : Nat, a = pre.length → m = pre.length + X.length → b = pre.length + X.length + Y.length →
      Calls P 112 #[.slice (some ⟨blk, off, none⟩) n cap, .int .i64 a, .int .i64 m, .int .i64 b, .func (.func g) #[] cb] w fun e w' => e = .returned (.tuple #[]) ∧ SWK enc k w0 blk off (pre ++ mrg (ltOf cf) X Y ++ post).toArray w' := by
  intro N
  induction N with
  | zero => intro pre X Y post w h1 h2; omega
  | succ N ih =>
    intro pre X Y post w hN h2 h3 sX sY hn S a m b ha hm hb
    match X, h2 with
    | [x], _ => exact symMerge_left L k aE zE enc cf hO g cb blk off cap n d0 w0 w eg hcmp pre Y post x sY R hs hn S (by omega) a m b ha (by simpa using hm) (by simpa using hb)
    | x1 :: x2 :: xs, _ =>
      match Y, h3 with
      | [y], _ => exact symMerge_right L k aE zE enc cf hO g cb blk off cap n d0 w0 w eg hcmp pre (x1 :: x2 :: xs) post y sX (by simp) R hs hn S (by omega) a m b ha hm (by simpa using hb)
      | y1 :: y2 :: ys, _ =>
        exact symMerge_more L k aE zE enc cf hO g cb blk off cap n d0 w0 w eg hcmp pre (x1 :: x2 :: xs) (y1 :: y2 :: ys) post sX sY (by simp) (by simp) R hs hn S hsz
          (fun pre' X' Y' post' W h4 h5 h6 s1 s2 h7 h8 a' m' b' e1 e2 e3 => ih pre' X' Y' post' W (by omega) h5 h6 s1 s2 h7 h8 a' m' b' e1 e2 e3) a m b ha hm hb
end Go.Proofs.Ytfajbkofbjcbbaa
