/- Texts of this claim's session, put together: X8, KeepS, X11. -/
import Derived.Test.YtplhfbkejngioaaBc0
import Derived.Test.YtplhfbkejngioaaBc4
import Derived.Test.YtplhfbkejngioaaVWords
namespace Go.Proofs.Ytplhfbkejngioaa.X
open Go.RowKit Go.Proofs.YtplhfbkejngioaaW.PrintWords Go.Proofs.YtplhfbkejngioaaW.PrintLast Go.Proofs.Ytplhfbkejngioaa.S
attribute [local go_sem] max2_int min2_int max_two min_two
set_option linter.unusedVariables false
set_option linter.unusedSimpArgs false
end Go.Proofs.Ytplhfbkejngioaa.X
namespace Go.Proofs.Ytplhfbkejngioaa.X
open Go.RowKit Go.Proofs.YtplhfbkejngioaaW.PrintWords
def Kept (w W : World) (S : Nat → Prop) : Prop := w.heap.size ≤ W.heap.size ∧ ∀ k, k < w.heap.size → ¬ S k → W.heap[k]? = w.heap[k]?
theorem Kept.refl (w : World) (S : Nat → Prop) : Kept w w S := ⟨Nat.le_refl _, fun _ _ _ => rfl⟩
theorem Kept.drew {w W : World} {S : Nat → Prop} (h : Kept w W S) : Kept w W.drew S := h
theorem Kept.drewN {w W : World} {S : Nat → Prop} (h : Kept w W S) (m : Nat) : Kept w (W.drewN m) S := h
theorem Kept.alloc {w W : World} {S : Nat → Prop} (h : Kept w W S) (o : Obj) : Kept w (W.alloc o) S :=
 ⟨by have := h.1; simp; omega, fun k hk hn => (Below.heap_alloc W o k (by have := h.1; omega)).trans (h.2 k hk hn)⟩
theorem Kept.of_grown {w W W2 : World} {S : Nat → Prop} {row : Option Nat} (hg : W.grownBy W2 row) (h : Kept w W S) (hr : ∀ k, row = some k → S k ∨ w.heap.size ≤ k) : Kept w W2 S := by
 refine ⟨Nat.le_trans h.1 hg.size, fun k hk hn => (hg.block k (by have := h.1; omega) ?_).trans (h.2 k hk hn)⟩
 intro e
 rcases hr k e.symm with q | q
 ·exact hn q
 ·omega
theorem Kd.R_tight {k : IntKind} {e base : Nat} {w : World} {ok : Nat → Prop} {v : Value} {xs : List Int} (_hE : (Kd.int k).E = []) (h : (Kd.int k).R e w base ok v xs) : (Kd.int k).R e w base (fun b => some b = v.ownBlock) v xs := by
 obtain ⟨_, inner, ho, hr⟩ := h
 exact ⟨fun _ hb => hb.symm, inner, ho, hr⟩
end Go.Proofs.Ytplhfbkejngioaa.X
namespace Go.Proofs.Ytplhfbkejngioaa.X
open Go.RowKit Go.Proofs.YtplhfbkejngioaaW.PrintWords Go.Proofs.YtplhfbkejngioaaW.PrintLast Go.Proofs.Ytplhfbkejngioaa.S
attribute [local go_sem] max2_int min2_int max_two min_two
set_option linter.unusedVariables false
set_option linter.unusedSimpArgs false
end Go.Proofs.Ytplhfbkejngioaa.X
