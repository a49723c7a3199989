/- The contract of slices.SortFunc at a row of rectangles of the call's own, the nil one too. Texts of this claim's session, put together: SortR2. -/
import Derived.Test.YtplhfbkejngioaaOw6
import Derived.Shelf.SlSortCmp.WholeK
import Derived.Test.YtplhfbkejngioaaVWords
import Derived.Test.YtplhfbkejngioaaVLast
namespace Go.Proofs.Ytplhfbkejngioaa.X
open Go.RowKit Go.Sort Go.Proofs.YtplhfbkejngioaaW.PrintWords Go.Proofs.YtplhfbkejngioaaW.PrintLast Go.Proofs.Ytplhfbkejngioaa.S
set_option linter.unusedVariables false
set_option linter.unusedSimpArgs false
set_option maxHeartbeats 1000000 in
set_option maxRecDepth 100000 in
theorem ins_nil (p : Option Addr) (cap : Nat) (fv : Value) (w : World) : Calls Try.prog 113 #[.slice p 0 cap, .int .i64 0, .int .i64 0, fv] w fun e w' => e = .returned (.tuple #[]) ∧ w' = w := by
 go_enter Try.func113, Try.ntmps113
 go_wp2
 refine wp_loop_rounds 1 ?_
 rw [rounds_succ]
 go_wp2
 go_end0
 exact ⟨rfl, rfl⟩
set_option maxHeartbeats 1000000 in
set_option maxRecDepth 100000 in
theorem pdq_nil (p : Option Addr) (cap : Nat) (lim : Int) (fv : Value) (w : World) : Calls Try.prog 96 #[.slice p 0 cap, .int .i64 0, .int .i64 0, .int .i64 lim, fv] w fun e w' => e = .returned (.tuple #[]) ∧ w' = w := by
 have hi := fun W => ins_nil p cap fv W
 go_enter Try.func96, Try.ntmps96
 go_wp2
 refine wp_loop_rounds 1 ?_
 rw [rounds_succ]
 go_wp2_with (go_at_call 113; refine (hi _).mono ?_; rintro e w' ⟨rfl, rfl⟩)
 (try simp only [Exit.inBlock, Exit.then]); refine bodyPost_ret (results_none rfl _ _ _) rfl ?_
 exact ⟨rfl, rfl⟩
set_option maxHeartbeats 1000000 in
set_option maxRecDepth 100000 in
theorem sort_nil (p : Option Addr) (cap : Nat) (fv : Value) (w : World) : Calls Try.prog 71 #[.slice p 0 cap, fv] w fun e w' => e = .returned (.tuple #[]) ∧ w' = w := by
 have hp := fun lim W => pdq_nil p cap lim fv W
 have hl := fun W => Try.bits_Len 0 W (by omega) (by omega)
 go_enter Try.func71, Try.ntmps71
 go_wp2_with (first | (go_at_call 95; refine (hl _).mono ?_; rintro e w' ⟨rfl, rfl⟩) | (go_at_call 96; refine (hp _ _).mono ?_; rintro e w' ⟨rfl, rfl⟩))
 go_end0
 exact ⟨rfl, rfl⟩
theorem sortR_calls {W : World} {base : Nat} {v : Value} {l : List S48} (h : OwnR W base v l) (hn : l.length ≤ 10000) :
  Calls Try.prog 71 #[v, .func (.func 72) #[] #[]] W fun e w' => e = .returned (.tuple #[]) ∧ ∃ b, b.Perm l ∧ b.Pairwise (fun x y => x.f1 ≤ y.f1) ∧ OwnR w' base v b ∧ W.grownBy w' v.ownBlock := by
 rcases id h.2 with ⟨rfl, h0⟩ | ⟨g, cap, cur, rfl, hb, hh, hr⟩
 ·obtain rfl : l = [] := List.length_eq_zero_iff.1 h0
  refine (sort_nil none 0 _ W).mono ?_
  rintro e w' ⟨rfl, rfl⟩
  exact ⟨rfl, [], List.Perm.refl _, List.Pairwise.nil, h, World.grownBy.refl _ _⟩
 ·have eg : ∀ args w, (callFunc 72 args).run Try.prog w = .ok (.enter 72 args) w := enters_of Try.func72 (by kernel_rfl) rfl
  obtain ⟨hH, hg⟩ := h.holds
  have hcon := AnyQ.slices_SortFunc Try.sortRect 4 Try.isAgg48 Try.sizeOf48 enc48 (fun _ => rfl) (fun x v hv => by simp [enc48] at hv; rcases hv with rfl | rfl | rfl | rfl <;> rfl) cf48 swo48 72 #[] g 0 cap l.toArray W eg (cmpLays72 g 0 _ W) hH hg (by simp; omega)
  change Calls Try.prog 71 _ _ _ at hcon
  have e0 : l.toArray.size = l.length := by simp
  rw [e0] at hcon
  refine hcon.mono ?_
  rintro e w' ⟨rfl, d', n, os, hp, hs, rfl⟩
  have hz : d'.size = l.length := by have := hp.1; simpa using this
  have hperm := perm_in (d' := d') (by rw [e0]; exact hp)
  have hlen : d'.toList.length = l.length := by simpa using hz
  have so := OwnR.sorted (m := n) (os := os) h hlen
  rw [hlen] at so
  refine ⟨rfl, d'.toList, hperm, sorted_in hz hs, ?_, so.2⟩
  exact so.1
end Go.Proofs.Ytplhfbkejngioaa.X
