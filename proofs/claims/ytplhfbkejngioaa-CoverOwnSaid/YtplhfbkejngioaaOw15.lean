/- CoverOwn holds for every input: the walk of the printed functions, over the plain statement (Pure). No condition. Texts of this claim's session, put together: LawCoverOwn. -/
import Derived.Test.YtplhfbkejngioaaRows
import Derived.Test.YtplhfbkejngioaaOw4
import Derived.Test.YtplhfbkejngioaaOw14
import Derived.WalkKit
import Derived.ProofKit
import Derived.OpenShut
import Derived.ShutString
import Derived.ChangeOld
import Derived.Below
import Derived.SizedLaws
import Derived.Test.YtplhfbkejngioaaVWords
namespace Go.Proofs.Ytplhfbkejngioaa.coverOwn
open Go.ChangeShapes Go.WideShapes Go.ChangeAt Go.RowKit Go.Proofs.Ytplhfbkejngioaa.Open Go.Proofs.Ytplhfbkejngioaa.X Go.Proofs.YtplhfbkejngioaaW.PrintWords
set_option linter.unusedVariables false
theorem own : ownKnob Try.prog.godebug = none := by kernel_rfl
theorem laidOut : laidOutB Try.prog = true := by kernel_rfl
set_option maxRecDepth 100000 in
theorem lifted (os : Os) (started : os.Started) (H : Type) (enc : TypeId × Value → H) :
  ReturnsInHanded {} Try.checked os 14 .any (Rows.coverOwnSpec.pre6 enc Try.prog Try.f14 Rows.coverOwnRow.domain false) (Rows.coverOwnSpec.post enc Try.prog Try.f14 false true false false) := by
 refine returnsInHanded_of_change_sized (C := Try.checked) own started (by kernel_rfl) Try.func14
  (ChangeSpec.witness6 (enc := enc) (C := Try.checked) false ⟨#[], #[.slice none 0 0, .slice none 0 0], []⟩ 8 (by kernel_rfl) (by kernel_rfl) (by kernel_rfl) (by kernel_rfl)) ?_
 intro W base args ds gs before hval0 hW hcnd hsz0 _
 have hval : ∀ (j : Nat) t v, Try.f14.params[j]? = some t → args[j]? = some v → Value.okWide Try.prog W .any base t v := hval0
 have hW' := hW
 obtain ⟨p, q, hA0, hV, rfl, hfz, hnd⟩ := hW
 have hA : DataW.TrodAll enc Try.prog W 0 (fun _ => true) true Try.f14.params.toList args.toList ds p := hA0
 rw [Try.params14] at hA hval
 obtain ⟨v0, vs0, d0, ds0, p0, q0, hargs, rfl, rfl, h0, r0⟩ := trodAll_cons hA
 obtain ⟨v1, vs1, d1, ds1, p1, q1, rfl, rfl, rfl, h1, r1⟩ := trodAll_cons r0
 obtain ⟨rfl, rfl, rfl⟩ := trodAll_nil r1
 obtain rfl : args = #[v0, v1] := by cases args; simp_all
 obtain ⟨rfl, rfl⟩ := trodVars_none hV
 have k0 := h0
 have lt0 : ∀ x ∈ p0, x.block < W.heap.size := by obtain ⟨m, hm⟩ := k0; exact DataW.trod_lt m _ _ _ hm
 obtain ⟨a0, len0, cap0, rfl⟩ := okWide_slice Try.underlying37 (hval 0 37 v0 rfl rfl)
 obtain ⟨le0, lm0, Z0, wf0, cz0⟩ := open_recs Try.underlying37 Try.underlying28 (by kernel_rfl) (by kernel_rfl) (by intro f hf; simp at hf; rcases hf with rfl | rfl <;> exact Try.underlying3) h0
 obtain ⟨l0, rfl, hr0, hm0, hI0⟩ := slice28 lm0 wf0 cz0
 have k1 := h1
 have lt1 : ∀ x ∈ p1, x.block < W.heap.size := by obtain ⟨m, hm⟩ := k1; exact DataW.trod_lt m _ _ _ hm
 obtain ⟨a1, len1, cap1, rfl⟩ := okWide_slice Try.underlying22 (hval 1 22 v1 rfl rfl)
 obtain ⟨le1, lm1, Z1, wf1, cz1⟩ := open_recs Try.underlying22 Try.underlying48 (by kernel_rfl) (by kernel_rfl) (by intro f hf; simp at hf; rcases hf with rfl | rfl | rfl | rfl <;> exact Try.underlying3) h1
 obtain ⟨l1, rfl, hr1, hm1, hI1⟩ := slice48 lm1 wf1 cz1
 clear hA0 hval0 hsz0
 obtain ⟨k, hk⟩ := Pure.CoverOwn l0 hm0 hI0 l1 hm1 hI1
 refine (tickinglaw01_CoverOwn.calls k _ _ l0 _ _ l1 true W hr0 le0 hr1 le1 rfl hk).mono fun e W' he' => ?_
 obtain ⟨he, bel⟩ := he'
 subst he
 exact ⟨_, rfl, _, _, _, [], _, [], hW', trodAll_mk1 (shut_bool Try.underlying4 _), (trodAll_cons_mk (Below.trod laidOut (by kernel_rfl) (of_decide_eq_true (by kernel_rfl)) k0 bel lt0) (trodAll_cons_mk (Below.trod laidOut (by kernel_rfl) (of_decide_eq_true (by kernel_rfl)) k1 bel lt1) trodAll_mk0)), rfl, bel.frame _, fun h => by cases h⟩
theorem over : Rows.coverOwnRow.holds Try.pinned (OpenSpec.ofChange Rows.coverOwnSpec) :=
 OpenClaim.holds_of_wide 14 Try.f14 rfl rfl rfl rfl rfl rfl rfl ⟨rfl, rfl, rfl, rfl, rfl⟩ rfl rfl rfl rfl rfl (by kernel_rfl) Try.func14 (by kernel_rfl)
  (of_decide_eq_true (by kernel_rfl)) (by unfold Func.isWrapper; first | (rw [if_pos (by decide +kernel)]; kernel_rfl) | (rw [if_neg (by decide +kernel)]; exact ⟨rfl, rfl⟩))
  (fun os started H enc _ => lifted os started H enc)
theorem proved : Rows.CoverOwnSaid := over
#print axioms proved
end Go.Proofs.Ytplhfbkejngioaa.coverOwn
namespace Go.Proofs.Ytplhfbkejngioaa
theorem coverOwn_holds : Rows.CoverOwnSaid := coverOwn.proved
end Go.Proofs.Ytplhfbkejngioaa
