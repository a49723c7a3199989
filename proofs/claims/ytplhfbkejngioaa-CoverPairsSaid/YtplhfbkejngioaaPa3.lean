/- Texts of this claim's session, put together: X12, X13, X14, X15, X18. -/
import Derived.Test.YtplhfbkejngioaaBc0
import Derived.Test.YtplhfbkejngioaaBc4
import Derived.Test.YtplhfbkejngioaaBc13
import Derived.Test.YtplhfbkejngioaaPa0
import Derived.Test.YtplhfbkejngioaaBc12
import Derived.Test.YtplhfbkejngioaaVWords
import Derived.Test.YtplhfbkejngioaaVLast
import Derived.Test.YtplhfbkejngioaaVTab
import Derived.Test.YtplhfbkejngioaaVRepsOne
namespace Go.Proofs.Ytplhfbkejngioaa.X
open Go.RowKit Go.Proofs.YtplhfbkejngioaaW.PrintWords Go.Proofs.YtplhfbkejngioaaW.PrintLast Go.Proofs.Ytplhfbkejngioaa.S
attribute [local go_sem] max2_int min2_int max_two min_two
set_option linter.unusedVariables false
set_option linter.unusedSimpArgs false
end Go.Proofs.Ytplhfbkejngioaa.X
namespace Go.Proofs.Ytplhfbkejngioaa.X
open Go.RowKit Go.Proofs.YtplhfbkejngioaaW.PrintWords Go.Proofs.YtplhfbkejngioaaW.PrintLast Go.Proofs.Ytplhfbkejngioaa.S
attribute [local go_sem] max2_int min2_int max_two min_two
set_option linter.unusedVariables false
set_option linter.unusedSimpArgs false
end Go.Proofs.Ytplhfbkejngioaa.X
namespace Go.Proofs.Ytplhfbkejngioaa.X
open Go.RowKit Go.Proofs.YtplhfbkejngioaaW.PrintWords Go.Proofs.YtplhfbkejngioaaW.PrintLast Go.Proofs.Ytplhfbkejngioaa.S
attribute [local go_sem] max2_int min2_int max_two min_two
set_option linter.unusedVariables false
set_option linter.unusedSimpArgs false
end Go.Proofs.Ytplhfbkejngioaa.X
namespace Go.Proofs.Ytplhfbkejngioaa.X
open Go.RowKit Go.Proofs.YtplhfbkejngioaaW.PrintWords Go.Proofs.YtplhfbkejngioaaW.PrintLast Go.Proofs.Ytplhfbkejngioaa.S
attribute [local go_sem] max2_int min2_int max_two min_two
set_option linter.unusedVariables false
set_option linter.unusedSimpArgs false
attribute [local go_sem high] eqA28
def tickinglaw01_mod.f (a0 : Int) (a1 : Int) : Option (Int) := if (IntKind.u64.wrap (a1)) = 0 then (none) else (some (wrap64 (Int.tmod (IntKind.u64.wrap (a0)) (IntKind.u64.wrap (a1)))))
set_option maxHeartbeats 8000000 in
set_option maxRecDepth 100000 in
theorem tickinglaw01_mod.calls (a0 : Int) (a1 : Int) (r : Int) (w : World) (h : tickinglaw01_mod.f a0 a1 = some r) :
  Calls Try.prog 29 #[.int .i64 a0, .int .i64 a1] w fun e w' => e = .returned (.int .i64 r) ∧ Drawn0 w w' := by
 have H : (if (IntKind.u64.wrap (a1)) = 0 then (none) else (some (wrap64 (Int.tmod (IntKind.u64.wrap (a0)) (IntKind.u64.wrap (a1)))))) = some r := h
 clear h
 by_cases c3 : (IntKind.u64.wrap (a1)) = 0
 ·rw [if_pos c3] at H
  exact absurd H (by simp)
 ·rw [if_neg c3] at H
  have c3b0 : ((IntKind.u64.wrap (a1)) == 0) = false := beq_eq_false_iff_ne.mpr c3
  have c3b1 : ((IntKind.u64.wrap (a1)) != 0) = true := bne_iff_ne.mpr c3
  obtain rfl := Option.some.inj H
  go_enter Try.func29, Try.ntmps29
  go_wp2
  go_ret
  exact ⟨by first | rfl | (simp; done) | (simp [*]; done), by repeat (first | exact Drawn0.refl _ | apply Drawn0.step)⟩
def tickinglaw01_near.f (a0 : Int) (a1 : Int) : Option (Int) := if a0 < (wrap64 (-a1)) then ((tickinglaw01_mod.f a0 (wrap64 ((wrap64 (2 * a1)) + 1))).bind fun t342 => (some (wrap64 (t342 - a1)))) else (if a0 > a1 then ((tickinglaw01_mod.f a0 (wrap64 ((wrap64 (2 * a1)) + 1))).bind fun t343 => (some (wrap64 (t343 - a1)))) else (some a0))
set_option maxHeartbeats 8000000 in
set_option maxRecDepth 100000 in
theorem tickinglaw01_near.calls (a0 : Int) (a1 : Int) (r : Int) (w : World) (h : tickinglaw01_near.f a0 a1 = some r) :
  Calls Try.prog 35 #[.int .i64 a0, .int .i64 a1] w fun e w' => e = .returned (.int .i64 r) ∧ Drawn0 w w' := by
 have H : (if a0 < (wrap64 (-a1)) then ((tickinglaw01_mod.f a0 (wrap64 ((wrap64 (2 * a1)) + 1))).bind fun t342 => (some (wrap64 (t342 - a1)))) else (if a0 > a1 then ((tickinglaw01_mod.f a0 (wrap64 ((wrap64 (2 * a1)) + 1))).bind fun t343 => (some (wrap64 (t343 - a1)))) else (some a0))) = some r := h
 clear h
 by_cases c3 : a0 < (wrap64 (-a1))
 ·rw [if_pos c3] at H
  have c3b0 : decide (a0 < (wrap64 (-a1))) = true := decide_eq_true c3
  clear c3
  replace H := Option.bind_eq_some_iff.mp H
  obtain ⟨t342, A40, H⟩ := H
  replace H : (some (wrap64 (t342 - a1))) = some r := H
  have A4 := Aside0.mk A40
  clear A40
  obtain rfl := Option.some.inj H
  go_enter Try.func35, Try.ntmps35
  go_wp2_with (first | ((with_reducible refine gate_callee (f := 29) rfl ?_); refine goesL_ (some 18) rfl rfl Try.func29 (by kernel_rfl) rfl #[.int .i64 a0, .int .i64 (wrap64 ((wrap64 (2 * a1)) + 1))] rfl (by (try simp only [List.map_toArray, List.map_cons, List.map_nil]); first | done | rfl | (simp only [List.length_drop, List.length_take]; rfl)) ?_; (with_reducible refine (tickinglaw01_mod.calls a0 (wrap64 ((wrap64 (2 * a1)) + 1)) t342 _ A4.out).mono ?_); rintro e w' ⟨rfl, ⟨nd, rfl⟩⟩; refine ⟨_, rfl, ?_⟩))
  go_ret
  exact ⟨by first | rfl | (simp; done) | (simp [*]; done), by repeat (first | exact Drawn0.refl _ | apply Drawn0.step)⟩
 ·rw [if_neg c3] at H
  have c3b0 : decide (a0 < (wrap64 (-a1))) = false := decide_eq_false c3
  clear c3
  by_cases c5 : a0 > a1
  ·rw [if_pos c5] at H
   have c5b0 : decide (a1 < a0) = true := decide_eq_true c5
   clear c5
   replace H := Option.bind_eq_some_iff.mp H
   obtain ⟨t343, A60, H⟩ := H
   replace H : (some (wrap64 (t343 - a1))) = some r := H
   have A6 := Aside0.mk A60
   clear A60
   obtain rfl := Option.some.inj H
   go_enter Try.func35, Try.ntmps35
   go_wp2_with (first | ((with_reducible refine gate_callee (f := 29) rfl ?_); refine goesL_ (some 18) rfl rfl Try.func29 (by kernel_rfl) rfl #[.int .i64 a0, .int .i64 (wrap64 ((wrap64 (2 * a1)) + 1))] rfl (by (try simp only [List.map_toArray, List.map_cons, List.map_nil]); first | done | rfl | (simp only [List.length_drop, List.length_take]; rfl)) ?_; (with_reducible refine (tickinglaw01_mod.calls a0 (wrap64 ((wrap64 (2 * a1)) + 1)) t343 _ A6.out).mono ?_); rintro e w' ⟨rfl, ⟨nd, rfl⟩⟩; refine ⟨_, rfl, ?_⟩))
   go_ret
   exact ⟨by first | rfl | (simp; done) | (simp [*]; done), by repeat (first | exact Drawn0.refl _ | apply Drawn0.step)⟩
  ·rw [if_neg c5] at H
   have c5b0 : decide (a1 < a0) = false := decide_eq_false c5
   clear c5
   obtain rfl := Option.some.inj H
   go_enter Try.func35, Try.ntmps35
   go_wp2
   go_ret
   exact ⟨by first | rfl | (simp; done) | (simp [*]; done), by repeat (first | exact Drawn0.refl _ | apply Drawn0.step)⟩
end Go.Proofs.Ytplhfbkejngioaa.X
namespace Go.Proofs.Ytplhfbkejngioaa.X
open Go.RowKit Go.Proofs.YtplhfbkejngioaaW.PrintWords Go.Proofs.YtplhfbkejngioaaW.PrintLast Go.Proofs.Ytplhfbkejngioaa.S
attribute [local go_sem] max2_int min2_int max_two min_two
set_option linter.unusedVariables false
set_option linter.unusedSimpArgs false
mutual
def tickinglaw01_tamed.l0 : Nat → List (S48) → Int → Int → List (S48) → Int → Option ((List (S48)))
 | 0, _, _, _, _, _ => none
 | k + 1, x0, x1, x2, x7, x8 => if x8 < (x0.length : Int) then (tickinglaw01_tamed.j1 k x0 x1 x2 x7 x8 (decide (x8 < x1))) else (tickinglaw01_tamed.j1 k x0 x1 x2 x7 x8 false)
def tickinglaw01_tamed.j1 : Nat → List (S48) → Int → Int → List (S48) → Int → Bool → Option ((List (S48)))
 | 0, _, _, _, _, _, _ => none
 | k + 1, x0, x1, x2, x7, x8, x18 => if x18 = true then (if 0 ≤ x8 then (if x8 < (x0.length : Int) then ((tickinglaw01_near.f ((rd_T48 x0 x8).f0) x2).bind fun t433 => ((tickinglaw01_near.f ((rd_T48 x0 x8).f1) x2).bind fun t435 => ((tickinglaw01_near.f ((rd_T48 x0 x8).f2) x2).bind fun t437 => ((tickinglaw01_near.f ((rd_T48 x0 x8).f3) x2).bind fun t439 => (if t433 > t437 then (tickinglaw01_tamed.j2 k x0 x1 x2 x7 x8 t437 t435 t433 t439) else (tickinglaw01_tamed.j2 k x0 x1 x2 x7 x8 t433 t435 t437 t439)))))) else (none)) else (none)) else (some x7)
def tickinglaw01_tamed.j2 : Nat → List (S48) → Int → Int → List (S48) → Int → Int → Int → Int → Int → Option ((List (S48)))
 | 0, _, _, _, _, _, _, _, _, _ => none
 | k + 1, x0, x1, x2, x7, x8, x441000, x441001, x441002, x441003 => if x441001 > x441003 then ((tickingref01_Rect.f x441000 x441003 x441002 x441001).bind fun t441 => (if t441 = true then (if x7.length < 4398046511104 then (tickinglaw01_tamed.l0 k x0 x1 x2 (x7 ++ [(⟨x441000, x441003, x441002, x441001⟩ : S48)]) (wrap64 (x8 + 1))) else (none)) else (tickinglaw01_tamed.l0 k x0 x1 x2 x7 (wrap64 (x8 + 1))))) else ((tickingref01_Rect.f x441000 x441001 x441002 x441003).bind fun t445 => (if t445 = true then (if x7.length < 4398046511104 then (tickinglaw01_tamed.l0 k x0 x1 x2 (x7 ++ [(⟨x441000, x441001, x441002, x441003⟩ : S48)]) (wrap64 (x8 + 1))) else (none)) else (tickinglaw01_tamed.l0 k x0 x1 x2 x7 (wrap64 (x8 + 1)))))
end
def tickinglaw01_tamed.f (k : Nat) (l0 : List (S48)) (a1 : Int) (a2 : Int) : Option ((List (S48))) := tickinglaw01_tamed.l0 k l0 a1 a2 ([] : List (S48)) 0
theorem tickinglaw01_tamed.mono_l : ∀ k, (∀ y0 y1 y2 y3 y4, LeO (tickinglaw01_tamed.l0 k y0 y1 y2 y3 y4) (tickinglaw01_tamed.l0 (k + 1) y0 y1 y2 y3 y4)) ∧ (∀ y0 y1 y2 y3 y4 y5, LeO (tickinglaw01_tamed.j1 k y0 y1 y2 y3 y4 y5) (tickinglaw01_tamed.j1 (k + 1) y0 y1 y2 y3 y4 y5)) ∧ (∀ y0 y1 y2 y3 y4 y5 y6 y7 y8, LeO (tickinglaw01_tamed.j2 k y0 y1 y2 y3 y4 y5 y6 y7 y8) (tickinglaw01_tamed.j2 (k + 1) y0 y1 y2 y3 y4 y5 y6 y7 y8))
 | 0 => ⟨fun _ _ _ _ _ r h => by simp [tickinglaw01_tamed.l0] at h, fun _ _ _ _ _ _ r h => by simp [tickinglaw01_tamed.j1] at h, fun _ _ _ _ _ _ _ _ _ r h => by simp [tickinglaw01_tamed.j2] at h⟩
 | k + 1 => by
  obtain ⟨ih0, ih1, ih2⟩ := tickinglaw01_tamed.mono_l k
  refine ⟨?_, ?_, ?_⟩
  ·intro y0 y1 y2 y3 y4
   unfold tickinglaw01_tamed.l0
   repeat' first
   | (with_reducible exact ih0 _ _ _ _ _)
   | (with_reducible exact ih1 _ _ _ _ _ _)
   | (with_reducible exact ih2 _ _ _ _ _ _ _ _ _)
   | (with_reducible exact LeO.refl _)
   | (with_reducible exact LeO.none _)
   | (with_reducible refine LeO.ite ?_ ?_)
   | (with_reducible refine LeO.bind ?_ (fun _ => ?_))
   | exact ih0 _ _ _ _ _
   | exact ih1 _ _ _ _ _ _
   | exact ih2 _ _ _ _ _ _ _ _ _
   | exact LeO.none _
   | refine LeO.ite ?_ ?_
   | refine LeO.bind ?_ (fun _ => ?_)
  ·intro y0 y1 y2 y3 y4 y5
   unfold tickinglaw01_tamed.j1
   repeat' first
   | (with_reducible exact ih0 _ _ _ _ _)
   | (with_reducible exact ih1 _ _ _ _ _ _)
   | (with_reducible exact ih2 _ _ _ _ _ _ _ _ _)
   | (with_reducible exact LeO.refl _)
   | (with_reducible exact LeO.none _)
   | (with_reducible refine LeO.ite ?_ ?_)
   | (with_reducible refine LeO.bind ?_ (fun _ => ?_))
   | exact ih0 _ _ _ _ _
   | exact ih1 _ _ _ _ _ _
   | exact ih2 _ _ _ _ _ _ _ _ _
   | exact LeO.none _
   | refine LeO.ite ?_ ?_
   | refine LeO.bind ?_ (fun _ => ?_)
  ·intro y0 y1 y2 y3 y4 y5 y6 y7 y8
   unfold tickinglaw01_tamed.j2
   repeat' first
   | (with_reducible exact ih0 _ _ _ _ _)
   | (with_reducible exact ih1 _ _ _ _ _ _)
   | (with_reducible exact ih2 _ _ _ _ _ _ _ _ _)
   | (with_reducible exact LeO.refl _)
   | (with_reducible exact LeO.none _)
   | (with_reducible refine LeO.ite ?_ ?_)
   | (with_reducible refine LeO.bind ?_ (fun _ => ?_))
   | exact ih0 _ _ _ _ _
   | exact ih1 _ _ _ _ _ _
   | exact ih2 _ _ _ _ _ _ _ _ _
   | exact LeO.none _
   | refine LeO.ite ?_ ?_
   | refine LeO.bind ?_ (fun _ => ?_)
theorem tickinglaw01_tamed.mono : ∀ a0 a1 a2 k, LeO (tickinglaw01_tamed.f k a0 a1 a2) (tickinglaw01_tamed.f (k + 1) a0 a1 a2) := by
 intro a0 a1 a2 k
 obtain ⟨ih0, ih1, ih2⟩ := tickinglaw01_tamed.mono_l k
 unfold tickinglaw01_tamed.f
 repeat' first
   | (with_reducible exact ih0 _ _ _ _ _)
   | (with_reducible exact ih1 _ _ _ _ _ _)
   | (with_reducible exact ih2 _ _ _ _ _ _ _ _ _)
   | (with_reducible exact LeO.refl _)
   | (with_reducible exact LeO.none _)
   | (with_reducible refine LeO.ite ?_ ?_)
   | (with_reducible refine LeO.bind ?_ (fun _ => ?_))
   | exact ih0 _ _ _ _ _
   | exact ih1 _ _ _ _ _ _
   | exact ih2 _ _ _ _ _ _ _ _ _
   | exact LeO.none _
   | refine LeO.ite ?_ ?_
   | refine LeO.bind ?_ (fun _ => ?_)
def tickinglaw01_tamed.T5 : Bool × List (List Nat × List Nat) := (true, [([], []), ([], []), ([0, 1], [0, 1]), ([2], [2]), ([3], [3]), ([], []), ([4, 5], [4, 5]), ([], []), ([], []), ([7, 8], [7, 8]), ([9], [9]), ([10], [10]), ([], []), ([11, 12, 6], [11, 12]), ([], []), ([], []), ([14, 15], [14, 15]), ([16], [16]), ([17], [17]), ([], []), ([18, 19, 13], [18, 19]), ([], []), ([], []), ([21, 22], [21, 22]), ([23], [23]), ([24], [24]), ([], []), ([25, 26, 20], [25, 26]), ([6, 13, 20, 27], [6, 13, 20, 27]), ([], []), ([29, 28, 27, 0, 1, 2, 3, 4, 5, 6, 7, 8, 9, 10, 11, 12, 13, 14, 15, 16, 17, 18, 19, 20, 21, 22, 23, 24, 25, 26, 27, 28, 29], [28, 29])])
def tickinglaw01_tamed.B5 : List Nat := [0, 0, 3, 7, 15, 0, 63, 0, 0, 384, 896, 1920, 0, 8191, 0, 0, 49152, 114688, 245760, 0, 1048575, 0, 0, 6291456, 14680064, 31457280, 0, 134217727, 268435455, 0, 1073741823]
theorem tickinglaw01_tamed.tab5 : rtab .any (opsOf Try.f28 5) = tickinglaw01_tamed.T5 := by kernel_rfl
theorem tickinglaw01_tamed.bits5 : waitsOk tickinglaw01_tamed.T5.2 tickinglaw01_tamed.B5 = true := by kernel_rfl
set_option maxHeartbeats 8000000 in
set_option maxRecDepth 100000 in
theorem tickinglaw01_tamed.calls (k : Nat) (A0 : Option Addr) (c0 : Nat) (l0 : List (S48)) (a1 : Int) (a2 : Int) (r : List (S48)) (w : World) (hr0 : Kd.C k48 w A0 l0.length l0) (hc0 : l0.length ≤ c0) (h : tickinglaw01_tamed.f k l0 a1 a2 = some r) :
  Calls Try.prog 28 #[.slice A0 l0.length c0, .int .i64 a1, .int .i64 a2] w fun e w' => ∃ v0_ : Value, e = .returned (v0_) ∧ Kd.R k48 48 w' w.heap.size (fun _ => True) v0_ r ∧ Below w.heap.size w w' := by
 have hu48 := Try.underlying48
 have HR0 := Aside0.mk hr0
 have HC0 := Aside0.mk hc0
 clear hr0 hc0
 have HB := Aside0.mk (Below.refl w.heap.size w)
 have H : (tickinglaw01_tamed.l0 k l0 a1 a2 ([] : List (S48)) 0) = some r := h
 clear h
 have H' := Aside0.mk H
 clear H
 go_enter Try.func28, Try.ntmps28
 go_wp2
 go_loopg [7, 8] k (fun kq v7 v8 w' => ∃ (x7_1 : List (S48)) (x8_1 : Int), v8 = .int .i64 x8_1 ∧ Aside0 (tickinglaw01_tamed.l0 kq l0 a1 a2 x7_1 x8_1 = some r) ∧ Aside0 (kq ≤ k) ∧ Aside0 (Kd.R k48 48 w' w.heap.size (fun _ => True) v7 x7_1) ∧ Aside0 (Below w.heap.size w w'))
 case atStart => exact ⟨(([] : List (S48))), (0), (by first | rfl | (simp; done) | (simp [*]; done)), H', ⟨Nat.le_refl _⟩, ⟨by first | exact Kd.R_nil _ _ _ _ _ | exact Kd.N_nil _ _ _ _ _ | exact Kd.V_nil _ _ _ _ _ | exact Kd.Q_nil _ _ _ _ _ | exact Kd.S_nil _ _ _ _ _⟩, ⟨HBz⟩⟩
 case round =>
  clear H'
  try clear c2
  try clear p2
  obtain ⟨x7_1, x8_1, rfl, HA, HK1, HO_7, HB⟩ := hrel
  cases gk with
  | zero => exact absurd HA.out (by simp [tickinglaw01_tamed.l0])
  | succ k1 =>
   have H := HA.out
   clear HA
   simp only [tickinglaw01_tamed.l0] at H
   have HC4 := Aside0.mk H
   clear H
   go_upto_region 3 with (fail)
   go_cut [18] (fun v18 wc => ∃ (kq : Nat) (x18_3 : Bool), v18 = .bool x18_3 ∧ Aside0 (tickinglaw01_tamed.j1 kq l0 a1 a2 x7_1 x8_1 x18_3 = some r) ∧ Aside0 (kq ≤ k1) ∧ Aside0 (Kd.R k48 48 wc w.heap.size (fun _ => True) u7 x7_1) ∧ Aside0 (Below w.heap.size w wc))
   case first =>
    have H := HC4.out
    clear HC4
    by_cases c5 : x8_1 < (l0.length : Int)
    ·rw [if_pos c5] at H
     have c5b0 : decide (x8_1 < (l0.length : Int)) = true := decide_eq_true c5
     clear c5
     (first | rw [c5b0] | (simp only [i64_w, i32_w]; rw [c5b0]) | skip)
     have H' := Aside0.mk H
     clear H
     go_wp2
     go_meet
     case rel => exact ⟨_, (decide (x8_1 < a1)), (by first | rfl | (simp; done) | (simp [*]; done)), H', ⟨by have := HK1.out; first | omega | exact Nat.le_refl _⟩, ⟨by (with_reducible repeat (first | apply Kd.R_alloc | apply Kd.R_drewN | apply Kd.R_drew)); exact HO_7.out⟩, ⟨HBz⟩⟩
    ·rw [if_neg c5] at H
     have c5b0 : decide (x8_1 < (l0.length : Int)) = false := decide_eq_false c5
     clear c5
     (first | rw [c5b0] | (simp only [i64_w, i32_w]; rw [c5b0]) | skip)
     have H' := Aside0.mk H
     clear H
     go_wp2
     go_meet
     case rel => exact ⟨_, (false), (by first | rfl | (simp; done) | (simp [*]; done)), H', ⟨by have := HK1.out; first | omega | exact Nat.le_refl _⟩, ⟨by (with_reducible repeat (first | apply Kd.R_alloc | apply Kd.R_drewN | apply Kd.R_drew)); exact HO_7.out⟩, ⟨HBz⟩⟩
   case rest =>
    clear HC4
    try clear c2
    try clear p2
    try clear c5
    try clear c5b0
    try clear p2
    obtain ⟨kq, x18_3, rfl, HA, HJ3, HO_7, HB⟩ := hcut
    cases kq with
    | zero => exact absurd HA.out (by simp [tickinglaw01_tamed.j1])
    | succ kj3 =>
     have H := HA.out
     clear HA
     simp only [tickinglaw01_tamed.j1] at H
     by_cases c6 : x18_3 = true
     ·subst c6
      have H1 : (if 0 ≤ x8_1 then (if x8_1 < (l0.length : Int) then ((tickinglaw01_near.f ((rd_T48 l0 x8_1).f0) a2).bind fun t433 => ((tickinglaw01_near.f ((rd_T48 l0 x8_1).f1) a2).bind fun t435 => ((tickinglaw01_near.f ((rd_T48 l0 x8_1).f2) a2).bind fun t437 => ((tickinglaw01_near.f ((rd_T48 l0 x8_1).f3) a2).bind fun t439 => (if t433 > t437 then (tickinglaw01_tamed.j2 kj3 l0 a1 a2 x7_1 x8_1 t437 t435 t433 t439) else (tickinglaw01_tamed.j2 kj3 l0 a1 a2 x7_1 x8_1 t433 t435 t437 t439)))))) else (none)) else (none)) = some r := by rw [if_pos rfl] at H; exact H
      clear H
      have H := H1
      clear H1
      by_cases c7 : 0 ≤ x8_1
      ·rw [if_pos c7] at H
       have c7b0 : decide (0 ≤ x8_1) = true := decide_eq_true c7
       clear c7
       by_cases c8 : x8_1 < (l0.length : Int)
       ·rw [if_pos c8] at H
        have c8b0 : decide (x8_1 < (l0.length : Int)) = true := decide_eq_true c8
        clear c8
        replace H := Option.bind_eq_some_iff.mp H
        obtain ⟨t433, A90, H⟩ := H
        replace H : ((tickinglaw01_near.f ((rd_T48 l0 x8_1).f1) a2).bind fun t435 => ((tickinglaw01_near.f ((rd_T48 l0 x8_1).f2) a2).bind fun t437 => ((tickinglaw01_near.f ((rd_T48 l0 x8_1).f3) a2).bind fun t439 => (if t433 > t437 then (tickinglaw01_tamed.j2 kj3 l0 a1 a2 x7_1 x8_1 t437 t435 t433 t439) else (tickinglaw01_tamed.j2 kj3 l0 a1 a2 x7_1 x8_1 t433 t435 t437 t439))))) = some r := H
        have A9 := Aside0.mk A90
        clear A90
        replace H := Option.bind_eq_some_iff.mp H
        obtain ⟨t435, A100, H⟩ := H
        replace H : ((tickinglaw01_near.f ((rd_T48 l0 x8_1).f2) a2).bind fun t437 => ((tickinglaw01_near.f ((rd_T48 l0 x8_1).f3) a2).bind fun t439 => (if t433 > t437 then (tickinglaw01_tamed.j2 kj3 l0 a1 a2 x7_1 x8_1 t437 t435 t433 t439) else (tickinglaw01_tamed.j2 kj3 l0 a1 a2 x7_1 x8_1 t433 t435 t437 t439)))) = some r := H
        have A10 := Aside0.mk A100
        clear A100
        replace H := Option.bind_eq_some_iff.mp H
        obtain ⟨t437, A110, H⟩ := H
        replace H : ((tickinglaw01_near.f ((rd_T48 l0 x8_1).f3) a2).bind fun t439 => (if t433 > t437 then (tickinglaw01_tamed.j2 kj3 l0 a1 a2 x7_1 x8_1 t437 t435 t433 t439) else (tickinglaw01_tamed.j2 kj3 l0 a1 a2 x7_1 x8_1 t433 t435 t437 t439))) = some r := H
        have A11 := Aside0.mk A110
        clear A110
        replace H := Option.bind_eq_some_iff.mp H
        obtain ⟨t439, A120, H⟩ := H
        replace H : (if t433 > t437 then (tickinglaw01_tamed.j2 kj3 l0 a1 a2 x7_1 x8_1 t437 t435 t433 t439) else (tickinglaw01_tamed.j2 kj3 l0 a1 a2 x7_1 x8_1 t433 t435 t437 t439)) = some r := H
        have A12 := Aside0.mk A120
        clear A120
        have HC13 := Aside0.mk H
        clear H
        try go_wp2
        have n0_ := Aside0.mk (Kd.R_drew HO_7.out)
        have n1_ := Aside0.mk (below_drew1 HB.out)
        clear HO_7
        clear HB
        have HO_7 := n0_
        have HB := n1_
        clear n0_ n1_
        have p432 : 0 ≤ (x8_1 : Int) := of_decide_eq_true (by first | (with_reducible assumption) | assumption)
        have q432 : x8_1 < (l0.length : Int) := of_decide_eq_true (by first | (with_reducible assumption) | assumption)
        obtain ⟨ad432, e432, hx432_0, hx432_1, hx432_2, hx432_3⟩ := at_T48 HR0.out x8_1 p432 q432
        have hw432_3 := hx432_3
        have hw432_2 := hx432_2
        have hw432_1 := hx432_1
        have hw432_0 := hx432_0
        cases e432
        replace hx432_0 := (HB.out.cell (World.block_lt_of_cell? w _ hx432_0)).trans hx432_0
        replace hx432_1 := (HB.out.cell (World.block_lt_of_cell? w _ hx432_1)).trans hx432_1
        replace hx432_2 := (HB.out.cell (World.block_lt_of_cell? w _ hx432_2)).trans hx432_2
        replace hx432_3 := (HB.out.cell (World.block_lt_of_cell? w _ hx432_3)).trans hx432_3
        replace p432 := eq_true p432
        replace q432 := eq_true q432
        have p434 : 0 ≤ (x8_1 : Int) := of_decide_eq_true (by first | (with_reducible assumption) | assumption)
        have q434 : x8_1 < (l0.length : Int) := of_decide_eq_true (by first | (with_reducible assumption) | assumption)
        obtain ⟨ad434, e434, hx434_0, hx434_1, hx434_2, hx434_3⟩ := at_T48 HR0.out x8_1 p434 q434
        have hw434_3 := hx434_3
        have hw434_2 := hx434_2
        have hw434_1 := hx434_1
        have hw434_0 := hx434_0
        obtain rfl : ad432 = ad434 := (by injection e434)
        replace hx434_0 := (HB.out.cell (World.block_lt_of_cell? w _ hx434_0)).trans hx434_0
        replace hx434_1 := (HB.out.cell (World.block_lt_of_cell? w _ hx434_1)).trans hx434_1
        replace hx434_2 := (HB.out.cell (World.block_lt_of_cell? w _ hx434_2)).trans hx434_2
        replace hx434_3 := (HB.out.cell (World.block_lt_of_cell? w _ hx434_3)).trans hx434_3
        replace p434 := eq_true p434
        replace q434 := eq_true q434
        have p436 : 0 ≤ (x8_1 : Int) := of_decide_eq_true (by first | (with_reducible assumption) | assumption)
        have q436 : x8_1 < (l0.length : Int) := of_decide_eq_true (by first | (with_reducible assumption) | assumption)
        obtain ⟨ad436, e436, hx436_0, hx436_1, hx436_2, hx436_3⟩ := at_T48 HR0.out x8_1 p436 q436
        have hw436_3 := hx436_3
        have hw436_2 := hx436_2
        have hw436_1 := hx436_1
        have hw436_0 := hx436_0
        obtain rfl : ad432 = ad436 := (by injection e436)
        replace hx436_0 := (HB.out.cell (World.block_lt_of_cell? w _ hx436_0)).trans hx436_0
        replace hx436_1 := (HB.out.cell (World.block_lt_of_cell? w _ hx436_1)).trans hx436_1
        replace hx436_2 := (HB.out.cell (World.block_lt_of_cell? w _ hx436_2)).trans hx436_2
        replace hx436_3 := (HB.out.cell (World.block_lt_of_cell? w _ hx436_3)).trans hx436_3
        replace p436 := eq_true p436
        replace q436 := eq_true q436
        have p438 : 0 ≤ (x8_1 : Int) := of_decide_eq_true (by first | (with_reducible assumption) | assumption)
        have q438 : x8_1 < (l0.length : Int) := of_decide_eq_true (by first | (with_reducible assumption) | assumption)
        obtain ⟨ad438, e438, hx438_0, hx438_1, hx438_2, hx438_3⟩ := at_T48 HR0.out x8_1 p438 q438
        have hw438_3 := hx438_3
        have hw438_2 := hx438_2
        have hw438_1 := hx438_1
        have hw438_0 := hx438_0
        obtain rfl : ad432 = ad438 := (by injection e438)
        replace hx438_0 := (HB.out.cell (World.block_lt_of_cell? w _ hx438_0)).trans hx438_0
        replace hx438_1 := (HB.out.cell (World.block_lt_of_cell? w _ hx438_1)).trans hx438_1
        replace hx438_2 := (HB.out.cell (World.block_lt_of_cell? w _ hx438_2)).trans hx438_2
        replace hx438_3 := (HB.out.cell (World.block_lt_of_cell? w _ hx438_3)).trans hx438_3
        replace p438 := eq_true p438
        replace q438 := eq_true q438
        refine stz (fun w' => w'.cell? (ad432.add ((x8_1).toNat * 4)) = some (.int .i64 ((rd_T48 l0 x8_1).f0)) ∧ w'.cell? ⟨(ad432.add ((x8_1).toNat * 4)).block, (ad432.add ((x8_1).toNat * 4)).off + 1, none⟩ = some (.int .i64 ((rd_T48 l0 x8_1).f1)) ∧ w'.cell? ⟨(ad432.add ((x8_1).toNat * 4)).block, (ad432.add ((x8_1).toNat * 4)).off + 2, none⟩ = some (.int .i64 ((rd_T48 l0 x8_1).f2)) ∧ w'.cell? ⟨(ad432.add ((x8_1).toNat * 4)).block, (ad432.add ((x8_1).toNat * 4)).off + 3, none⟩ = some (.int .i64 ((rd_T48 l0 x8_1).f3)) ∧ w'.cell? (ad432.add ((x8_1).toNat * 4)) = some (.int .i64 ((rd_T48 l0 x8_1).f0)) ∧ w'.cell? ⟨(ad432.add ((x8_1).toNat * 4)).block, (ad432.add ((x8_1).toNat * 4)).off + 1, none⟩ = some (.int .i64 ((rd_T48 l0 x8_1).f1)) ∧ w'.cell? ⟨(ad432.add ((x8_1).toNat * 4)).block, (ad432.add ((x8_1).toNat * 4)).off + 2, none⟩ = some (.int .i64 ((rd_T48 l0 x8_1).f2)) ∧ w'.cell? ⟨(ad432.add ((x8_1).toNat * 4)).block, (ad432.add ((x8_1).toNat * 4)).off + 3, none⟩ = some (.int .i64 ((rd_T48 l0 x8_1).f3)) ∧ w'.cell? (ad432.add ((x8_1).toNat * 4)) = some (.int .i64 ((rd_T48 l0 x8_1).f0)) ∧ w'.cell? ⟨(ad432.add ((x8_1).toNat * 4)).block, (ad432.add ((x8_1).toNat * 4)).off + 1, none⟩ = some (.int .i64 ((rd_T48 l0 x8_1).f1)) ∧ w'.cell? ⟨(ad432.add ((x8_1).toNat * 4)).block, (ad432.add ((x8_1).toNat * 4)).off + 2, none⟩ = some (.int .i64 ((rd_T48 l0 x8_1).f2)) ∧ w'.cell? ⟨(ad432.add ((x8_1).toNat * 4)).block, (ad432.add ((x8_1).toNat * 4)).off + 3, none⟩ = some (.int .i64 ((rd_T48 l0 x8_1).f3)) ∧ w'.cell? (ad432.add ((x8_1).toNat * 4)) = some (.int .i64 ((rd_T48 l0 x8_1).f0)) ∧ w'.cell? ⟨(ad432.add ((x8_1).toNat * 4)).block, (ad432.add ((x8_1).toNat * 4)).off + 1, none⟩ = some (.int .i64 ((rd_T48 l0 x8_1).f1)) ∧ w'.cell? ⟨(ad432.add ((x8_1).toNat * 4)).block, (ad432.add ((x8_1).toNat * 4)).off + 2, none⟩ = some (.int .i64 ((rd_T48 l0 x8_1).f2)) ∧ w'.cell? ⟨(ad432.add ((x8_1).toNat * 4)).block, (ad432.add ((x8_1).toNat * 4)).off + 3, none⟩ = some (.int .i64 ((rd_T48 l0 x8_1).f3))) [] (bn 31 0) ⟨((HB.out.cell (World.block_lt_of_cell? w _ hw432_0)).trans hw432_0), ((HB.out.cell (World.block_lt_of_cell? w _ hw432_1)).trans hw432_1), ((HB.out.cell (World.block_lt_of_cell? w _ hw432_2)).trans hw432_2), ((HB.out.cell (World.block_lt_of_cell? w _ hw432_3)).trans hw432_3), ((HB.out.cell (World.block_lt_of_cell? w _ hw434_0)).trans hw434_0), ((HB.out.cell (World.block_lt_of_cell? w _ hw434_1)).trans hw434_1), ((HB.out.cell (World.block_lt_of_cell? w _ hw434_2)).trans hw434_2), ((HB.out.cell (World.block_lt_of_cell? w _ hw434_3)).trans hw434_3), ((HB.out.cell (World.block_lt_of_cell? w _ hw436_0)).trans hw436_0), ((HB.out.cell (World.block_lt_of_cell? w _ hw436_1)).trans hw436_1), ((HB.out.cell (World.block_lt_of_cell? w _ hw436_2)).trans hw436_2), ((HB.out.cell (World.block_lt_of_cell? w _ hw436_3)).trans hw436_3), ((HB.out.cell (World.block_lt_of_cell? w _ hw438_0)).trans hw438_0), ((HB.out.cell (World.block_lt_of_cell? w _ hw438_1)).trans hw438_1), ((HB.out.cell (World.block_lt_of_cell? w _ hw438_2)).trans hw438_2), ((HB.out.cell (World.block_lt_of_cell? w _ hw438_3)).trans hw438_3)⟩ (fun hHeld => ?_); refine with_tabW tickinglaw01_tamed.tab5 tickinglaw01_tamed.bits5 (fun HT_ HW_ => ?_)
        generalize wc.drew = w14 at HO_7 HB hx432_0 hx432_1 hx432_2 hx432_3 hx434_0 hx434_1 hx434_2 hx434_3 hx436_0 hx436_1 hx436_2 hx436_3 hx438_0 hx438_1 hx438_2 hx438_3 hHeld ⊢
        refine pT HT_.out 0 (some 21) (bn 31 1) ?_
        refine pT HT_.out 1 (some 22) (bn 31 3) ?_
        refine pT HT_.out 2 (some 23) (bn 31 7) ?_
        refine pT HT_.out 3 (some 24) (bn 31 15) ?_
        refine pT HT_.out 5 (some 26) (bn 31 47) ?_
        refine pT HT_.out 7 (some 28) (bn 31 175) ?_
        refine pT HT_.out 8 (some 29) (bn 31 431) ?_
        refine pT HT_.out 9 (some 30) (bn 31 943) ?_
        refine pT HT_.out 10 (some 31) (bn 31 1967) ?_
        refine pT HT_.out 12 (some 33) (bn 31 6063) ?_
        refine pT HT_.out 14 (some 35) (bn 31 22447) ?_
        refine pT HT_.out 15 (some 36) (bn 31 55215) ?_
        refine pT HT_.out 16 (some 37) (bn 31 120751) ?_
        refine pT HT_.out 17 (some 38) (bn 31 251823) ?_
        refine pT HT_.out 19 (some 40) (bn 31 776111) ?_
        refine pT HT_.out 21 (some 42) (bn 31 2873263) ?_
        refine pT HT_.out 22 (some 43) (bn 31 7067567) ?_
        refine pT HT_.out 23 (some 44) (bn 31 15456175) ?_
        refine pT HT_.out 24 (some 45) (bn 31 32233391) ?_
        refine pT HT_.out 26 (some 47) (bn 31 99342255) ?_
        refine tT HT_.out HW_.out 4 (some 25) (bn 31 99342271) hHeld ?_
        refine tT HT_.out HW_.out 11 (some 32) (bn 31 99344319) hHeld ?_
        refine tT HT_.out HW_.out 18 (some 39) (bn 31 99606463) hHeld ?_
        refine tT HT_.out HW_.out 25 (some 46) (bn 31 133160895) hHeld ?_
        refine join_ (σ := Nat) 1 #[true, true, true, true, true, true, true, true, true, true, true, true, true, true, true, true, true, true, true, true, true, true, true, true, true, true, true, true, true, true, false] (fun s_ => [(27, .int .i64 t433), (34, .int .i64 t435), (41, .int .i64 t437), (48, .int .i64 t439), (9, .pointer (some ⟨s_, 0, none⟩)), (49, .agg #[.int .i64 t433, .int .i64 t435, .int .i64 t437, .int .i64 t439])]) (fun s_ w' => (w'.cell? (ad432.add ((x8_1).toNat * 4)) = some (.int .i64 ((rd_T48 l0 x8_1).f0)) ∧ w'.cell? ⟨(ad432.add ((x8_1).toNat * 4)).block, (ad432.add ((x8_1).toNat * 4)).off + 1, none⟩ = some (.int .i64 ((rd_T48 l0 x8_1).f1)) ∧ w'.cell? ⟨(ad432.add ((x8_1).toNat * 4)).block, (ad432.add ((x8_1).toNat * 4)).off + 2, none⟩ = some (.int .i64 ((rd_T48 l0 x8_1).f2)) ∧ w'.cell? ⟨(ad432.add ((x8_1).toNat * 4)).block, (ad432.add ((x8_1).toNat * 4)).off + 3, none⟩ = some (.int .i64 ((rd_T48 l0 x8_1).f3)) ∧ w'.cell? (ad432.add ((x8_1).toNat * 4)) = some (.int .i64 ((rd_T48 l0 x8_1).f0)) ∧ w'.cell? ⟨(ad432.add ((x8_1).toNat * 4)).block, (ad432.add ((x8_1).toNat * 4)).off + 1, none⟩ = some (.int .i64 ((rd_T48 l0 x8_1).f1)) ∧ w'.cell? ⟨(ad432.add ((x8_1).toNat * 4)).block, (ad432.add ((x8_1).toNat * 4)).off + 2, none⟩ = some (.int .i64 ((rd_T48 l0 x8_1).f2)) ∧ w'.cell? ⟨(ad432.add ((x8_1).toNat * 4)).block, (ad432.add ((x8_1).toNat * 4)).off + 3, none⟩ = some (.int .i64 ((rd_T48 l0 x8_1).f3)) ∧ w'.cell? (ad432.add ((x8_1).toNat * 4)) = some (.int .i64 ((rd_T48 l0 x8_1).f0)) ∧ w'.cell? ⟨(ad432.add ((x8_1).toNat * 4)).block, (ad432.add ((x8_1).toNat * 4)).off + 1, none⟩ = some (.int .i64 ((rd_T48 l0 x8_1).f1)) ∧ w'.cell? ⟨(ad432.add ((x8_1).toNat * 4)).block, (ad432.add ((x8_1).toNat * 4)).off + 2, none⟩ = some (.int .i64 ((rd_T48 l0 x8_1).f2)) ∧ w'.cell? ⟨(ad432.add ((x8_1).toNat * 4)).block, (ad432.add ((x8_1).toNat * 4)).off + 3, none⟩ = some (.int .i64 ((rd_T48 l0 x8_1).f3)) ∧ w'.cell? (ad432.add ((x8_1).toNat * 4)) = some (.int .i64 ((rd_T48 l0 x8_1).f0)) ∧ w'.cell? ⟨(ad432.add ((x8_1).toNat * 4)).block, (ad432.add ((x8_1).toNat * 4)).off + 1, none⟩ = some (.int .i64 ((rd_T48 l0 x8_1).f1)) ∧ w'.cell? ⟨(ad432.add ((x8_1).toNat * 4)).block, (ad432.add ((x8_1).toNat * 4)).off + 2, none⟩ = some (.int .i64 ((rd_T48 l0 x8_1).f2)) ∧ w'.cell? ⟨(ad432.add ((x8_1).toNat * 4)).block, (ad432.add ((x8_1).toNat * 4)).off + 3, none⟩ = some (.int .i64 ((rd_T48 l0 x8_1).f3))) ∧ (Kd.R k48 48 w' w.heap.size (fun k_ => k_ ≠ s_) u7 x7_1) ∧ (w'.heap[s_]? = some (.cells #[.int .i64 0, .int .i64 0, .int .i64 0, .int .i64 0] 48 (0, 0))) ∧ (w.heap.size ≤ s_) ∧ (w.heap.size ≤ s_) ∧ (Below w.heap.size w w')) ?_ ?_
        rotate_left
        ·intro hJ6_13_20_27_29
         refine join_ (σ := Unit) 2 #[true, true, true, true, true, true, true, true, true, true, true, true, true, true, true, true, true, true, true, true, true, true, true, true, true, true, true, true, true, false, false] (fun s_ => [(27, .int .i64 t433), (34, .int .i64 t435), (41, .int .i64 t437), (48, .int .i64 t439), (49, .agg #[.int .i64 t433, .int .i64 t435, .int .i64 t437, .int .i64 t439])]) (fun s_ w' => (w'.cell? (ad432.add ((x8_1).toNat * 4)) = some (.int .i64 ((rd_T48 l0 x8_1).f0)) ∧ w'.cell? ⟨(ad432.add ((x8_1).toNat * 4)).block, (ad432.add ((x8_1).toNat * 4)).off + 1, none⟩ = some (.int .i64 ((rd_T48 l0 x8_1).f1)) ∧ w'.cell? ⟨(ad432.add ((x8_1).toNat * 4)).block, (ad432.add ((x8_1).toNat * 4)).off + 2, none⟩ = some (.int .i64 ((rd_T48 l0 x8_1).f2)) ∧ w'.cell? ⟨(ad432.add ((x8_1).toNat * 4)).block, (ad432.add ((x8_1).toNat * 4)).off + 3, none⟩ = some (.int .i64 ((rd_T48 l0 x8_1).f3)) ∧ w'.cell? (ad432.add ((x8_1).toNat * 4)) = some (.int .i64 ((rd_T48 l0 x8_1).f0)) ∧ w'.cell? ⟨(ad432.add ((x8_1).toNat * 4)).block, (ad432.add ((x8_1).toNat * 4)).off + 1, none⟩ = some (.int .i64 ((rd_T48 l0 x8_1).f1)) ∧ w'.cell? ⟨(ad432.add ((x8_1).toNat * 4)).block, (ad432.add ((x8_1).toNat * 4)).off + 2, none⟩ = some (.int .i64 ((rd_T48 l0 x8_1).f2)) ∧ w'.cell? ⟨(ad432.add ((x8_1).toNat * 4)).block, (ad432.add ((x8_1).toNat * 4)).off + 3, none⟩ = some (.int .i64 ((rd_T48 l0 x8_1).f3)) ∧ w'.cell? (ad432.add ((x8_1).toNat * 4)) = some (.int .i64 ((rd_T48 l0 x8_1).f0)) ∧ w'.cell? ⟨(ad432.add ((x8_1).toNat * 4)).block, (ad432.add ((x8_1).toNat * 4)).off + 1, none⟩ = some (.int .i64 ((rd_T48 l0 x8_1).f1)) ∧ w'.cell? ⟨(ad432.add ((x8_1).toNat * 4)).block, (ad432.add ((x8_1).toNat * 4)).off + 2, none⟩ = some (.int .i64 ((rd_T48 l0 x8_1).f2)) ∧ w'.cell? ⟨(ad432.add ((x8_1).toNat * 4)).block, (ad432.add ((x8_1).toNat * 4)).off + 3, none⟩ = some (.int .i64 ((rd_T48 l0 x8_1).f3)) ∧ w'.cell? (ad432.add ((x8_1).toNat * 4)) = some (.int .i64 ((rd_T48 l0 x8_1).f0)) ∧ w'.cell? ⟨(ad432.add ((x8_1).toNat * 4)).block, (ad432.add ((x8_1).toNat * 4)).off + 1, none⟩ = some (.int .i64 ((rd_T48 l0 x8_1).f1)) ∧ w'.cell? ⟨(ad432.add ((x8_1).toNat * 4)).block, (ad432.add ((x8_1).toNat * 4)).off + 2, none⟩ = some (.int .i64 ((rd_T48 l0 x8_1).f2)) ∧ w'.cell? ⟨(ad432.add ((x8_1).toNat * 4)).block, (ad432.add ((x8_1).toNat * 4)).off + 3, none⟩ = some (.int .i64 ((rd_T48 l0 x8_1).f3))) ∧ (Kd.R k48 48 w' w.heap.size (fun _ => True) u7 x7_1) ∧ (Below w.heap.size w w')) ?_ ?_
         rotate_left
         ·intro hJ6_13_20_27
          refine join_ (σ := Nat) 3 #[true, true, true, true, true, true, true, true, true, true, true, true, true, true, true, true, true, true, true, true, true, true, true, true, true, true, true, false, false, true, false] (fun s_ => [(27, .int .i64 t433), (34, .int .i64 t435), (41, .int .i64 t437), (9, .pointer (some ⟨s_, 0, none⟩))]) (fun s_ w' => (w'.cell? (ad432.add ((x8_1).toNat * 4)) = some (.int .i64 ((rd_T48 l0 x8_1).f0)) ∧ w'.cell? ⟨(ad432.add ((x8_1).toNat * 4)).block, (ad432.add ((x8_1).toNat * 4)).off + 1, none⟩ = some (.int .i64 ((rd_T48 l0 x8_1).f1)) ∧ w'.cell? ⟨(ad432.add ((x8_1).toNat * 4)).block, (ad432.add ((x8_1).toNat * 4)).off + 2, none⟩ = some (.int .i64 ((rd_T48 l0 x8_1).f2)) ∧ w'.cell? ⟨(ad432.add ((x8_1).toNat * 4)).block, (ad432.add ((x8_1).toNat * 4)).off + 3, none⟩ = some (.int .i64 ((rd_T48 l0 x8_1).f3)) ∧ w'.cell? (ad432.add ((x8_1).toNat * 4)) = some (.int .i64 ((rd_T48 l0 x8_1).f0)) ∧ w'.cell? ⟨(ad432.add ((x8_1).toNat * 4)).block, (ad432.add ((x8_1).toNat * 4)).off + 1, none⟩ = some (.int .i64 ((rd_T48 l0 x8_1).f1)) ∧ w'.cell? ⟨(ad432.add ((x8_1).toNat * 4)).block, (ad432.add ((x8_1).toNat * 4)).off + 2, none⟩ = some (.int .i64 ((rd_T48 l0 x8_1).f2)) ∧ w'.cell? ⟨(ad432.add ((x8_1).toNat * 4)).block, (ad432.add ((x8_1).toNat * 4)).off + 3, none⟩ = some (.int .i64 ((rd_T48 l0 x8_1).f3)) ∧ w'.cell? (ad432.add ((x8_1).toNat * 4)) = some (.int .i64 ((rd_T48 l0 x8_1).f0)) ∧ w'.cell? ⟨(ad432.add ((x8_1).toNat * 4)).block, (ad432.add ((x8_1).toNat * 4)).off + 1, none⟩ = some (.int .i64 ((rd_T48 l0 x8_1).f1)) ∧ w'.cell? ⟨(ad432.add ((x8_1).toNat * 4)).block, (ad432.add ((x8_1).toNat * 4)).off + 2, none⟩ = some (.int .i64 ((rd_T48 l0 x8_1).f2)) ∧ w'.cell? ⟨(ad432.add ((x8_1).toNat * 4)).block, (ad432.add ((x8_1).toNat * 4)).off + 3, none⟩ = some (.int .i64 ((rd_T48 l0 x8_1).f3)) ∧ w'.cell? (ad432.add ((x8_1).toNat * 4)) = some (.int .i64 ((rd_T48 l0 x8_1).f0)) ∧ w'.cell? ⟨(ad432.add ((x8_1).toNat * 4)).block, (ad432.add ((x8_1).toNat * 4)).off + 1, none⟩ = some (.int .i64 ((rd_T48 l0 x8_1).f1)) ∧ w'.cell? ⟨(ad432.add ((x8_1).toNat * 4)).block, (ad432.add ((x8_1).toNat * 4)).off + 2, none⟩ = some (.int .i64 ((rd_T48 l0 x8_1).f2)) ∧ w'.cell? ⟨(ad432.add ((x8_1).toNat * 4)).block, (ad432.add ((x8_1).toNat * 4)).off + 3, none⟩ = some (.int .i64 ((rd_T48 l0 x8_1).f3))) ∧ (Kd.R k48 48 w' w.heap.size (fun k_ => k_ ≠ s_) u7 x7_1) ∧ (w'.heap[s_]? = some (.cells #[.int .i64 0, .int .i64 0, .int .i64 0, .int .i64 0] 48 (0, 0))) ∧ (w.heap.size ≤ s_) ∧ (w.heap.size ≤ s_) ∧ (Below w.heap.size w w')) ?_ ?_
          rotate_left
          ·intro hJ6_13_20_29
           refine join_ (σ := Unit) 4 #[true, true, true, true, true, true, true, true, true, true, true, true, true, true, true, true, true, true, true, true, true, true, true, true, true, true, true, false, false, false, false] (fun s_ => [(27, .int .i64 t433), (34, .int .i64 t435), (41, .int .i64 t437)]) (fun s_ w' => (w'.cell? (ad432.add ((x8_1).toNat * 4)) = some (.int .i64 ((rd_T48 l0 x8_1).f0)) ∧ w'.cell? ⟨(ad432.add ((x8_1).toNat * 4)).block, (ad432.add ((x8_1).toNat * 4)).off + 1, none⟩ = some (.int .i64 ((rd_T48 l0 x8_1).f1)) ∧ w'.cell? ⟨(ad432.add ((x8_1).toNat * 4)).block, (ad432.add ((x8_1).toNat * 4)).off + 2, none⟩ = some (.int .i64 ((rd_T48 l0 x8_1).f2)) ∧ w'.cell? ⟨(ad432.add ((x8_1).toNat * 4)).block, (ad432.add ((x8_1).toNat * 4)).off + 3, none⟩ = some (.int .i64 ((rd_T48 l0 x8_1).f3)) ∧ w'.cell? (ad432.add ((x8_1).toNat * 4)) = some (.int .i64 ((rd_T48 l0 x8_1).f0)) ∧ w'.cell? ⟨(ad432.add ((x8_1).toNat * 4)).block, (ad432.add ((x8_1).toNat * 4)).off + 1, none⟩ = some (.int .i64 ((rd_T48 l0 x8_1).f1)) ∧ w'.cell? ⟨(ad432.add ((x8_1).toNat * 4)).block, (ad432.add ((x8_1).toNat * 4)).off + 2, none⟩ = some (.int .i64 ((rd_T48 l0 x8_1).f2)) ∧ w'.cell? ⟨(ad432.add ((x8_1).toNat * 4)).block, (ad432.add ((x8_1).toNat * 4)).off + 3, none⟩ = some (.int .i64 ((rd_T48 l0 x8_1).f3)) ∧ w'.cell? (ad432.add ((x8_1).toNat * 4)) = some (.int .i64 ((rd_T48 l0 x8_1).f0)) ∧ w'.cell? ⟨(ad432.add ((x8_1).toNat * 4)).block, (ad432.add ((x8_1).toNat * 4)).off + 1, none⟩ = some (.int .i64 ((rd_T48 l0 x8_1).f1)) ∧ w'.cell? ⟨(ad432.add ((x8_1).toNat * 4)).block, (ad432.add ((x8_1).toNat * 4)).off + 2, none⟩ = some (.int .i64 ((rd_T48 l0 x8_1).f2)) ∧ w'.cell? ⟨(ad432.add ((x8_1).toNat * 4)).block, (ad432.add ((x8_1).toNat * 4)).off + 3, none⟩ = some (.int .i64 ((rd_T48 l0 x8_1).f3)) ∧ w'.cell? (ad432.add ((x8_1).toNat * 4)) = some (.int .i64 ((rd_T48 l0 x8_1).f0)) ∧ w'.cell? ⟨(ad432.add ((x8_1).toNat * 4)).block, (ad432.add ((x8_1).toNat * 4)).off + 1, none⟩ = some (.int .i64 ((rd_T48 l0 x8_1).f1)) ∧ w'.cell? ⟨(ad432.add ((x8_1).toNat * 4)).block, (ad432.add ((x8_1).toNat * 4)).off + 2, none⟩ = some (.int .i64 ((rd_T48 l0 x8_1).f2)) ∧ w'.cell? ⟨(ad432.add ((x8_1).toNat * 4)).block, (ad432.add ((x8_1).toNat * 4)).off + 3, none⟩ = some (.int .i64 ((rd_T48 l0 x8_1).f3))) ∧ (Kd.R k48 48 w' w.heap.size (fun _ => True) u7 x7_1) ∧ (Below w.heap.size w w')) ?_ ?_
           rotate_left
           ·intro hJ6_13_20
            refine join_ (σ := Nat) 4 #[true, true, true, true, true, true, true, true, true, true, true, true, true, true, true, true, true, true, true, true, false, true, true, true, true, true, true, false, false, true, false] (fun s_ => [(27, .int .i64 t433), (34, .int .i64 t435), (9, .pointer (some ⟨s_, 0, none⟩))]) (fun s_ w' => (w'.cell? (ad432.add ((x8_1).toNat * 4)) = some (.int .i64 ((rd_T48 l0 x8_1).f0)) ∧ w'.cell? ⟨(ad432.add ((x8_1).toNat * 4)).block, (ad432.add ((x8_1).toNat * 4)).off + 1, none⟩ = some (.int .i64 ((rd_T48 l0 x8_1).f1)) ∧ w'.cell? ⟨(ad432.add ((x8_1).toNat * 4)).block, (ad432.add ((x8_1).toNat * 4)).off + 2, none⟩ = some (.int .i64 ((rd_T48 l0 x8_1).f2)) ∧ w'.cell? ⟨(ad432.add ((x8_1).toNat * 4)).block, (ad432.add ((x8_1).toNat * 4)).off + 3, none⟩ = some (.int .i64 ((rd_T48 l0 x8_1).f3)) ∧ w'.cell? (ad432.add ((x8_1).toNat * 4)) = some (.int .i64 ((rd_T48 l0 x8_1).f0)) ∧ w'.cell? ⟨(ad432.add ((x8_1).toNat * 4)).block, (ad432.add ((x8_1).toNat * 4)).off + 1, none⟩ = some (.int .i64 ((rd_T48 l0 x8_1).f1)) ∧ w'.cell? ⟨(ad432.add ((x8_1).toNat * 4)).block, (ad432.add ((x8_1).toNat * 4)).off + 2, none⟩ = some (.int .i64 ((rd_T48 l0 x8_1).f2)) ∧ w'.cell? ⟨(ad432.add ((x8_1).toNat * 4)).block, (ad432.add ((x8_1).toNat * 4)).off + 3, none⟩ = some (.int .i64 ((rd_T48 l0 x8_1).f3)) ∧ w'.cell? (ad432.add ((x8_1).toNat * 4)) = some (.int .i64 ((rd_T48 l0 x8_1).f0)) ∧ w'.cell? ⟨(ad432.add ((x8_1).toNat * 4)).block, (ad432.add ((x8_1).toNat * 4)).off + 1, none⟩ = some (.int .i64 ((rd_T48 l0 x8_1).f1)) ∧ w'.cell? ⟨(ad432.add ((x8_1).toNat * 4)).block, (ad432.add ((x8_1).toNat * 4)).off + 2, none⟩ = some (.int .i64 ((rd_T48 l0 x8_1).f2)) ∧ w'.cell? ⟨(ad432.add ((x8_1).toNat * 4)).block, (ad432.add ((x8_1).toNat * 4)).off + 3, none⟩ = some (.int .i64 ((rd_T48 l0 x8_1).f3)) ∧ w'.cell? (ad432.add ((x8_1).toNat * 4)) = some (.int .i64 ((rd_T48 l0 x8_1).f0)) ∧ w'.cell? ⟨(ad432.add ((x8_1).toNat * 4)).block, (ad432.add ((x8_1).toNat * 4)).off + 1, none⟩ = some (.int .i64 ((rd_T48 l0 x8_1).f1)) ∧ w'.cell? ⟨(ad432.add ((x8_1).toNat * 4)).block, (ad432.add ((x8_1).toNat * 4)).off + 2, none⟩ = some (.int .i64 ((rd_T48 l0 x8_1).f2)) ∧ w'.cell? ⟨(ad432.add ((x8_1).toNat * 4)).block, (ad432.add ((x8_1).toNat * 4)).off + 3, none⟩ = some (.int .i64 ((rd_T48 l0 x8_1).f3))) ∧ (Kd.R k48 48 w' w.heap.size (fun k_ => k_ ≠ s_) u7 x7_1) ∧ (w'.heap[s_]? = some (.cells #[.int .i64 0, .int .i64 0, .int .i64 0, .int .i64 0] 48 (0, 0))) ∧ (w.heap.size ≤ s_) ∧ (w.heap.size ≤ s_) ∧ (Below w.heap.size w w')) ?_ ?_
            rotate_left
            ·intro hJ6_13_29
             refine join_ (σ := Unit) 5 #[true, true, true, true, true, true, true, true, true, true, true, true, true, true, true, true, true, true, true, true, false, true, true, true, true, true, true, false, false, false, false] (fun s_ => [(27, .int .i64 t433), (34, .int .i64 t435)]) (fun s_ w' => (w'.cell? (ad432.add ((x8_1).toNat * 4)) = some (.int .i64 ((rd_T48 l0 x8_1).f0)) ∧ w'.cell? ⟨(ad432.add ((x8_1).toNat * 4)).block, (ad432.add ((x8_1).toNat * 4)).off + 1, none⟩ = some (.int .i64 ((rd_T48 l0 x8_1).f1)) ∧ w'.cell? ⟨(ad432.add ((x8_1).toNat * 4)).block, (ad432.add ((x8_1).toNat * 4)).off + 2, none⟩ = some (.int .i64 ((rd_T48 l0 x8_1).f2)) ∧ w'.cell? ⟨(ad432.add ((x8_1).toNat * 4)).block, (ad432.add ((x8_1).toNat * 4)).off + 3, none⟩ = some (.int .i64 ((rd_T48 l0 x8_1).f3)) ∧ w'.cell? (ad432.add ((x8_1).toNat * 4)) = some (.int .i64 ((rd_T48 l0 x8_1).f0)) ∧ w'.cell? ⟨(ad432.add ((x8_1).toNat * 4)).block, (ad432.add ((x8_1).toNat * 4)).off + 1, none⟩ = some (.int .i64 ((rd_T48 l0 x8_1).f1)) ∧ w'.cell? ⟨(ad432.add ((x8_1).toNat * 4)).block, (ad432.add ((x8_1).toNat * 4)).off + 2, none⟩ = some (.int .i64 ((rd_T48 l0 x8_1).f2)) ∧ w'.cell? ⟨(ad432.add ((x8_1).toNat * 4)).block, (ad432.add ((x8_1).toNat * 4)).off + 3, none⟩ = some (.int .i64 ((rd_T48 l0 x8_1).f3)) ∧ w'.cell? (ad432.add ((x8_1).toNat * 4)) = some (.int .i64 ((rd_T48 l0 x8_1).f0)) ∧ w'.cell? ⟨(ad432.add ((x8_1).toNat * 4)).block, (ad432.add ((x8_1).toNat * 4)).off + 1, none⟩ = some (.int .i64 ((rd_T48 l0 x8_1).f1)) ∧ w'.cell? ⟨(ad432.add ((x8_1).toNat * 4)).block, (ad432.add ((x8_1).toNat * 4)).off + 2, none⟩ = some (.int .i64 ((rd_T48 l0 x8_1).f2)) ∧ w'.cell? ⟨(ad432.add ((x8_1).toNat * 4)).block, (ad432.add ((x8_1).toNat * 4)).off + 3, none⟩ = some (.int .i64 ((rd_T48 l0 x8_1).f3)) ∧ w'.cell? (ad432.add ((x8_1).toNat * 4)) = some (.int .i64 ((rd_T48 l0 x8_1).f0)) ∧ w'.cell? ⟨(ad432.add ((x8_1).toNat * 4)).block, (ad432.add ((x8_1).toNat * 4)).off + 1, none⟩ = some (.int .i64 ((rd_T48 l0 x8_1).f1)) ∧ w'.cell? ⟨(ad432.add ((x8_1).toNat * 4)).block, (ad432.add ((x8_1).toNat * 4)).off + 2, none⟩ = some (.int .i64 ((rd_T48 l0 x8_1).f2)) ∧ w'.cell? ⟨(ad432.add ((x8_1).toNat * 4)).block, (ad432.add ((x8_1).toNat * 4)).off + 3, none⟩ = some (.int .i64 ((rd_T48 l0 x8_1).f3))) ∧ (Kd.R k48 48 w' w.heap.size (fun _ => True) u7 x7_1) ∧ (Below w.heap.size w w')) ?_ ?_
             rotate_left
             ·intro hJ6_13
              refine join_ (σ := Nat) 5 #[true, true, true, true, true, true, true, true, true, true, true, true, true, false, true, true, true, true, true, true, false, true, true, true, true, true, true, false, false, true, false] (fun s_ => [(27, .int .i64 t433), (9, .pointer (some ⟨s_, 0, none⟩))]) (fun s_ w' => (w'.cell? (ad432.add ((x8_1).toNat * 4)) = some (.int .i64 ((rd_T48 l0 x8_1).f0)) ∧ w'.cell? ⟨(ad432.add ((x8_1).toNat * 4)).block, (ad432.add ((x8_1).toNat * 4)).off + 1, none⟩ = some (.int .i64 ((rd_T48 l0 x8_1).f1)) ∧ w'.cell? ⟨(ad432.add ((x8_1).toNat * 4)).block, (ad432.add ((x8_1).toNat * 4)).off + 2, none⟩ = some (.int .i64 ((rd_T48 l0 x8_1).f2)) ∧ w'.cell? ⟨(ad432.add ((x8_1).toNat * 4)).block, (ad432.add ((x8_1).toNat * 4)).off + 3, none⟩ = some (.int .i64 ((rd_T48 l0 x8_1).f3)) ∧ w'.cell? (ad432.add ((x8_1).toNat * 4)) = some (.int .i64 ((rd_T48 l0 x8_1).f0)) ∧ w'.cell? ⟨(ad432.add ((x8_1).toNat * 4)).block, (ad432.add ((x8_1).toNat * 4)).off + 1, none⟩ = some (.int .i64 ((rd_T48 l0 x8_1).f1)) ∧ w'.cell? ⟨(ad432.add ((x8_1).toNat * 4)).block, (ad432.add ((x8_1).toNat * 4)).off + 2, none⟩ = some (.int .i64 ((rd_T48 l0 x8_1).f2)) ∧ w'.cell? ⟨(ad432.add ((x8_1).toNat * 4)).block, (ad432.add ((x8_1).toNat * 4)).off + 3, none⟩ = some (.int .i64 ((rd_T48 l0 x8_1).f3)) ∧ w'.cell? (ad432.add ((x8_1).toNat * 4)) = some (.int .i64 ((rd_T48 l0 x8_1).f0)) ∧ w'.cell? ⟨(ad432.add ((x8_1).toNat * 4)).block, (ad432.add ((x8_1).toNat * 4)).off + 1, none⟩ = some (.int .i64 ((rd_T48 l0 x8_1).f1)) ∧ w'.cell? ⟨(ad432.add ((x8_1).toNat * 4)).block, (ad432.add ((x8_1).toNat * 4)).off + 2, none⟩ = some (.int .i64 ((rd_T48 l0 x8_1).f2)) ∧ w'.cell? ⟨(ad432.add ((x8_1).toNat * 4)).block, (ad432.add ((x8_1).toNat * 4)).off + 3, none⟩ = some (.int .i64 ((rd_T48 l0 x8_1).f3)) ∧ w'.cell? (ad432.add ((x8_1).toNat * 4)) = some (.int .i64 ((rd_T48 l0 x8_1).f0)) ∧ w'.cell? ⟨(ad432.add ((x8_1).toNat * 4)).block, (ad432.add ((x8_1).toNat * 4)).off + 1, none⟩ = some (.int .i64 ((rd_T48 l0 x8_1).f1)) ∧ w'.cell? ⟨(ad432.add ((x8_1).toNat * 4)).block, (ad432.add ((x8_1).toNat * 4)).off + 2, none⟩ = some (.int .i64 ((rd_T48 l0 x8_1).f2)) ∧ w'.cell? ⟨(ad432.add ((x8_1).toNat * 4)).block, (ad432.add ((x8_1).toNat * 4)).off + 3, none⟩ = some (.int .i64 ((rd_T48 l0 x8_1).f3))) ∧ (Kd.R k48 48 w' w.heap.size (fun k_ => k_ ≠ s_) u7 x7_1) ∧ (w'.heap[s_]? = some (.cells #[.int .i64 0, .int .i64 0, .int .i64 0, .int .i64 0] 48 (0, 0))) ∧ (w.heap.size ≤ s_) ∧ (w.heap.size ≤ s_) ∧ (Below w.heap.size w w')) ?_ ?_
              rotate_left
              ·intro hJ6_29
               refine join_ (σ := Unit) 6 #[true, true, true, true, true, true, true, true, true, true, true, true, true, false, true, true, true, true, true, true, false, true, true, true, true, true, true, false, false, false, false] (fun s_ => [(27, .int .i64 t433)]) (fun s_ w' => (w'.cell? (ad432.add ((x8_1).toNat * 4)) = some (.int .i64 ((rd_T48 l0 x8_1).f0)) ∧ w'.cell? ⟨(ad432.add ((x8_1).toNat * 4)).block, (ad432.add ((x8_1).toNat * 4)).off + 1, none⟩ = some (.int .i64 ((rd_T48 l0 x8_1).f1)) ∧ w'.cell? ⟨(ad432.add ((x8_1).toNat * 4)).block, (ad432.add ((x8_1).toNat * 4)).off + 2, none⟩ = some (.int .i64 ((rd_T48 l0 x8_1).f2)) ∧ w'.cell? ⟨(ad432.add ((x8_1).toNat * 4)).block, (ad432.add ((x8_1).toNat * 4)).off + 3, none⟩ = some (.int .i64 ((rd_T48 l0 x8_1).f3)) ∧ w'.cell? (ad432.add ((x8_1).toNat * 4)) = some (.int .i64 ((rd_T48 l0 x8_1).f0)) ∧ w'.cell? ⟨(ad432.add ((x8_1).toNat * 4)).block, (ad432.add ((x8_1).toNat * 4)).off + 1, none⟩ = some (.int .i64 ((rd_T48 l0 x8_1).f1)) ∧ w'.cell? ⟨(ad432.add ((x8_1).toNat * 4)).block, (ad432.add ((x8_1).toNat * 4)).off + 2, none⟩ = some (.int .i64 ((rd_T48 l0 x8_1).f2)) ∧ w'.cell? ⟨(ad432.add ((x8_1).toNat * 4)).block, (ad432.add ((x8_1).toNat * 4)).off + 3, none⟩ = some (.int .i64 ((rd_T48 l0 x8_1).f3)) ∧ w'.cell? (ad432.add ((x8_1).toNat * 4)) = some (.int .i64 ((rd_T48 l0 x8_1).f0)) ∧ w'.cell? ⟨(ad432.add ((x8_1).toNat * 4)).block, (ad432.add ((x8_1).toNat * 4)).off + 1, none⟩ = some (.int .i64 ((rd_T48 l0 x8_1).f1)) ∧ w'.cell? ⟨(ad432.add ((x8_1).toNat * 4)).block, (ad432.add ((x8_1).toNat * 4)).off + 2, none⟩ = some (.int .i64 ((rd_T48 l0 x8_1).f2)) ∧ w'.cell? ⟨(ad432.add ((x8_1).toNat * 4)).block, (ad432.add ((x8_1).toNat * 4)).off + 3, none⟩ = some (.int .i64 ((rd_T48 l0 x8_1).f3)) ∧ w'.cell? (ad432.add ((x8_1).toNat * 4)) = some (.int .i64 ((rd_T48 l0 x8_1).f0)) ∧ w'.cell? ⟨(ad432.add ((x8_1).toNat * 4)).block, (ad432.add ((x8_1).toNat * 4)).off + 1, none⟩ = some (.int .i64 ((rd_T48 l0 x8_1).f1)) ∧ w'.cell? ⟨(ad432.add ((x8_1).toNat * 4)).block, (ad432.add ((x8_1).toNat * 4)).off + 2, none⟩ = some (.int .i64 ((rd_T48 l0 x8_1).f2)) ∧ w'.cell? ⟨(ad432.add ((x8_1).toNat * 4)).block, (ad432.add ((x8_1).toNat * 4)).off + 3, none⟩ = some (.int .i64 ((rd_T48 l0 x8_1).f3))) ∧ (Kd.R k48 48 w' w.heap.size (fun _ => True) u7 x7_1) ∧ (Below w.heap.size w w')) ?_ ?_
               rotate_left
               ·intro hJ6
                refine join_ (σ := Nat) 6 #[true, true, true, true, true, true, false, true, true, true, true, true, true, false, true, true, true, true, true, true, false, true, true, true, true, true, true, false, false, true, false] (fun s_ => [(9, .pointer (some ⟨s_, 0, none⟩))]) (fun s_ w' => (w'.cell? (ad432.add ((x8_1).toNat * 4)) = some (.int .i64 ((rd_T48 l0 x8_1).f0)) ∧ w'.cell? ⟨(ad432.add ((x8_1).toNat * 4)).block, (ad432.add ((x8_1).toNat * 4)).off + 1, none⟩ = some (.int .i64 ((rd_T48 l0 x8_1).f1)) ∧ w'.cell? ⟨(ad432.add ((x8_1).toNat * 4)).block, (ad432.add ((x8_1).toNat * 4)).off + 2, none⟩ = some (.int .i64 ((rd_T48 l0 x8_1).f2)) ∧ w'.cell? ⟨(ad432.add ((x8_1).toNat * 4)).block, (ad432.add ((x8_1).toNat * 4)).off + 3, none⟩ = some (.int .i64 ((rd_T48 l0 x8_1).f3)) ∧ w'.cell? (ad432.add ((x8_1).toNat * 4)) = some (.int .i64 ((rd_T48 l0 x8_1).f0)) ∧ w'.cell? ⟨(ad432.add ((x8_1).toNat * 4)).block, (ad432.add ((x8_1).toNat * 4)).off + 1, none⟩ = some (.int .i64 ((rd_T48 l0 x8_1).f1)) ∧ w'.cell? ⟨(ad432.add ((x8_1).toNat * 4)).block, (ad432.add ((x8_1).toNat * 4)).off + 2, none⟩ = some (.int .i64 ((rd_T48 l0 x8_1).f2)) ∧ w'.cell? ⟨(ad432.add ((x8_1).toNat * 4)).block, (ad432.add ((x8_1).toNat * 4)).off + 3, none⟩ = some (.int .i64 ((rd_T48 l0 x8_1).f3)) ∧ w'.cell? (ad432.add ((x8_1).toNat * 4)) = some (.int .i64 ((rd_T48 l0 x8_1).f0)) ∧ w'.cell? ⟨(ad432.add ((x8_1).toNat * 4)).block, (ad432.add ((x8_1).toNat * 4)).off + 1, none⟩ = some (.int .i64 ((rd_T48 l0 x8_1).f1)) ∧ w'.cell? ⟨(ad432.add ((x8_1).toNat * 4)).block, (ad432.add ((x8_1).toNat * 4)).off + 2, none⟩ = some (.int .i64 ((rd_T48 l0 x8_1).f2)) ∧ w'.cell? ⟨(ad432.add ((x8_1).toNat * 4)).block, (ad432.add ((x8_1).toNat * 4)).off + 3, none⟩ = some (.int .i64 ((rd_T48 l0 x8_1).f3)) ∧ w'.cell? (ad432.add ((x8_1).toNat * 4)) = some (.int .i64 ((rd_T48 l0 x8_1).f0)) ∧ w'.cell? ⟨(ad432.add ((x8_1).toNat * 4)).block, (ad432.add ((x8_1).toNat * 4)).off + 1, none⟩ = some (.int .i64 ((rd_T48 l0 x8_1).f1)) ∧ w'.cell? ⟨(ad432.add ((x8_1).toNat * 4)).block, (ad432.add ((x8_1).toNat * 4)).off + 2, none⟩ = some (.int .i64 ((rd_T48 l0 x8_1).f2)) ∧ w'.cell? ⟨(ad432.add ((x8_1).toNat * 4)).block, (ad432.add ((x8_1).toNat * 4)).off + 3, none⟩ = some (.int .i64 ((rd_T48 l0 x8_1).f3))) ∧ (Kd.R k48 48 w' w.heap.size (fun k_ => k_ ≠ s_) u7 x7_1) ∧ (w'.heap[s_]? = some (.cells #[.int .i64 0, .int .i64 0, .int .i64 0, .int .i64 0] 48 (0, 0))) ∧ (w.heap.size ≤ s_) ∧ (w.heap.size ≤ s_) ∧ (Below w.heap.size w w')) ?_ ?_
                rotate_left
                ·intro hJ29
                 refine two_ (i := 6) (j := 29) (Ni := some 27) (Nj := some 9) #[true, true, true, true, true, true, true, true, true, true, true, true, true, false, true, true, true, true, true, true, false, true, true, true, true, true, true, false, false, false, false] #[true, true, true, true, true, true, false, true, true, true, true, true, true, false, true, true, true, true, true, true, false, true, true, true, true, true, true, false, false, true, false] rfl rfl rfl rfl (two_of HT_.out (by kernel_rfl)) (by decide) (by decide) (fun K hK => ?_) (fun K hK => ?_)
                 ·skip
                  refine gz Try.func35 #[.int .i64 ((rd_T48 l0 x8_1).f0), .int .i64 a2] ?_
                  with_reducible refine (tickinglaw01_near.calls ((rd_T48 l0 x8_1).f0) a2 t433 _ A9.out).mono ?_
                  rintro e w' ⟨rfl, ⟨nd, rfl⟩⟩
                  refine ⟨_, rfl, ?_⟩
                  refine hK.out _ _ ⟨((HB.out.cell (World.block_lt_of_cell? w _ hw432_0)).trans hw432_0), ((HB.out.cell (World.block_lt_of_cell? w _ hw432_1)).trans hw432_1), ((HB.out.cell (World.block_lt_of_cell? w _ hw432_2)).trans hw432_2), ((HB.out.cell (World.block_lt_of_cell? w _ hw432_3)).trans hw432_3), ((HB.out.cell (World.block_lt_of_cell? w _ hw434_0)).trans hw434_0), ((HB.out.cell (World.block_lt_of_cell? w _ hw434_1)).trans hw434_1), ((HB.out.cell (World.block_lt_of_cell? w _ hw434_2)).trans hw434_2), ((HB.out.cell (World.block_lt_of_cell? w _ hw434_3)).trans hw434_3), ((HB.out.cell (World.block_lt_of_cell? w _ hw436_0)).trans hw436_0), ((HB.out.cell (World.block_lt_of_cell? w _ hw436_1)).trans hw436_1), ((HB.out.cell (World.block_lt_of_cell? w _ hw436_2)).trans hw436_2), ((HB.out.cell (World.block_lt_of_cell? w _ hw436_3)).trans hw436_3), ((HB.out.cell (World.block_lt_of_cell? w _ hw438_0)).trans hw438_0), ((HB.out.cell (World.block_lt_of_cell? w _ hw438_1)).trans hw438_1), ((HB.out.cell (World.block_lt_of_cell? w _ hw438_2)).trans hw438_2), ((HB.out.cell (World.block_lt_of_cell? w _ hw438_3)).trans hw438_3)⟩ (fun hHeld => ?_)
                  clear hK K
                  refine nz (some 27) ?_
                  exact norm_ (by first | (simp only [putAll, Act.put, List.setIfInBounds_toArray, List.set_cons_zero, List.set_cons_succ]; done) | (simp only [putAll, Act.put, List.setIfInBounds_toArray, List.set_cons_zero, List.set_cons_succ]; rfl)) (hJ6 () _ ⟨hHeld, (by (with_reducible repeat (first | apply Kd.R_alloc | apply Kd.R_drewN | apply Kd.R_drew)); exact HO_7.out), HBz⟩)
                 ·skip
                  refine bxS 9 #[.int .i64 0, .int .i64 0, .int .i64 0, .int .i64 0] 48 ?_
                  intro gb440 hg w15 hbox hb
                  have n0_ := Aside0.mk (Kd.R_below (Kd.R_elderB (by (with_reducible repeat (first | apply Kd.R_alloc | apply Kd.R_drewN | apply Kd.R_drew)); exact HO_7.out) gb440 (Nat.le_of_eq hg.symm)) hb)
                  have n1_ := Aside0.mk (below_step HBz hb)
                  have n2_ := Aside0.mk (hbox)
                  have n3_ := Aside0.mk ((by rw [hg]; exact (below_size HBz) : w.heap.size ≤ gb440))
                  have n4_ := Aside0.mk ((by rw [hg]; exact (below_size HBz) : w.heap.size ≤ gb440))
                  clear HO_7
                  clear HB
                  have HO_7 := n0_
                  have HB := n1_
                  have BK440 := n2_
                  have GW440 := n3_
                  have GE440 := n4_
                  clear n0_ n1_ n2_ n3_ n4_
                  clear hb hbox hg
                  refine hK.out _ _ ⟨((HB.out.cell (World.block_lt_of_cell? w _ hw432_0)).trans hw432_0), ((HB.out.cell (World.block_lt_of_cell? w _ hw432_1)).trans hw432_1), ((HB.out.cell (World.block_lt_of_cell? w _ hw432_2)).trans hw432_2), ((HB.out.cell (World.block_lt_of_cell? w _ hw432_3)).trans hw432_3), ((HB.out.cell (World.block_lt_of_cell? w _ hw434_0)).trans hw434_0), ((HB.out.cell (World.block_lt_of_cell? w _ hw434_1)).trans hw434_1), ((HB.out.cell (World.block_lt_of_cell? w _ hw434_2)).trans hw434_2), ((HB.out.cell (World.block_lt_of_cell? w _ hw434_3)).trans hw434_3), ((HB.out.cell (World.block_lt_of_cell? w _ hw436_0)).trans hw436_0), ((HB.out.cell (World.block_lt_of_cell? w _ hw436_1)).trans hw436_1), ((HB.out.cell (World.block_lt_of_cell? w _ hw436_2)).trans hw436_2), ((HB.out.cell (World.block_lt_of_cell? w _ hw436_3)).trans hw436_3), ((HB.out.cell (World.block_lt_of_cell? w _ hw438_0)).trans hw438_0), ((HB.out.cell (World.block_lt_of_cell? w _ hw438_1)).trans hw438_1), ((HB.out.cell (World.block_lt_of_cell? w _ hw438_2)).trans hw438_2), ((HB.out.cell (World.block_lt_of_cell? w _ hw438_3)).trans hw438_3)⟩ (fun hHeld => ?_)
                  clear hK K
                  refine nz (some 9) ?_
                  exact norm_ (by first | (simp only [putAll, Act.put, List.setIfInBounds_toArray, List.set_cons_zero, List.set_cons_succ]; done) | (simp only [putAll, Act.put, List.setIfInBounds_toArray, List.set_cons_zero, List.set_cons_succ]; rfl)) (hJ29 (gb440) _ ⟨hHeld, (by (with_reducible repeat (first | apply Kd.R_alloc | apply Kd.R_drewN | apply Kd.R_drew)); exact Kd.R_mono HO_7.out (fun _ hk => hk.2)), BKz, GW440.out, GE440.out, HBz⟩)
                ·skip
                 rintro gb440 w16 ⟨hS_, h0_, h1_, h2_, h3_, h4_⟩
                 have n0_ : Aside0 (Kd.R k48 48 w16 w.heap.size (fun k_ => k_ ≠ gb440) u7 x7_1) := ⟨h0_⟩
                 have n1_ : Aside0 (w16.heap[gb440]? = some (.cells #[.int .i64 0, .int .i64 0, .int .i64 0, .int .i64 0] 48 (0, 0))) := ⟨h1_⟩
                 have n2_ : Aside0 (w.heap.size ≤ gb440) := ⟨h2_⟩
                 have n3_ : Aside0 (w.heap.size ≤ gb440) := ⟨h3_⟩
                 have n4_ : Aside0 (Below w.heap.size w w16) := ⟨h4_⟩
                 clear HO_7
                 clear HB
                 clear h0_ h1_ h2_ h3_ h4_
                 have HO_7 := n0_
                 have BK440 := n1_
                 have GW440 := n2_
                 have GE440 := n3_
                 have HB := n4_
                 clear n0_ n1_ n2_ n3_ n4_
                 have hHeld : w16.cell? (ad432.add ((x8_1).toNat * 4)) = some (.int .i64 ((rd_T48 l0 x8_1).f0)) ∧ w16.cell? ⟨(ad432.add ((x8_1).toNat * 4)).block, (ad432.add ((x8_1).toNat * 4)).off + 1, none⟩ = some (.int .i64 ((rd_T48 l0 x8_1).f1)) ∧ w16.cell? ⟨(ad432.add ((x8_1).toNat * 4)).block, (ad432.add ((x8_1).toNat * 4)).off + 2, none⟩ = some (.int .i64 ((rd_T48 l0 x8_1).f2)) ∧ w16.cell? ⟨(ad432.add ((x8_1).toNat * 4)).block, (ad432.add ((x8_1).toNat * 4)).off + 3, none⟩ = some (.int .i64 ((rd_T48 l0 x8_1).f3)) ∧ w16.cell? (ad432.add ((x8_1).toNat * 4)) = some (.int .i64 ((rd_T48 l0 x8_1).f0)) ∧ w16.cell? ⟨(ad432.add ((x8_1).toNat * 4)).block, (ad432.add ((x8_1).toNat * 4)).off + 1, none⟩ = some (.int .i64 ((rd_T48 l0 x8_1).f1)) ∧ w16.cell? ⟨(ad432.add ((x8_1).toNat * 4)).block, (ad432.add ((x8_1).toNat * 4)).off + 2, none⟩ = some (.int .i64 ((rd_T48 l0 x8_1).f2)) ∧ w16.cell? ⟨(ad432.add ((x8_1).toNat * 4)).block, (ad432.add ((x8_1).toNat * 4)).off + 3, none⟩ = some (.int .i64 ((rd_T48 l0 x8_1).f3)) ∧ w16.cell? (ad432.add ((x8_1).toNat * 4)) = some (.int .i64 ((rd_T48 l0 x8_1).f0)) ∧ w16.cell? ⟨(ad432.add ((x8_1).toNat * 4)).block, (ad432.add ((x8_1).toNat * 4)).off + 1, none⟩ = some (.int .i64 ((rd_T48 l0 x8_1).f1)) ∧ w16.cell? ⟨(ad432.add ((x8_1).toNat * 4)).block, (ad432.add ((x8_1).toNat * 4)).off + 2, none⟩ = some (.int .i64 ((rd_T48 l0 x8_1).f2)) ∧ w16.cell? ⟨(ad432.add ((x8_1).toNat * 4)).block, (ad432.add ((x8_1).toNat * 4)).off + 3, none⟩ = some (.int .i64 ((rd_T48 l0 x8_1).f3)) ∧ w16.cell? (ad432.add ((x8_1).toNat * 4)) = some (.int .i64 ((rd_T48 l0 x8_1).f0)) ∧ w16.cell? ⟨(ad432.add ((x8_1).toNat * 4)).block, (ad432.add ((x8_1).toNat * 4)).off + 1, none⟩ = some (.int .i64 ((rd_T48 l0 x8_1).f1)) ∧ w16.cell? ⟨(ad432.add ((x8_1).toNat * 4)).block, (ad432.add ((x8_1).toNat * 4)).off + 2, none⟩ = some (.int .i64 ((rd_T48 l0 x8_1).f2)) ∧ w16.cell? ⟨(ad432.add ((x8_1).toNat * 4)).block, (ad432.add ((x8_1).toNat * 4)).off + 3, none⟩ = some (.int .i64 ((rd_T48 l0 x8_1).f3)) := hS_
                 refine norm_ (a' := ?_) ?_ ?_
                 rotate_left
                 ·simp only [putAll, Act.put, List.setIfInBounds_toArray, List.set_cons_zero, List.set_cons_succ]
                  rfl
                 refine oT HT_.out 6 (some 27) (bn 31 670031871) (fun K hK => ?_)
                 refine gz Try.func35 #[.int .i64 ((rd_T48 l0 x8_1).f0), .int .i64 a2] ?_
                 with_reducible refine (tickinglaw01_near.calls ((rd_T48 l0 x8_1).f0) a2 t433 _ A9.out).mono ?_
                 rintro e w' ⟨rfl, ⟨nd, rfl⟩⟩
                 refine ⟨_, rfl, ?_⟩
                 refine hK.out _ _ ⟨((HB.out.cell (World.block_lt_of_cell? w _ hw432_0)).trans hw432_0), ((HB.out.cell (World.block_lt_of_cell? w _ hw432_1)).trans hw432_1), ((HB.out.cell (World.block_lt_of_cell? w _ hw432_2)).trans hw432_2), ((HB.out.cell (World.block_lt_of_cell? w _ hw432_3)).trans hw432_3), ((HB.out.cell (World.block_lt_of_cell? w _ hw434_0)).trans hw434_0), ((HB.out.cell (World.block_lt_of_cell? w _ hw434_1)).trans hw434_1), ((HB.out.cell (World.block_lt_of_cell? w _ hw434_2)).trans hw434_2), ((HB.out.cell (World.block_lt_of_cell? w _ hw434_3)).trans hw434_3), ((HB.out.cell (World.block_lt_of_cell? w _ hw436_0)).trans hw436_0), ((HB.out.cell (World.block_lt_of_cell? w _ hw436_1)).trans hw436_1), ((HB.out.cell (World.block_lt_of_cell? w _ hw436_2)).trans hw436_2), ((HB.out.cell (World.block_lt_of_cell? w _ hw436_3)).trans hw436_3), ((HB.out.cell (World.block_lt_of_cell? w _ hw438_0)).trans hw438_0), ((HB.out.cell (World.block_lt_of_cell? w _ hw438_1)).trans hw438_1), ((HB.out.cell (World.block_lt_of_cell? w _ hw438_2)).trans hw438_2), ((HB.out.cell (World.block_lt_of_cell? w _ hw438_3)).trans hw438_3)⟩ (fun hHeld => ?_)
                 clear hK K
                 refine nz (some 27) ?_
                 exact norm_ (by first | (simp only [putAll, Act.put, List.setIfInBounds_toArray, List.set_cons_zero, List.set_cons_succ]; done) | (simp only [putAll, Act.put, List.setIfInBounds_toArray, List.set_cons_zero, List.set_cons_succ]; rfl)) (hJ6_29 (gb440) _ ⟨hHeld, (by (with_reducible repeat (first | apply Kd.R_alloc | apply Kd.R_drewN | apply Kd.R_drew)); exact HO_7.out), BKz, GW440.out, GE440.out, HBz⟩)
               ·skip
                rintro _ w15 ⟨hS_, h0_, h1_⟩
                have n0_ : Aside0 (Kd.R k48 48 w15 w.heap.size (fun _ => True) u7 x7_1) := ⟨h0_⟩
                have n1_ : Aside0 (Below w.heap.size w w15) := ⟨h1_⟩
                clear HO_7
                clear HB
                clear h0_ h1_
                have HO_7 := n0_
                have HB := n1_
                clear n0_ n1_
                have hHeld : w15.cell? (ad432.add ((x8_1).toNat * 4)) = some (.int .i64 ((rd_T48 l0 x8_1).f0)) ∧ w15.cell? ⟨(ad432.add ((x8_1).toNat * 4)).block, (ad432.add ((x8_1).toNat * 4)).off + 1, none⟩ = some (.int .i64 ((rd_T48 l0 x8_1).f1)) ∧ w15.cell? ⟨(ad432.add ((x8_1).toNat * 4)).block, (ad432.add ((x8_1).toNat * 4)).off + 2, none⟩ = some (.int .i64 ((rd_T48 l0 x8_1).f2)) ∧ w15.cell? ⟨(ad432.add ((x8_1).toNat * 4)).block, (ad432.add ((x8_1).toNat * 4)).off + 3, none⟩ = some (.int .i64 ((rd_T48 l0 x8_1).f3)) ∧ w15.cell? (ad432.add ((x8_1).toNat * 4)) = some (.int .i64 ((rd_T48 l0 x8_1).f0)) ∧ w15.cell? ⟨(ad432.add ((x8_1).toNat * 4)).block, (ad432.add ((x8_1).toNat * 4)).off + 1, none⟩ = some (.int .i64 ((rd_T48 l0 x8_1).f1)) ∧ w15.cell? ⟨(ad432.add ((x8_1).toNat * 4)).block, (ad432.add ((x8_1).toNat * 4)).off + 2, none⟩ = some (.int .i64 ((rd_T48 l0 x8_1).f2)) ∧ w15.cell? ⟨(ad432.add ((x8_1).toNat * 4)).block, (ad432.add ((x8_1).toNat * 4)).off + 3, none⟩ = some (.int .i64 ((rd_T48 l0 x8_1).f3)) ∧ w15.cell? (ad432.add ((x8_1).toNat * 4)) = some (.int .i64 ((rd_T48 l0 x8_1).f0)) ∧ w15.cell? ⟨(ad432.add ((x8_1).toNat * 4)).block, (ad432.add ((x8_1).toNat * 4)).off + 1, none⟩ = some (.int .i64 ((rd_T48 l0 x8_1).f1)) ∧ w15.cell? ⟨(ad432.add ((x8_1).toNat * 4)).block, (ad432.add ((x8_1).toNat * 4)).off + 2, none⟩ = some (.int .i64 ((rd_T48 l0 x8_1).f2)) ∧ w15.cell? ⟨(ad432.add ((x8_1).toNat * 4)).block, (ad432.add ((x8_1).toNat * 4)).off + 3, none⟩ = some (.int .i64 ((rd_T48 l0 x8_1).f3)) ∧ w15.cell? (ad432.add ((x8_1).toNat * 4)) = some (.int .i64 ((rd_T48 l0 x8_1).f0)) ∧ w15.cell? ⟨(ad432.add ((x8_1).toNat * 4)).block, (ad432.add ((x8_1).toNat * 4)).off + 1, none⟩ = some (.int .i64 ((rd_T48 l0 x8_1).f1)) ∧ w15.cell? ⟨(ad432.add ((x8_1).toNat * 4)).block, (ad432.add ((x8_1).toNat * 4)).off + 2, none⟩ = some (.int .i64 ((rd_T48 l0 x8_1).f2)) ∧ w15.cell? ⟨(ad432.add ((x8_1).toNat * 4)).block, (ad432.add ((x8_1).toNat * 4)).off + 3, none⟩ = some (.int .i64 ((rd_T48 l0 x8_1).f3)) := hS_
                refine norm_ (a' := ?_) ?_ ?_
                rotate_left
                ·simp only [putAll, Act.put, List.setIfInBounds_toArray, List.set_cons_zero, List.set_cons_succ]
                 rfl
                refine two_ (i := 13) (j := 29) (Ni := some 34) (Nj := some 9) #[true, true, true, true, true, true, true, true, true, true, true, true, true, true, true, true, true, true, true, true, false, true, true, true, true, true, true, false, false, false, false] #[true, true, true, true, true, true, true, true, true, true, true, true, true, false, true, true, true, true, true, true, false, true, true, true, true, true, true, false, false, true, false] rfl rfl rfl rfl (two_of HT_.out (by kernel_rfl)) (by decide) (by decide) (fun K hK => ?_) (fun K hK => ?_)
                ·skip
                 refine gz Try.func35 #[.int .i64 ((rd_T48 l0 x8_1).f1), .int .i64 a2] ?_
                 with_reducible refine (tickinglaw01_near.calls ((rd_T48 l0 x8_1).f1) a2 t435 _ A10.out).mono ?_
                 rintro e w' ⟨rfl, ⟨nd, rfl⟩⟩
                 refine ⟨_, rfl, ?_⟩
                 refine hK.out _ _ ⟨((HB.out.cell (World.block_lt_of_cell? w _ hw432_0)).trans hw432_0), ((HB.out.cell (World.block_lt_of_cell? w _ hw432_1)).trans hw432_1), ((HB.out.cell (World.block_lt_of_cell? w _ hw432_2)).trans hw432_2), ((HB.out.cell (World.block_lt_of_cell? w _ hw432_3)).trans hw432_3), ((HB.out.cell (World.block_lt_of_cell? w _ hw434_0)).trans hw434_0), ((HB.out.cell (World.block_lt_of_cell? w _ hw434_1)).trans hw434_1), ((HB.out.cell (World.block_lt_of_cell? w _ hw434_2)).trans hw434_2), ((HB.out.cell (World.block_lt_of_cell? w _ hw434_3)).trans hw434_3), ((HB.out.cell (World.block_lt_of_cell? w _ hw436_0)).trans hw436_0), ((HB.out.cell (World.block_lt_of_cell? w _ hw436_1)).trans hw436_1), ((HB.out.cell (World.block_lt_of_cell? w _ hw436_2)).trans hw436_2), ((HB.out.cell (World.block_lt_of_cell? w _ hw436_3)).trans hw436_3), ((HB.out.cell (World.block_lt_of_cell? w _ hw438_0)).trans hw438_0), ((HB.out.cell (World.block_lt_of_cell? w _ hw438_1)).trans hw438_1), ((HB.out.cell (World.block_lt_of_cell? w _ hw438_2)).trans hw438_2), ((HB.out.cell (World.block_lt_of_cell? w _ hw438_3)).trans hw438_3)⟩ (fun hHeld => ?_)
                 clear hK K
                 refine nz (some 34) ?_
                 exact norm_ (by first | (simp only [putAll, Act.put, List.setIfInBounds_toArray, List.set_cons_zero, List.set_cons_succ]; done) | (simp only [putAll, Act.put, List.setIfInBounds_toArray, List.set_cons_zero, List.set_cons_succ]; rfl)) (hJ6_13 () _ ⟨hHeld, (by (with_reducible repeat (first | apply Kd.R_alloc | apply Kd.R_drewN | apply Kd.R_drew)); exact HO_7.out), HBz⟩)
                ·skip
                 refine bxS 9 #[.int .i64 0, .int .i64 0, .int .i64 0, .int .i64 0] 48 ?_
                 intro gb440 hg w16 hbox hb
                 have n0_ := Aside0.mk (Kd.R_below (Kd.R_elderB (by (with_reducible repeat (first | apply Kd.R_alloc | apply Kd.R_drewN | apply Kd.R_drew)); exact HO_7.out) gb440 (Nat.le_of_eq hg.symm)) hb)
                 have n1_ := Aside0.mk (below_step HBz hb)
                 have n2_ := Aside0.mk (hbox)
                 have n3_ := Aside0.mk ((by rw [hg]; exact (below_size HBz) : w.heap.size ≤ gb440))
                 have n4_ := Aside0.mk ((by rw [hg]; exact (below_size HBz) : w.heap.size ≤ gb440))
                 clear HO_7
                 clear HB
                 have HO_7 := n0_
                 have HB := n1_
                 have BK440 := n2_
                 have GW440 := n3_
                 have GE440 := n4_
                 clear n0_ n1_ n2_ n3_ n4_
                 clear hb hbox hg
                 refine hK.out _ _ ⟨((HB.out.cell (World.block_lt_of_cell? w _ hw432_0)).trans hw432_0), ((HB.out.cell (World.block_lt_of_cell? w _ hw432_1)).trans hw432_1), ((HB.out.cell (World.block_lt_of_cell? w _ hw432_2)).trans hw432_2), ((HB.out.cell (World.block_lt_of_cell? w _ hw432_3)).trans hw432_3), ((HB.out.cell (World.block_lt_of_cell? w _ hw434_0)).trans hw434_0), ((HB.out.cell (World.block_lt_of_cell? w _ hw434_1)).trans hw434_1), ((HB.out.cell (World.block_lt_of_cell? w _ hw434_2)).trans hw434_2), ((HB.out.cell (World.block_lt_of_cell? w _ hw434_3)).trans hw434_3), ((HB.out.cell (World.block_lt_of_cell? w _ hw436_0)).trans hw436_0), ((HB.out.cell (World.block_lt_of_cell? w _ hw436_1)).trans hw436_1), ((HB.out.cell (World.block_lt_of_cell? w _ hw436_2)).trans hw436_2), ((HB.out.cell (World.block_lt_of_cell? w _ hw436_3)).trans hw436_3), ((HB.out.cell (World.block_lt_of_cell? w _ hw438_0)).trans hw438_0), ((HB.out.cell (World.block_lt_of_cell? w _ hw438_1)).trans hw438_1), ((HB.out.cell (World.block_lt_of_cell? w _ hw438_2)).trans hw438_2), ((HB.out.cell (World.block_lt_of_cell? w _ hw438_3)).trans hw438_3)⟩ (fun hHeld => ?_)
                 clear hK K
                 refine nz (some 9) ?_
                 exact norm_ (by first | (simp only [putAll, Act.put, List.setIfInBounds_toArray, List.set_cons_zero, List.set_cons_succ]; done) | (simp only [putAll, Act.put, List.setIfInBounds_toArray, List.set_cons_zero, List.set_cons_succ]; rfl)) (hJ6_29 (gb440) _ ⟨hHeld, (by (with_reducible repeat (first | apply Kd.R_alloc | apply Kd.R_drewN | apply Kd.R_drew)); exact Kd.R_mono HO_7.out (fun _ hk => hk.2)), BKz, GW440.out, GE440.out, HBz⟩)
              ·skip
               rintro gb440 w16 ⟨hS_, h0_, h1_, h2_, h3_, h4_⟩
               have n0_ : Aside0 (Kd.R k48 48 w16 w.heap.size (fun k_ => k_ ≠ gb440) u7 x7_1) := ⟨h0_⟩
               have n1_ : Aside0 (w16.heap[gb440]? = some (.cells #[.int .i64 0, .int .i64 0, .int .i64 0, .int .i64 0] 48 (0, 0))) := ⟨h1_⟩
               have n2_ : Aside0 (w.heap.size ≤ gb440) := ⟨h2_⟩
               have n3_ : Aside0 (w.heap.size ≤ gb440) := ⟨h3_⟩
               have n4_ : Aside0 (Below w.heap.size w w16) := ⟨h4_⟩
               clear HO_7
               clear HB
               clear h0_ h1_ h2_ h3_ h4_
               have HO_7 := n0_
               have BK440 := n1_
               have GW440 := n2_
               have GE440 := n3_
               have HB := n4_
               clear n0_ n1_ n2_ n3_ n4_
               have hHeld : w16.cell? (ad432.add ((x8_1).toNat * 4)) = some (.int .i64 ((rd_T48 l0 x8_1).f0)) ∧ w16.cell? ⟨(ad432.add ((x8_1).toNat * 4)).block, (ad432.add ((x8_1).toNat * 4)).off + 1, none⟩ = some (.int .i64 ((rd_T48 l0 x8_1).f1)) ∧ w16.cell? ⟨(ad432.add ((x8_1).toNat * 4)).block, (ad432.add ((x8_1).toNat * 4)).off + 2, none⟩ = some (.int .i64 ((rd_T48 l0 x8_1).f2)) ∧ w16.cell? ⟨(ad432.add ((x8_1).toNat * 4)).block, (ad432.add ((x8_1).toNat * 4)).off + 3, none⟩ = some (.int .i64 ((rd_T48 l0 x8_1).f3)) ∧ w16.cell? (ad432.add ((x8_1).toNat * 4)) = some (.int .i64 ((rd_T48 l0 x8_1).f0)) ∧ w16.cell? ⟨(ad432.add ((x8_1).toNat * 4)).block, (ad432.add ((x8_1).toNat * 4)).off + 1, none⟩ = some (.int .i64 ((rd_T48 l0 x8_1).f1)) ∧ w16.cell? ⟨(ad432.add ((x8_1).toNat * 4)).block, (ad432.add ((x8_1).toNat * 4)).off + 2, none⟩ = some (.int .i64 ((rd_T48 l0 x8_1).f2)) ∧ w16.cell? ⟨(ad432.add ((x8_1).toNat * 4)).block, (ad432.add ((x8_1).toNat * 4)).off + 3, none⟩ = some (.int .i64 ((rd_T48 l0 x8_1).f3)) ∧ w16.cell? (ad432.add ((x8_1).toNat * 4)) = some (.int .i64 ((rd_T48 l0 x8_1).f0)) ∧ w16.cell? ⟨(ad432.add ((x8_1).toNat * 4)).block, (ad432.add ((x8_1).toNat * 4)).off + 1, none⟩ = some (.int .i64 ((rd_T48 l0 x8_1).f1)) ∧ w16.cell? ⟨(ad432.add ((x8_1).toNat * 4)).block, (ad432.add ((x8_1).toNat * 4)).off + 2, none⟩ = some (.int .i64 ((rd_T48 l0 x8_1).f2)) ∧ w16.cell? ⟨(ad432.add ((x8_1).toNat * 4)).block, (ad432.add ((x8_1).toNat * 4)).off + 3, none⟩ = some (.int .i64 ((rd_T48 l0 x8_1).f3)) ∧ w16.cell? (ad432.add ((x8_1).toNat * 4)) = some (.int .i64 ((rd_T48 l0 x8_1).f0)) ∧ w16.cell? ⟨(ad432.add ((x8_1).toNat * 4)).block, (ad432.add ((x8_1).toNat * 4)).off + 1, none⟩ = some (.int .i64 ((rd_T48 l0 x8_1).f1)) ∧ w16.cell? ⟨(ad432.add ((x8_1).toNat * 4)).block, (ad432.add ((x8_1).toNat * 4)).off + 2, none⟩ = some (.int .i64 ((rd_T48 l0 x8_1).f2)) ∧ w16.cell? ⟨(ad432.add ((x8_1).toNat * 4)).block, (ad432.add ((x8_1).toNat * 4)).off + 3, none⟩ = some (.int .i64 ((rd_T48 l0 x8_1).f3)) := hS_
               refine norm_ (a' := ?_) ?_ ?_
               rotate_left
               ·simp only [putAll, Act.put, List.setIfInBounds_toArray, List.set_cons_zero, List.set_cons_succ]
                rfl
               refine oT HT_.out 13 (some 34) (bn 31 670040063) (fun K hK => ?_)
               refine gz Try.func35 #[.int .i64 ((rd_T48 l0 x8_1).f1), .int .i64 a2] ?_
               with_reducible refine (tickinglaw01_near.calls ((rd_T48 l0 x8_1).f1) a2 t435 _ A10.out).mono ?_
               rintro e w' ⟨rfl, ⟨nd, rfl⟩⟩
               refine ⟨_, rfl, ?_⟩
               refine hK.out _ _ ⟨((HB.out.cell (World.block_lt_of_cell? w _ hw432_0)).trans hw432_0), ((HB.out.cell (World.block_lt_of_cell? w _ hw432_1)).trans hw432_1), ((HB.out.cell (World.block_lt_of_cell? w _ hw432_2)).trans hw432_2), ((HB.out.cell (World.block_lt_of_cell? w _ hw432_3)).trans hw432_3), ((HB.out.cell (World.block_lt_of_cell? w _ hw434_0)).trans hw434_0), ((HB.out.cell (World.block_lt_of_cell? w _ hw434_1)).trans hw434_1), ((HB.out.cell (World.block_lt_of_cell? w _ hw434_2)).trans hw434_2), ((HB.out.cell (World.block_lt_of_cell? w _ hw434_3)).trans hw434_3), ((HB.out.cell (World.block_lt_of_cell? w _ hw436_0)).trans hw436_0), ((HB.out.cell (World.block_lt_of_cell? w _ hw436_1)).trans hw436_1), ((HB.out.cell (World.block_lt_of_cell? w _ hw436_2)).trans hw436_2), ((HB.out.cell (World.block_lt_of_cell? w _ hw436_3)).trans hw436_3), ((HB.out.cell (World.block_lt_of_cell? w _ hw438_0)).trans hw438_0), ((HB.out.cell (World.block_lt_of_cell? w _ hw438_1)).trans hw438_1), ((HB.out.cell (World.block_lt_of_cell? w _ hw438_2)).trans hw438_2), ((HB.out.cell (World.block_lt_of_cell? w _ hw438_3)).trans hw438_3)⟩ (fun hHeld => ?_)
               clear hK K
               refine nz (some 34) ?_
               exact norm_ (by first | (simp only [putAll, Act.put, List.setIfInBounds_toArray, List.set_cons_zero, List.set_cons_succ]; done) | (simp only [putAll, Act.put, List.setIfInBounds_toArray, List.set_cons_zero, List.set_cons_succ]; rfl)) (hJ6_13_29 (gb440) _ ⟨hHeld, (by (with_reducible repeat (first | apply Kd.R_alloc | apply Kd.R_drewN | apply Kd.R_drew)); exact HO_7.out), BKz, GW440.out, GE440.out, HBz⟩)
             ·skip
              rintro _ w15 ⟨hS_, h0_, h1_⟩
              have n0_ : Aside0 (Kd.R k48 48 w15 w.heap.size (fun _ => True) u7 x7_1) := ⟨h0_⟩
              have n1_ : Aside0 (Below w.heap.size w w15) := ⟨h1_⟩
              clear HO_7
              clear HB
              clear h0_ h1_
              have HO_7 := n0_
              have HB := n1_
              clear n0_ n1_
              have hHeld : w15.cell? (ad432.add ((x8_1).toNat * 4)) = some (.int .i64 ((rd_T48 l0 x8_1).f0)) ∧ w15.cell? ⟨(ad432.add ((x8_1).toNat * 4)).block, (ad432.add ((x8_1).toNat * 4)).off + 1, none⟩ = some (.int .i64 ((rd_T48 l0 x8_1).f1)) ∧ w15.cell? ⟨(ad432.add ((x8_1).toNat * 4)).block, (ad432.add ((x8_1).toNat * 4)).off + 2, none⟩ = some (.int .i64 ((rd_T48 l0 x8_1).f2)) ∧ w15.cell? ⟨(ad432.add ((x8_1).toNat * 4)).block, (ad432.add ((x8_1).toNat * 4)).off + 3, none⟩ = some (.int .i64 ((rd_T48 l0 x8_1).f3)) ∧ w15.cell? (ad432.add ((x8_1).toNat * 4)) = some (.int .i64 ((rd_T48 l0 x8_1).f0)) ∧ w15.cell? ⟨(ad432.add ((x8_1).toNat * 4)).block, (ad432.add ((x8_1).toNat * 4)).off + 1, none⟩ = some (.int .i64 ((rd_T48 l0 x8_1).f1)) ∧ w15.cell? ⟨(ad432.add ((x8_1).toNat * 4)).block, (ad432.add ((x8_1).toNat * 4)).off + 2, none⟩ = some (.int .i64 ((rd_T48 l0 x8_1).f2)) ∧ w15.cell? ⟨(ad432.add ((x8_1).toNat * 4)).block, (ad432.add ((x8_1).toNat * 4)).off + 3, none⟩ = some (.int .i64 ((rd_T48 l0 x8_1).f3)) ∧ w15.cell? (ad432.add ((x8_1).toNat * 4)) = some (.int .i64 ((rd_T48 l0 x8_1).f0)) ∧ w15.cell? ⟨(ad432.add ((x8_1).toNat * 4)).block, (ad432.add ((x8_1).toNat * 4)).off + 1, none⟩ = some (.int .i64 ((rd_T48 l0 x8_1).f1)) ∧ w15.cell? ⟨(ad432.add ((x8_1).toNat * 4)).block, (ad432.add ((x8_1).toNat * 4)).off + 2, none⟩ = some (.int .i64 ((rd_T48 l0 x8_1).f2)) ∧ w15.cell? ⟨(ad432.add ((x8_1).toNat * 4)).block, (ad432.add ((x8_1).toNat * 4)).off + 3, none⟩ = some (.int .i64 ((rd_T48 l0 x8_1).f3)) ∧ w15.cell? (ad432.add ((x8_1).toNat * 4)) = some (.int .i64 ((rd_T48 l0 x8_1).f0)) ∧ w15.cell? ⟨(ad432.add ((x8_1).toNat * 4)).block, (ad432.add ((x8_1).toNat * 4)).off + 1, none⟩ = some (.int .i64 ((rd_T48 l0 x8_1).f1)) ∧ w15.cell? ⟨(ad432.add ((x8_1).toNat * 4)).block, (ad432.add ((x8_1).toNat * 4)).off + 2, none⟩ = some (.int .i64 ((rd_T48 l0 x8_1).f2)) ∧ w15.cell? ⟨(ad432.add ((x8_1).toNat * 4)).block, (ad432.add ((x8_1).toNat * 4)).off + 3, none⟩ = some (.int .i64 ((rd_T48 l0 x8_1).f3)) := hS_
              refine norm_ (a' := ?_) ?_ ?_
              rotate_left
              ·simp only [putAll, Act.put, List.setIfInBounds_toArray, List.set_cons_zero, List.set_cons_succ]
               rfl
              refine two_ (i := 20) (j := 29) (Ni := some 41) (Nj := some 9) #[true, true, true, true, true, true, true, true, true, true, true, true, true, true, true, true, true, true, true, true, true, true, true, true, true, true, true, false, false, false, false] #[true, true, true, true, true, true, true, true, true, true, true, true, true, true, true, true, true, true, true, true, false, true, true, true, true, true, true, false, false, true, false] rfl rfl rfl rfl (two_of HT_.out (by kernel_rfl)) (by decide) (by decide) (fun K hK => ?_) (fun K hK => ?_)
              ·skip
               refine gz Try.func35 #[.int .i64 ((rd_T48 l0 x8_1).f2), .int .i64 a2] ?_
               with_reducible refine (tickinglaw01_near.calls ((rd_T48 l0 x8_1).f2) a2 t437 _ A11.out).mono ?_
               rintro e w' ⟨rfl, ⟨nd, rfl⟩⟩
               refine ⟨_, rfl, ?_⟩
               refine hK.out _ _ ⟨((HB.out.cell (World.block_lt_of_cell? w _ hw432_0)).trans hw432_0), ((HB.out.cell (World.block_lt_of_cell? w _ hw432_1)).trans hw432_1), ((HB.out.cell (World.block_lt_of_cell? w _ hw432_2)).trans hw432_2), ((HB.out.cell (World.block_lt_of_cell? w _ hw432_3)).trans hw432_3), ((HB.out.cell (World.block_lt_of_cell? w _ hw434_0)).trans hw434_0), ((HB.out.cell (World.block_lt_of_cell? w _ hw434_1)).trans hw434_1), ((HB.out.cell (World.block_lt_of_cell? w _ hw434_2)).trans hw434_2), ((HB.out.cell (World.block_lt_of_cell? w _ hw434_3)).trans hw434_3), ((HB.out.cell (World.block_lt_of_cell? w _ hw436_0)).trans hw436_0), ((HB.out.cell (World.block_lt_of_cell? w _ hw436_1)).trans hw436_1), ((HB.out.cell (World.block_lt_of_cell? w _ hw436_2)).trans hw436_2), ((HB.out.cell (World.block_lt_of_cell? w _ hw436_3)).trans hw436_3), ((HB.out.cell (World.block_lt_of_cell? w _ hw438_0)).trans hw438_0), ((HB.out.cell (World.block_lt_of_cell? w _ hw438_1)).trans hw438_1), ((HB.out.cell (World.block_lt_of_cell? w _ hw438_2)).trans hw438_2), ((HB.out.cell (World.block_lt_of_cell? w _ hw438_3)).trans hw438_3)⟩ (fun hHeld => ?_)
               clear hK K
               refine nz (some 41) ?_
               exact norm_ (by first | (simp only [putAll, Act.put, List.setIfInBounds_toArray, List.set_cons_zero, List.set_cons_succ]; done) | (simp only [putAll, Act.put, List.setIfInBounds_toArray, List.set_cons_zero, List.set_cons_succ]; rfl)) (hJ6_13_20 () _ ⟨hHeld, (by (with_reducible repeat (first | apply Kd.R_alloc | apply Kd.R_drewN | apply Kd.R_drew)); exact HO_7.out), HBz⟩)
              ·skip
               refine bxS 9 #[.int .i64 0, .int .i64 0, .int .i64 0, .int .i64 0] 48 ?_
               intro gb440 hg w16 hbox hb
               have n0_ := Aside0.mk (Kd.R_below (Kd.R_elderB (by (with_reducible repeat (first | apply Kd.R_alloc | apply Kd.R_drewN | apply Kd.R_drew)); exact HO_7.out) gb440 (Nat.le_of_eq hg.symm)) hb)
               have n1_ := Aside0.mk (below_step HBz hb)
               have n2_ := Aside0.mk (hbox)
               have n3_ := Aside0.mk ((by rw [hg]; exact (below_size HBz) : w.heap.size ≤ gb440))
               have n4_ := Aside0.mk ((by rw [hg]; exact (below_size HBz) : w.heap.size ≤ gb440))
               clear HO_7
               clear HB
               have HO_7 := n0_
               have HB := n1_
               have BK440 := n2_
               have GW440 := n3_
               have GE440 := n4_
               clear n0_ n1_ n2_ n3_ n4_
               clear hb hbox hg
               refine hK.out _ _ ⟨((HB.out.cell (World.block_lt_of_cell? w _ hw432_0)).trans hw432_0), ((HB.out.cell (World.block_lt_of_cell? w _ hw432_1)).trans hw432_1), ((HB.out.cell (World.block_lt_of_cell? w _ hw432_2)).trans hw432_2), ((HB.out.cell (World.block_lt_of_cell? w _ hw432_3)).trans hw432_3), ((HB.out.cell (World.block_lt_of_cell? w _ hw434_0)).trans hw434_0), ((HB.out.cell (World.block_lt_of_cell? w _ hw434_1)).trans hw434_1), ((HB.out.cell (World.block_lt_of_cell? w _ hw434_2)).trans hw434_2), ((HB.out.cell (World.block_lt_of_cell? w _ hw434_3)).trans hw434_3), ((HB.out.cell (World.block_lt_of_cell? w _ hw436_0)).trans hw436_0), ((HB.out.cell (World.block_lt_of_cell? w _ hw436_1)).trans hw436_1), ((HB.out.cell (World.block_lt_of_cell? w _ hw436_2)).trans hw436_2), ((HB.out.cell (World.block_lt_of_cell? w _ hw436_3)).trans hw436_3), ((HB.out.cell (World.block_lt_of_cell? w _ hw438_0)).trans hw438_0), ((HB.out.cell (World.block_lt_of_cell? w _ hw438_1)).trans hw438_1), ((HB.out.cell (World.block_lt_of_cell? w _ hw438_2)).trans hw438_2), ((HB.out.cell (World.block_lt_of_cell? w _ hw438_3)).trans hw438_3)⟩ (fun hHeld => ?_)
               clear hK K
               refine nz (some 9) ?_
               exact norm_ (by first | (simp only [putAll, Act.put, List.setIfInBounds_toArray, List.set_cons_zero, List.set_cons_succ]; done) | (simp only [putAll, Act.put, List.setIfInBounds_toArray, List.set_cons_zero, List.set_cons_succ]; rfl)) (hJ6_13_29 (gb440) _ ⟨hHeld, (by (with_reducible repeat (first | apply Kd.R_alloc | apply Kd.R_drewN | apply Kd.R_drew)); exact Kd.R_mono HO_7.out (fun _ hk => hk.2)), BKz, GW440.out, GE440.out, HBz⟩)
            ·skip
             rintro gb440 w16 ⟨hS_, h0_, h1_, h2_, h3_, h4_⟩
             have n0_ : Aside0 (Kd.R k48 48 w16 w.heap.size (fun k_ => k_ ≠ gb440) u7 x7_1) := ⟨h0_⟩
             have n1_ : Aside0 (w16.heap[gb440]? = some (.cells #[.int .i64 0, .int .i64 0, .int .i64 0, .int .i64 0] 48 (0, 0))) := ⟨h1_⟩
             have n2_ : Aside0 (w.heap.size ≤ gb440) := ⟨h2_⟩
             have n3_ : Aside0 (w.heap.size ≤ gb440) := ⟨h3_⟩
             have n4_ : Aside0 (Below w.heap.size w w16) := ⟨h4_⟩
             clear HO_7
             clear HB
             clear h0_ h1_ h2_ h3_ h4_
             have HO_7 := n0_
             have BK440 := n1_
             have GW440 := n2_
             have GE440 := n3_
             have HB := n4_
             clear n0_ n1_ n2_ n3_ n4_
             have hHeld : w16.cell? (ad432.add ((x8_1).toNat * 4)) = some (.int .i64 ((rd_T48 l0 x8_1).f0)) ∧ w16.cell? ⟨(ad432.add ((x8_1).toNat * 4)).block, (ad432.add ((x8_1).toNat * 4)).off + 1, none⟩ = some (.int .i64 ((rd_T48 l0 x8_1).f1)) ∧ w16.cell? ⟨(ad432.add ((x8_1).toNat * 4)).block, (ad432.add ((x8_1).toNat * 4)).off + 2, none⟩ = some (.int .i64 ((rd_T48 l0 x8_1).f2)) ∧ w16.cell? ⟨(ad432.add ((x8_1).toNat * 4)).block, (ad432.add ((x8_1).toNat * 4)).off + 3, none⟩ = some (.int .i64 ((rd_T48 l0 x8_1).f3)) ∧ w16.cell? (ad432.add ((x8_1).toNat * 4)) = some (.int .i64 ((rd_T48 l0 x8_1).f0)) ∧ w16.cell? ⟨(ad432.add ((x8_1).toNat * 4)).block, (ad432.add ((x8_1).toNat * 4)).off + 1, none⟩ = some (.int .i64 ((rd_T48 l0 x8_1).f1)) ∧ w16.cell? ⟨(ad432.add ((x8_1).toNat * 4)).block, (ad432.add ((x8_1).toNat * 4)).off + 2, none⟩ = some (.int .i64 ((rd_T48 l0 x8_1).f2)) ∧ w16.cell? ⟨(ad432.add ((x8_1).toNat * 4)).block, (ad432.add ((x8_1).toNat * 4)).off + 3, none⟩ = some (.int .i64 ((rd_T48 l0 x8_1).f3)) ∧ w16.cell? (ad432.add ((x8_1).toNat * 4)) = some (.int .i64 ((rd_T48 l0 x8_1).f0)) ∧ w16.cell? ⟨(ad432.add ((x8_1).toNat * 4)).block, (ad432.add ((x8_1).toNat * 4)).off + 1, none⟩ = some (.int .i64 ((rd_T48 l0 x8_1).f1)) ∧ w16.cell? ⟨(ad432.add ((x8_1).toNat * 4)).block, (ad432.add ((x8_1).toNat * 4)).off + 2, none⟩ = some (.int .i64 ((rd_T48 l0 x8_1).f2)) ∧ w16.cell? ⟨(ad432.add ((x8_1).toNat * 4)).block, (ad432.add ((x8_1).toNat * 4)).off + 3, none⟩ = some (.int .i64 ((rd_T48 l0 x8_1).f3)) ∧ w16.cell? (ad432.add ((x8_1).toNat * 4)) = some (.int .i64 ((rd_T48 l0 x8_1).f0)) ∧ w16.cell? ⟨(ad432.add ((x8_1).toNat * 4)).block, (ad432.add ((x8_1).toNat * 4)).off + 1, none⟩ = some (.int .i64 ((rd_T48 l0 x8_1).f1)) ∧ w16.cell? ⟨(ad432.add ((x8_1).toNat * 4)).block, (ad432.add ((x8_1).toNat * 4)).off + 2, none⟩ = some (.int .i64 ((rd_T48 l0 x8_1).f2)) ∧ w16.cell? ⟨(ad432.add ((x8_1).toNat * 4)).block, (ad432.add ((x8_1).toNat * 4)).off + 3, none⟩ = some (.int .i64 ((rd_T48 l0 x8_1).f3)) := hS_
             refine norm_ (a' := ?_) ?_ ?_
             rotate_left
             ·simp only [putAll, Act.put, List.setIfInBounds_toArray, List.set_cons_zero, List.set_cons_succ]
              rfl
             refine oT HT_.out 20 (some 41) (bn 31 671088639) (fun K hK => ?_)
             refine gz Try.func35 #[.int .i64 ((rd_T48 l0 x8_1).f2), .int .i64 a2] ?_
             with_reducible refine (tickinglaw01_near.calls ((rd_T48 l0 x8_1).f2) a2 t437 _ A11.out).mono ?_
             rintro e w' ⟨rfl, ⟨nd, rfl⟩⟩
             refine ⟨_, rfl, ?_⟩
             refine hK.out _ _ ⟨((HB.out.cell (World.block_lt_of_cell? w _ hw432_0)).trans hw432_0), ((HB.out.cell (World.block_lt_of_cell? w _ hw432_1)).trans hw432_1), ((HB.out.cell (World.block_lt_of_cell? w _ hw432_2)).trans hw432_2), ((HB.out.cell (World.block_lt_of_cell? w _ hw432_3)).trans hw432_3), ((HB.out.cell (World.block_lt_of_cell? w _ hw434_0)).trans hw434_0), ((HB.out.cell (World.block_lt_of_cell? w _ hw434_1)).trans hw434_1), ((HB.out.cell (World.block_lt_of_cell? w _ hw434_2)).trans hw434_2), ((HB.out.cell (World.block_lt_of_cell? w _ hw434_3)).trans hw434_3), ((HB.out.cell (World.block_lt_of_cell? w _ hw436_0)).trans hw436_0), ((HB.out.cell (World.block_lt_of_cell? w _ hw436_1)).trans hw436_1), ((HB.out.cell (World.block_lt_of_cell? w _ hw436_2)).trans hw436_2), ((HB.out.cell (World.block_lt_of_cell? w _ hw436_3)).trans hw436_3), ((HB.out.cell (World.block_lt_of_cell? w _ hw438_0)).trans hw438_0), ((HB.out.cell (World.block_lt_of_cell? w _ hw438_1)).trans hw438_1), ((HB.out.cell (World.block_lt_of_cell? w _ hw438_2)).trans hw438_2), ((HB.out.cell (World.block_lt_of_cell? w _ hw438_3)).trans hw438_3)⟩ (fun hHeld => ?_)
             clear hK K
             refine nz (some 41) ?_
             exact norm_ (by first | (simp only [putAll, Act.put, List.setIfInBounds_toArray, List.set_cons_zero, List.set_cons_succ]; done) | (simp only [putAll, Act.put, List.setIfInBounds_toArray, List.set_cons_zero, List.set_cons_succ]; rfl)) (hJ6_13_20_29 (gb440) _ ⟨hHeld, (by (with_reducible repeat (first | apply Kd.R_alloc | apply Kd.R_drewN | apply Kd.R_drew)); exact HO_7.out), BKz, GW440.out, GE440.out, HBz⟩)
           ·skip
            rintro _ w15 ⟨hS_, h0_, h1_⟩
            have n0_ : Aside0 (Kd.R k48 48 w15 w.heap.size (fun _ => True) u7 x7_1) := ⟨h0_⟩
            have n1_ : Aside0 (Below w.heap.size w w15) := ⟨h1_⟩
            clear HO_7
            clear HB
            clear h0_ h1_
            have HO_7 := n0_
            have HB := n1_
            clear n0_ n1_
            have hHeld : w15.cell? (ad432.add ((x8_1).toNat * 4)) = some (.int .i64 ((rd_T48 l0 x8_1).f0)) ∧ w15.cell? ⟨(ad432.add ((x8_1).toNat * 4)).block, (ad432.add ((x8_1).toNat * 4)).off + 1, none⟩ = some (.int .i64 ((rd_T48 l0 x8_1).f1)) ∧ w15.cell? ⟨(ad432.add ((x8_1).toNat * 4)).block, (ad432.add ((x8_1).toNat * 4)).off + 2, none⟩ = some (.int .i64 ((rd_T48 l0 x8_1).f2)) ∧ w15.cell? ⟨(ad432.add ((x8_1).toNat * 4)).block, (ad432.add ((x8_1).toNat * 4)).off + 3, none⟩ = some (.int .i64 ((rd_T48 l0 x8_1).f3)) ∧ w15.cell? (ad432.add ((x8_1).toNat * 4)) = some (.int .i64 ((rd_T48 l0 x8_1).f0)) ∧ w15.cell? ⟨(ad432.add ((x8_1).toNat * 4)).block, (ad432.add ((x8_1).toNat * 4)).off + 1, none⟩ = some (.int .i64 ((rd_T48 l0 x8_1).f1)) ∧ w15.cell? ⟨(ad432.add ((x8_1).toNat * 4)).block, (ad432.add ((x8_1).toNat * 4)).off + 2, none⟩ = some (.int .i64 ((rd_T48 l0 x8_1).f2)) ∧ w15.cell? ⟨(ad432.add ((x8_1).toNat * 4)).block, (ad432.add ((x8_1).toNat * 4)).off + 3, none⟩ = some (.int .i64 ((rd_T48 l0 x8_1).f3)) ∧ w15.cell? (ad432.add ((x8_1).toNat * 4)) = some (.int .i64 ((rd_T48 l0 x8_1).f0)) ∧ w15.cell? ⟨(ad432.add ((x8_1).toNat * 4)).block, (ad432.add ((x8_1).toNat * 4)).off + 1, none⟩ = some (.int .i64 ((rd_T48 l0 x8_1).f1)) ∧ w15.cell? ⟨(ad432.add ((x8_1).toNat * 4)).block, (ad432.add ((x8_1).toNat * 4)).off + 2, none⟩ = some (.int .i64 ((rd_T48 l0 x8_1).f2)) ∧ w15.cell? ⟨(ad432.add ((x8_1).toNat * 4)).block, (ad432.add ((x8_1).toNat * 4)).off + 3, none⟩ = some (.int .i64 ((rd_T48 l0 x8_1).f3)) ∧ w15.cell? (ad432.add ((x8_1).toNat * 4)) = some (.int .i64 ((rd_T48 l0 x8_1).f0)) ∧ w15.cell? ⟨(ad432.add ((x8_1).toNat * 4)).block, (ad432.add ((x8_1).toNat * 4)).off + 1, none⟩ = some (.int .i64 ((rd_T48 l0 x8_1).f1)) ∧ w15.cell? ⟨(ad432.add ((x8_1).toNat * 4)).block, (ad432.add ((x8_1).toNat * 4)).off + 2, none⟩ = some (.int .i64 ((rd_T48 l0 x8_1).f2)) ∧ w15.cell? ⟨(ad432.add ((x8_1).toNat * 4)).block, (ad432.add ((x8_1).toNat * 4)).off + 3, none⟩ = some (.int .i64 ((rd_T48 l0 x8_1).f3)) := hS_
            refine norm_ (a' := ?_) ?_ ?_
            rotate_left
            ·simp only [putAll, Act.put, List.setIfInBounds_toArray, List.set_cons_zero, List.set_cons_succ]
             rfl
            refine two_ (i := 27) (j := 29) (Ni := some 48) (Nj := some 9) #[true, true, true, true, true, true, true, true, true, true, true, true, true, true, true, true, true, true, true, true, true, true, true, true, true, true, true, true, false, false, false] #[true, true, true, true, true, true, true, true, true, true, true, true, true, true, true, true, true, true, true, true, true, true, true, true, true, true, true, false, false, true, false] rfl rfl rfl rfl (two_of HT_.out (by kernel_rfl)) (by decide) (by decide) (fun K hK => ?_) (fun K hK => ?_)
            ·skip
             refine gz Try.func35 #[.int .i64 ((rd_T48 l0 x8_1).f3), .int .i64 a2] ?_
             with_reducible refine (tickinglaw01_near.calls ((rd_T48 l0 x8_1).f3) a2 t439 _ A12.out).mono ?_
             rintro e w' ⟨rfl, ⟨nd, rfl⟩⟩
             refine ⟨_, rfl, ?_⟩
             refine hK.out _ _ ⟨((HB.out.cell (World.block_lt_of_cell? w _ hw432_0)).trans hw432_0), ((HB.out.cell (World.block_lt_of_cell? w _ hw432_1)).trans hw432_1), ((HB.out.cell (World.block_lt_of_cell? w _ hw432_2)).trans hw432_2), ((HB.out.cell (World.block_lt_of_cell? w _ hw432_3)).trans hw432_3), ((HB.out.cell (World.block_lt_of_cell? w _ hw434_0)).trans hw434_0), ((HB.out.cell (World.block_lt_of_cell? w _ hw434_1)).trans hw434_1), ((HB.out.cell (World.block_lt_of_cell? w _ hw434_2)).trans hw434_2), ((HB.out.cell (World.block_lt_of_cell? w _ hw434_3)).trans hw434_3), ((HB.out.cell (World.block_lt_of_cell? w _ hw436_0)).trans hw436_0), ((HB.out.cell (World.block_lt_of_cell? w _ hw436_1)).trans hw436_1), ((HB.out.cell (World.block_lt_of_cell? w _ hw436_2)).trans hw436_2), ((HB.out.cell (World.block_lt_of_cell? w _ hw436_3)).trans hw436_3), ((HB.out.cell (World.block_lt_of_cell? w _ hw438_0)).trans hw438_0), ((HB.out.cell (World.block_lt_of_cell? w _ hw438_1)).trans hw438_1), ((HB.out.cell (World.block_lt_of_cell? w _ hw438_2)).trans hw438_2), ((HB.out.cell (World.block_lt_of_cell? w _ hw438_3)).trans hw438_3)⟩ (fun hHeld => ?_)
             clear hK K
             refine nz (some 48) ?_
             refine pT HT_.out 28 (some 49) (bn 31 536870911) ?_
             exact norm_ (by first | (simp only [putAll, Act.put, List.setIfInBounds_toArray, List.set_cons_zero, List.set_cons_succ]; done) | (simp only [putAll, Act.put, List.setIfInBounds_toArray, List.set_cons_zero, List.set_cons_succ]; rfl)) (hJ6_13_20_27 () _ ⟨hHeld, (by (with_reducible repeat (first | apply Kd.R_alloc | apply Kd.R_drewN | apply Kd.R_drew)); exact HO_7.out), HBz⟩)
            ·skip
             refine bxS 9 #[.int .i64 0, .int .i64 0, .int .i64 0, .int .i64 0] 48 ?_
             intro gb440 hg w16 hbox hb
             have n0_ := Aside0.mk (Kd.R_below (Kd.R_elderB (by (with_reducible repeat (first | apply Kd.R_alloc | apply Kd.R_drewN | apply Kd.R_drew)); exact HO_7.out) gb440 (Nat.le_of_eq hg.symm)) hb)
             have n1_ := Aside0.mk (below_step HBz hb)
             have n2_ := Aside0.mk (hbox)
             have n3_ := Aside0.mk ((by rw [hg]; exact (below_size HBz) : w.heap.size ≤ gb440))
             have n4_ := Aside0.mk ((by rw [hg]; exact (below_size HBz) : w.heap.size ≤ gb440))
             clear HO_7
             clear HB
             have HO_7 := n0_
             have HB := n1_
             have BK440 := n2_
             have GW440 := n3_
             have GE440 := n4_
             clear n0_ n1_ n2_ n3_ n4_
             clear hb hbox hg
             refine hK.out _ _ ⟨((HB.out.cell (World.block_lt_of_cell? w _ hw432_0)).trans hw432_0), ((HB.out.cell (World.block_lt_of_cell? w _ hw432_1)).trans hw432_1), ((HB.out.cell (World.block_lt_of_cell? w _ hw432_2)).trans hw432_2), ((HB.out.cell (World.block_lt_of_cell? w _ hw432_3)).trans hw432_3), ((HB.out.cell (World.block_lt_of_cell? w _ hw434_0)).trans hw434_0), ((HB.out.cell (World.block_lt_of_cell? w _ hw434_1)).trans hw434_1), ((HB.out.cell (World.block_lt_of_cell? w _ hw434_2)).trans hw434_2), ((HB.out.cell (World.block_lt_of_cell? w _ hw434_3)).trans hw434_3), ((HB.out.cell (World.block_lt_of_cell? w _ hw436_0)).trans hw436_0), ((HB.out.cell (World.block_lt_of_cell? w _ hw436_1)).trans hw436_1), ((HB.out.cell (World.block_lt_of_cell? w _ hw436_2)).trans hw436_2), ((HB.out.cell (World.block_lt_of_cell? w _ hw436_3)).trans hw436_3), ((HB.out.cell (World.block_lt_of_cell? w _ hw438_0)).trans hw438_0), ((HB.out.cell (World.block_lt_of_cell? w _ hw438_1)).trans hw438_1), ((HB.out.cell (World.block_lt_of_cell? w _ hw438_2)).trans hw438_2), ((HB.out.cell (World.block_lt_of_cell? w _ hw438_3)).trans hw438_3)⟩ (fun hHeld => ?_)
             clear hK K
             refine nz (some 9) ?_
             exact norm_ (by first | (simp only [putAll, Act.put, List.setIfInBounds_toArray, List.set_cons_zero, List.set_cons_succ]; done) | (simp only [putAll, Act.put, List.setIfInBounds_toArray, List.set_cons_zero, List.set_cons_succ]; rfl)) (hJ6_13_20_29 (gb440) _ ⟨hHeld, (by (with_reducible repeat (first | apply Kd.R_alloc | apply Kd.R_drewN | apply Kd.R_drew)); exact Kd.R_mono HO_7.out (fun _ hk => hk.2)), BKz, GW440.out, GE440.out, HBz⟩)
          ·skip
           rintro gb440 w16 ⟨hS_, h0_, h1_, h2_, h3_, h4_⟩
           have n0_ : Aside0 (Kd.R k48 48 w16 w.heap.size (fun k_ => k_ ≠ gb440) u7 x7_1) := ⟨h0_⟩
           have n1_ : Aside0 (w16.heap[gb440]? = some (.cells #[.int .i64 0, .int .i64 0, .int .i64 0, .int .i64 0] 48 (0, 0))) := ⟨h1_⟩
           have n2_ : Aside0 (w.heap.size ≤ gb440) := ⟨h2_⟩
           have n3_ : Aside0 (w.heap.size ≤ gb440) := ⟨h3_⟩
           have n4_ : Aside0 (Below w.heap.size w w16) := ⟨h4_⟩
           clear HO_7
           clear HB
           clear h0_ h1_ h2_ h3_ h4_
           have HO_7 := n0_
           have BK440 := n1_
           have GW440 := n2_
           have GE440 := n3_
           have HB := n4_
           clear n0_ n1_ n2_ n3_ n4_
           have hHeld : w16.cell? (ad432.add ((x8_1).toNat * 4)) = some (.int .i64 ((rd_T48 l0 x8_1).f0)) ∧ w16.cell? ⟨(ad432.add ((x8_1).toNat * 4)).block, (ad432.add ((x8_1).toNat * 4)).off + 1, none⟩ = some (.int .i64 ((rd_T48 l0 x8_1).f1)) ∧ w16.cell? ⟨(ad432.add ((x8_1).toNat * 4)).block, (ad432.add ((x8_1).toNat * 4)).off + 2, none⟩ = some (.int .i64 ((rd_T48 l0 x8_1).f2)) ∧ w16.cell? ⟨(ad432.add ((x8_1).toNat * 4)).block, (ad432.add ((x8_1).toNat * 4)).off + 3, none⟩ = some (.int .i64 ((rd_T48 l0 x8_1).f3)) ∧ w16.cell? (ad432.add ((x8_1).toNat * 4)) = some (.int .i64 ((rd_T48 l0 x8_1).f0)) ∧ w16.cell? ⟨(ad432.add ((x8_1).toNat * 4)).block, (ad432.add ((x8_1).toNat * 4)).off + 1, none⟩ = some (.int .i64 ((rd_T48 l0 x8_1).f1)) ∧ w16.cell? ⟨(ad432.add ((x8_1).toNat * 4)).block, (ad432.add ((x8_1).toNat * 4)).off + 2, none⟩ = some (.int .i64 ((rd_T48 l0 x8_1).f2)) ∧ w16.cell? ⟨(ad432.add ((x8_1).toNat * 4)).block, (ad432.add ((x8_1).toNat * 4)).off + 3, none⟩ = some (.int .i64 ((rd_T48 l0 x8_1).f3)) ∧ w16.cell? (ad432.add ((x8_1).toNat * 4)) = some (.int .i64 ((rd_T48 l0 x8_1).f0)) ∧ w16.cell? ⟨(ad432.add ((x8_1).toNat * 4)).block, (ad432.add ((x8_1).toNat * 4)).off + 1, none⟩ = some (.int .i64 ((rd_T48 l0 x8_1).f1)) ∧ w16.cell? ⟨(ad432.add ((x8_1).toNat * 4)).block, (ad432.add ((x8_1).toNat * 4)).off + 2, none⟩ = some (.int .i64 ((rd_T48 l0 x8_1).f2)) ∧ w16.cell? ⟨(ad432.add ((x8_1).toNat * 4)).block, (ad432.add ((x8_1).toNat * 4)).off + 3, none⟩ = some (.int .i64 ((rd_T48 l0 x8_1).f3)) ∧ w16.cell? (ad432.add ((x8_1).toNat * 4)) = some (.int .i64 ((rd_T48 l0 x8_1).f0)) ∧ w16.cell? ⟨(ad432.add ((x8_1).toNat * 4)).block, (ad432.add ((x8_1).toNat * 4)).off + 1, none⟩ = some (.int .i64 ((rd_T48 l0 x8_1).f1)) ∧ w16.cell? ⟨(ad432.add ((x8_1).toNat * 4)).block, (ad432.add ((x8_1).toNat * 4)).off + 2, none⟩ = some (.int .i64 ((rd_T48 l0 x8_1).f2)) ∧ w16.cell? ⟨(ad432.add ((x8_1).toNat * 4)).block, (ad432.add ((x8_1).toNat * 4)).off + 3, none⟩ = some (.int .i64 ((rd_T48 l0 x8_1).f3)) := hS_
           refine norm_ (a' := ?_) ?_ ?_
           rotate_left
           ·simp only [putAll, Act.put, List.setIfInBounds_toArray, List.set_cons_zero, List.set_cons_succ]
            rfl
           refine oT HT_.out 27 (some 48) (bn 31 805306367) (fun K hK => ?_)
           refine gz Try.func35 #[.int .i64 ((rd_T48 l0 x8_1).f3), .int .i64 a2] ?_
           with_reducible refine (tickinglaw01_near.calls ((rd_T48 l0 x8_1).f3) a2 t439 _ A12.out).mono ?_
           rintro e w' ⟨rfl, ⟨nd, rfl⟩⟩
           refine ⟨_, rfl, ?_⟩
           refine hK.out _ _ ⟨((HB.out.cell (World.block_lt_of_cell? w _ hw432_0)).trans hw432_0), ((HB.out.cell (World.block_lt_of_cell? w _ hw432_1)).trans hw432_1), ((HB.out.cell (World.block_lt_of_cell? w _ hw432_2)).trans hw432_2), ((HB.out.cell (World.block_lt_of_cell? w _ hw432_3)).trans hw432_3), ((HB.out.cell (World.block_lt_of_cell? w _ hw434_0)).trans hw434_0), ((HB.out.cell (World.block_lt_of_cell? w _ hw434_1)).trans hw434_1), ((HB.out.cell (World.block_lt_of_cell? w _ hw434_2)).trans hw434_2), ((HB.out.cell (World.block_lt_of_cell? w _ hw434_3)).trans hw434_3), ((HB.out.cell (World.block_lt_of_cell? w _ hw436_0)).trans hw436_0), ((HB.out.cell (World.block_lt_of_cell? w _ hw436_1)).trans hw436_1), ((HB.out.cell (World.block_lt_of_cell? w _ hw436_2)).trans hw436_2), ((HB.out.cell (World.block_lt_of_cell? w _ hw436_3)).trans hw436_3), ((HB.out.cell (World.block_lt_of_cell? w _ hw438_0)).trans hw438_0), ((HB.out.cell (World.block_lt_of_cell? w _ hw438_1)).trans hw438_1), ((HB.out.cell (World.block_lt_of_cell? w _ hw438_2)).trans hw438_2), ((HB.out.cell (World.block_lt_of_cell? w _ hw438_3)).trans hw438_3)⟩ (fun hHeld => ?_)
           clear hK K
           refine nz (some 48) ?_
           refine pT HT_.out 28 (some 49) (bn 31 1073741823) ?_
           exact norm_ (by first | (simp only [putAll, Act.put, List.setIfInBounds_toArray, List.set_cons_zero, List.set_cons_succ]; done) | (simp only [putAll, Act.put, List.setIfInBounds_toArray, List.set_cons_zero, List.set_cons_succ]; rfl)) (hJ6_13_20_27_29 (gb440) _ ⟨hHeld, (by (with_reducible repeat (first | apply Kd.R_alloc | apply Kd.R_drewN | apply Kd.R_drew)); exact HO_7.out), BKz, GW440.out, GE440.out, HBz⟩)
         ·skip
          rintro _ w15 ⟨hS_, h0_, h1_⟩
          have n0_ : Aside0 (Kd.R k48 48 w15 w.heap.size (fun _ => True) u7 x7_1) := ⟨h0_⟩
          have n1_ : Aside0 (Below w.heap.size w w15) := ⟨h1_⟩
          clear HO_7
          clear HB
          clear h0_ h1_
          have HO_7 := n0_
          have HB := n1_
          clear n0_ n1_
          have hHeld : w15.cell? (ad432.add ((x8_1).toNat * 4)) = some (.int .i64 ((rd_T48 l0 x8_1).f0)) ∧ w15.cell? ⟨(ad432.add ((x8_1).toNat * 4)).block, (ad432.add ((x8_1).toNat * 4)).off + 1, none⟩ = some (.int .i64 ((rd_T48 l0 x8_1).f1)) ∧ w15.cell? ⟨(ad432.add ((x8_1).toNat * 4)).block, (ad432.add ((x8_1).toNat * 4)).off + 2, none⟩ = some (.int .i64 ((rd_T48 l0 x8_1).f2)) ∧ w15.cell? ⟨(ad432.add ((x8_1).toNat * 4)).block, (ad432.add ((x8_1).toNat * 4)).off + 3, none⟩ = some (.int .i64 ((rd_T48 l0 x8_1).f3)) ∧ w15.cell? (ad432.add ((x8_1).toNat * 4)) = some (.int .i64 ((rd_T48 l0 x8_1).f0)) ∧ w15.cell? ⟨(ad432.add ((x8_1).toNat * 4)).block, (ad432.add ((x8_1).toNat * 4)).off + 1, none⟩ = some (.int .i64 ((rd_T48 l0 x8_1).f1)) ∧ w15.cell? ⟨(ad432.add ((x8_1).toNat * 4)).block, (ad432.add ((x8_1).toNat * 4)).off + 2, none⟩ = some (.int .i64 ((rd_T48 l0 x8_1).f2)) ∧ w15.cell? ⟨(ad432.add ((x8_1).toNat * 4)).block, (ad432.add ((x8_1).toNat * 4)).off + 3, none⟩ = some (.int .i64 ((rd_T48 l0 x8_1).f3)) ∧ w15.cell? (ad432.add ((x8_1).toNat * 4)) = some (.int .i64 ((rd_T48 l0 x8_1).f0)) ∧ w15.cell? ⟨(ad432.add ((x8_1).toNat * 4)).block, (ad432.add ((x8_1).toNat * 4)).off + 1, none⟩ = some (.int .i64 ((rd_T48 l0 x8_1).f1)) ∧ w15.cell? ⟨(ad432.add ((x8_1).toNat * 4)).block, (ad432.add ((x8_1).toNat * 4)).off + 2, none⟩ = some (.int .i64 ((rd_T48 l0 x8_1).f2)) ∧ w15.cell? ⟨(ad432.add ((x8_1).toNat * 4)).block, (ad432.add ((x8_1).toNat * 4)).off + 3, none⟩ = some (.int .i64 ((rd_T48 l0 x8_1).f3)) ∧ w15.cell? (ad432.add ((x8_1).toNat * 4)) = some (.int .i64 ((rd_T48 l0 x8_1).f0)) ∧ w15.cell? ⟨(ad432.add ((x8_1).toNat * 4)).block, (ad432.add ((x8_1).toNat * 4)).off + 1, none⟩ = some (.int .i64 ((rd_T48 l0 x8_1).f1)) ∧ w15.cell? ⟨(ad432.add ((x8_1).toNat * 4)).block, (ad432.add ((x8_1).toNat * 4)).off + 2, none⟩ = some (.int .i64 ((rd_T48 l0 x8_1).f2)) ∧ w15.cell? ⟨(ad432.add ((x8_1).toNat * 4)).block, (ad432.add ((x8_1).toNat * 4)).off + 3, none⟩ = some (.int .i64 ((rd_T48 l0 x8_1).f3)) := hS_
          refine norm_ (a' := ?_) ?_ ?_
          rotate_left
          ·simp only [putAll, Act.put, List.setIfInBounds_toArray, List.set_cons_zero, List.set_cons_succ]
           rfl
          refine oT HT_.out 29 (some 9) (bn 31 1073741823) (fun K hK => ?_)
          refine bxS 9 #[.int .i64 0, .int .i64 0, .int .i64 0, .int .i64 0] 48 ?_
          intro gb440 hg w16 hbox hb
          have n0_ := Aside0.mk (Kd.R_below (Kd.R_elderB (by (with_reducible repeat (first | apply Kd.R_alloc | apply Kd.R_drewN | apply Kd.R_drew)); exact HO_7.out) gb440 (Nat.le_of_eq hg.symm)) hb)
          have n1_ := Aside0.mk (below_step HBz hb)
          have n2_ := Aside0.mk (hbox)
          have n3_ := Aside0.mk ((by rw [hg]; exact (below_size HBz) : w.heap.size ≤ gb440))
          have n4_ := Aside0.mk ((by rw [hg]; exact (below_size HBz) : w.heap.size ≤ gb440))
          clear HO_7
          clear HB
          have HO_7 := n0_
          have HB := n1_
          have BK440 := n2_
          have GW440 := n3_
          have GE440 := n4_
          clear n0_ n1_ n2_ n3_ n4_
          clear hb hbox hg
          refine hK.out _ _ ⟨((HB.out.cell (World.block_lt_of_cell? w _ hw432_0)).trans hw432_0), ((HB.out.cell (World.block_lt_of_cell? w _ hw432_1)).trans hw432_1), ((HB.out.cell (World.block_lt_of_cell? w _ hw432_2)).trans hw432_2), ((HB.out.cell (World.block_lt_of_cell? w _ hw432_3)).trans hw432_3), ((HB.out.cell (World.block_lt_of_cell? w _ hw434_0)).trans hw434_0), ((HB.out.cell (World.block_lt_of_cell? w _ hw434_1)).trans hw434_1), ((HB.out.cell (World.block_lt_of_cell? w _ hw434_2)).trans hw434_2), ((HB.out.cell (World.block_lt_of_cell? w _ hw434_3)).trans hw434_3), ((HB.out.cell (World.block_lt_of_cell? w _ hw436_0)).trans hw436_0), ((HB.out.cell (World.block_lt_of_cell? w _ hw436_1)).trans hw436_1), ((HB.out.cell (World.block_lt_of_cell? w _ hw436_2)).trans hw436_2), ((HB.out.cell (World.block_lt_of_cell? w _ hw436_3)).trans hw436_3), ((HB.out.cell (World.block_lt_of_cell? w _ hw438_0)).trans hw438_0), ((HB.out.cell (World.block_lt_of_cell? w _ hw438_1)).trans hw438_1), ((HB.out.cell (World.block_lt_of_cell? w _ hw438_2)).trans hw438_2), ((HB.out.cell (World.block_lt_of_cell? w _ hw438_3)).trans hw438_3)⟩ (fun hHeld => ?_)
          clear hK K
          refine nz (some 9) ?_
          exact norm_ (by first | (simp only [putAll, Act.put, List.setIfInBounds_toArray, List.set_cons_zero, List.set_cons_succ]; done) | (simp only [putAll, Act.put, List.setIfInBounds_toArray, List.set_cons_zero, List.set_cons_succ]; rfl)) (hJ6_13_20_27_29 (gb440) _ ⟨hHeld, (by (with_reducible repeat (first | apply Kd.R_alloc | apply Kd.R_drewN | apply Kd.R_drew)); exact Kd.R_mono HO_7.out (fun _ hk => hk.2)), BKz, GW440.out, GE440.out, HBz⟩)
        rintro gb440 w16 ⟨hS_, h0_, h1_, h2_, h3_, h4_⟩
        have n0_ : Aside0 (Kd.R k48 48 w16 w.heap.size (fun k_ => k_ ≠ gb440) u7 x7_1) := ⟨h0_⟩
        have n1_ : Aside0 (w16.heap[gb440]? = some (.cells #[.int .i64 0, .int .i64 0, .int .i64 0, .int .i64 0] 48 (0, 0))) := ⟨h1_⟩
        have n2_ : Aside0 (w.heap.size ≤ gb440) := ⟨h2_⟩
        have n3_ : Aside0 (w.heap.size ≤ gb440) := ⟨h3_⟩
        have n4_ : Aside0 (Below w.heap.size w w16) := ⟨h4_⟩
        clear HO_7
        clear HB
        clear h0_ h1_ h2_ h3_ h4_
        have HO_7 := n0_
        have BK440 := n1_
        have GW440 := n2_
        have GE440 := n3_
        have HB := n4_
        clear n0_ n1_ n2_ n3_ n4_
        have hHeld : w16.cell? (ad432.add ((x8_1).toNat * 4)) = some (.int .i64 ((rd_T48 l0 x8_1).f0)) ∧ w16.cell? ⟨(ad432.add ((x8_1).toNat * 4)).block, (ad432.add ((x8_1).toNat * 4)).off + 1, none⟩ = some (.int .i64 ((rd_T48 l0 x8_1).f1)) ∧ w16.cell? ⟨(ad432.add ((x8_1).toNat * 4)).block, (ad432.add ((x8_1).toNat * 4)).off + 2, none⟩ = some (.int .i64 ((rd_T48 l0 x8_1).f2)) ∧ w16.cell? ⟨(ad432.add ((x8_1).toNat * 4)).block, (ad432.add ((x8_1).toNat * 4)).off + 3, none⟩ = some (.int .i64 ((rd_T48 l0 x8_1).f3)) ∧ w16.cell? (ad432.add ((x8_1).toNat * 4)) = some (.int .i64 ((rd_T48 l0 x8_1).f0)) ∧ w16.cell? ⟨(ad432.add ((x8_1).toNat * 4)).block, (ad432.add ((x8_1).toNat * 4)).off + 1, none⟩ = some (.int .i64 ((rd_T48 l0 x8_1).f1)) ∧ w16.cell? ⟨(ad432.add ((x8_1).toNat * 4)).block, (ad432.add ((x8_1).toNat * 4)).off + 2, none⟩ = some (.int .i64 ((rd_T48 l0 x8_1).f2)) ∧ w16.cell? ⟨(ad432.add ((x8_1).toNat * 4)).block, (ad432.add ((x8_1).toNat * 4)).off + 3, none⟩ = some (.int .i64 ((rd_T48 l0 x8_1).f3)) ∧ w16.cell? (ad432.add ((x8_1).toNat * 4)) = some (.int .i64 ((rd_T48 l0 x8_1).f0)) ∧ w16.cell? ⟨(ad432.add ((x8_1).toNat * 4)).block, (ad432.add ((x8_1).toNat * 4)).off + 1, none⟩ = some (.int .i64 ((rd_T48 l0 x8_1).f1)) ∧ w16.cell? ⟨(ad432.add ((x8_1).toNat * 4)).block, (ad432.add ((x8_1).toNat * 4)).off + 2, none⟩ = some (.int .i64 ((rd_T48 l0 x8_1).f2)) ∧ w16.cell? ⟨(ad432.add ((x8_1).toNat * 4)).block, (ad432.add ((x8_1).toNat * 4)).off + 3, none⟩ = some (.int .i64 ((rd_T48 l0 x8_1).f3)) ∧ w16.cell? (ad432.add ((x8_1).toNat * 4)) = some (.int .i64 ((rd_T48 l0 x8_1).f0)) ∧ w16.cell? ⟨(ad432.add ((x8_1).toNat * 4)).block, (ad432.add ((x8_1).toNat * 4)).off + 1, none⟩ = some (.int .i64 ((rd_T48 l0 x8_1).f1)) ∧ w16.cell? ⟨(ad432.add ((x8_1).toNat * 4)).block, (ad432.add ((x8_1).toNat * 4)).off + 2, none⟩ = some (.int .i64 ((rd_T48 l0 x8_1).f2)) ∧ w16.cell? ⟨(ad432.add ((x8_1).toNat * 4)).block, (ad432.add ((x8_1).toNat * 4)).off + 3, none⟩ = some (.int .i64 ((rd_T48 l0 x8_1).f3)) := hS_
        refine norm_ (a' := ?_) ?_ ?_
        rotate_left
        ·simp only [putAll, Act.put, List.setIfInBounds_toArray, List.set_cons_zero, List.set_cons_succ]
         rfl
        refine oT HT_.out 30 none (bn 31 2147483647) (fun K hK => ?_)
        have hs17 : w16.cell? ⟨gb440, 0, none⟩ = some (.int .i64 0) := (blk_cell BK440.out 0).trans rfl
        have hfs17 := blk_frozen BK440.out 0
        have hs18 : w16.cell? ⟨gb440, 1, none⟩ = some (.int .i64 0) := (blk_cell BK440.out 1).trans rfl
        have hfs18 := blk_frozen BK440.out 1
        have hs19 : w16.cell? ⟨gb440, 2, none⟩ = some (.int .i64 0) := (blk_cell BK440.out 2).trans rfl
        have hfs19 := blk_frozen BK440.out 2
        have hs20 : w16.cell? ⟨gb440, 3, none⟩ = some (.int .i64 0) := (blk_cell BK440.out 3).trans rfl
        have hfs20 := blk_frozen BK440.out 3
        refine sz ?_
        refine hK.out _ _ ⟨((cell_far (p := ⟨gb440, _, none⟩) (by first | exact Nat.ne_of_lt (Nat.lt_of_lt_of_le (by have := World.block_lt_of_cell? _ _ hw432_0; first | rwa [add_block] at this | exact this) GW440.out) | (rw [add_block]; exact Nat.ne_of_lt (Nat.lt_of_lt_of_le (by have := World.block_lt_of_cell? _ _ hw432_0; first | rwa [add_block] at this | exact this) GW440.out)) | (show (Addr.add _ _).block ≠ _; rw [add_block]; exact Nat.ne_of_lt (Nat.lt_of_lt_of_le (by have := World.block_lt_of_cell? _ _ hw432_0; first | rwa [add_block] at this | exact this) GW440.out)) | (dsimp only; exact Nat.ne_of_lt (Nat.lt_of_lt_of_le (by have := World.block_lt_of_cell? _ _ hw432_0; first | rwa [add_block] at this | exact this) GW440.out))) _).trans (((cell_far (p := ⟨gb440, _, none⟩) (by first | exact Nat.ne_of_lt (Nat.lt_of_lt_of_le (by have := World.block_lt_of_cell? _ _ hw432_0; first | rwa [add_block] at this | exact this) GW440.out) | (rw [add_block]; exact Nat.ne_of_lt (Nat.lt_of_lt_of_le (by have := World.block_lt_of_cell? _ _ hw432_0; first | rwa [add_block] at this | exact this) GW440.out)) | (show (Addr.add _ _).block ≠ _; rw [add_block]; exact Nat.ne_of_lt (Nat.lt_of_lt_of_le (by have := World.block_lt_of_cell? _ _ hw432_0; first | rwa [add_block] at this | exact this) GW440.out)) | (dsimp only; exact Nat.ne_of_lt (Nat.lt_of_lt_of_le (by have := World.block_lt_of_cell? _ _ hw432_0; first | rwa [add_block] at this | exact this) GW440.out))) _).trans (((cell_far (p := ⟨gb440, _, none⟩) (by first | exact Nat.ne_of_lt (Nat.lt_of_lt_of_le (by have := World.block_lt_of_cell? _ _ hw432_0; first | rwa [add_block] at this | exact this) GW440.out) | (rw [add_block]; exact Nat.ne_of_lt (Nat.lt_of_lt_of_le (by have := World.block_lt_of_cell? _ _ hw432_0; first | rwa [add_block] at this | exact this) GW440.out)) | (show (Addr.add _ _).block ≠ _; rw [add_block]; exact Nat.ne_of_lt (Nat.lt_of_lt_of_le (by have := World.block_lt_of_cell? _ _ hw432_0; first | rwa [add_block] at this | exact this) GW440.out)) | (dsimp only; exact Nat.ne_of_lt (Nat.lt_of_lt_of_le (by have := World.block_lt_of_cell? _ _ hw432_0; first | rwa [add_block] at this | exact this) GW440.out))) _).trans (((cell_far (p := ⟨gb440, _, none⟩) (by first | exact Nat.ne_of_lt (Nat.lt_of_lt_of_le (by have := World.block_lt_of_cell? _ _ hw432_0; first | rwa [add_block] at this | exact this) GW440.out) | (rw [add_block]; exact Nat.ne_of_lt (Nat.lt_of_lt_of_le (by have := World.block_lt_of_cell? _ _ hw432_0; first | rwa [add_block] at this | exact this) GW440.out)) | (show (Addr.add _ _).block ≠ _; rw [add_block]; exact Nat.ne_of_lt (Nat.lt_of_lt_of_le (by have := World.block_lt_of_cell? _ _ hw432_0; first | rwa [add_block] at this | exact this) GW440.out)) | (dsimp only; exact Nat.ne_of_lt (Nat.lt_of_lt_of_le (by have := World.block_lt_of_cell? _ _ hw432_0; first | rwa [add_block] at this | exact this) GW440.out))) _).trans (hHeld.1)))))))), ((cell_far (p := ⟨gb440, _, none⟩) (by first | exact Nat.ne_of_lt (Nat.lt_of_lt_of_le (by have := World.block_lt_of_cell? _ _ hw432_1; first | rwa [add_block] at this | exact this) GW440.out) | (rw [add_block]; exact Nat.ne_of_lt (Nat.lt_of_lt_of_le (by have := World.block_lt_of_cell? _ _ hw432_1; first | rwa [add_block] at this | exact this) GW440.out)) | (show (Addr.add _ _).block ≠ _; rw [add_block]; exact Nat.ne_of_lt (Nat.lt_of_lt_of_le (by have := World.block_lt_of_cell? _ _ hw432_1; first | rwa [add_block] at this | exact this) GW440.out)) | (dsimp only; exact Nat.ne_of_lt (Nat.lt_of_lt_of_le (by have := World.block_lt_of_cell? _ _ hw432_1; first | rwa [add_block] at this | exact this) GW440.out))) _).trans (((cell_far (p := ⟨gb440, _, none⟩) (by first | exact Nat.ne_of_lt (Nat.lt_of_lt_of_le (by have := World.block_lt_of_cell? _ _ hw432_1; first | rwa [add_block] at this | exact this) GW440.out) | (rw [add_block]; exact Nat.ne_of_lt (Nat.lt_of_lt_of_le (by have := World.block_lt_of_cell? _ _ hw432_1; first | rwa [add_block] at this | exact this) GW440.out)) | (show (Addr.add _ _).block ≠ _; rw [add_block]; exact Nat.ne_of_lt (Nat.lt_of_lt_of_le (by have := World.block_lt_of_cell? _ _ hw432_1; first | rwa [add_block] at this | exact this) GW440.out)) | (dsimp only; exact Nat.ne_of_lt (Nat.lt_of_lt_of_le (by have := World.block_lt_of_cell? _ _ hw432_1; first | rwa [add_block] at this | exact this) GW440.out))) _).trans (((cell_far (p := ⟨gb440, _, none⟩) (by first | exact Nat.ne_of_lt (Nat.lt_of_lt_of_le (by have := World.block_lt_of_cell? _ _ hw432_1; first | rwa [add_block] at this | exact this) GW440.out) | (rw [add_block]; exact Nat.ne_of_lt (Nat.lt_of_lt_of_le (by have := World.block_lt_of_cell? _ _ hw432_1; first | rwa [add_block] at this | exact this) GW440.out)) | (show (Addr.add _ _).block ≠ _; rw [add_block]; exact Nat.ne_of_lt (Nat.lt_of_lt_of_le (by have := World.block_lt_of_cell? _ _ hw432_1; first | rwa [add_block] at this | exact this) GW440.out)) | (dsimp only; exact Nat.ne_of_lt (Nat.lt_of_lt_of_le (by have := World.block_lt_of_cell? _ _ hw432_1; first | rwa [add_block] at this | exact this) GW440.out))) _).trans (((cell_far (p := ⟨gb440, _, none⟩) (by first | exact Nat.ne_of_lt (Nat.lt_of_lt_of_le (by have := World.block_lt_of_cell? _ _ hw432_1; first | rwa [add_block] at this | exact this) GW440.out) | (rw [add_block]; exact Nat.ne_of_lt (Nat.lt_of_lt_of_le (by have := World.block_lt_of_cell? _ _ hw432_1; first | rwa [add_block] at this | exact this) GW440.out)) | (show (Addr.add _ _).block ≠ _; rw [add_block]; exact Nat.ne_of_lt (Nat.lt_of_lt_of_le (by have := World.block_lt_of_cell? _ _ hw432_1; first | rwa [add_block] at this | exact this) GW440.out)) | (dsimp only; exact Nat.ne_of_lt (Nat.lt_of_lt_of_le (by have := World.block_lt_of_cell? _ _ hw432_1; first | rwa [add_block] at this | exact this) GW440.out))) _).trans (hHeld.2.1)))))))), ((cell_far (p := ⟨gb440, _, none⟩) (by first | exact Nat.ne_of_lt (Nat.lt_of_lt_of_le (by have := World.block_lt_of_cell? _ _ hw432_2; first | rwa [add_block] at this | exact this) GW440.out) | (rw [add_block]; exact Nat.ne_of_lt (Nat.lt_of_lt_of_le (by have := World.block_lt_of_cell? _ _ hw432_2; first | rwa [add_block] at this | exact this) GW440.out)) | (show (Addr.add _ _).block ≠ _; rw [add_block]; exact Nat.ne_of_lt (Nat.lt_of_lt_of_le (by have := World.block_lt_of_cell? _ _ hw432_2; first | rwa [add_block] at this | exact this) GW440.out)) | (dsimp only; exact Nat.ne_of_lt (Nat.lt_of_lt_of_le (by have := World.block_lt_of_cell? _ _ hw432_2; first | rwa [add_block] at this | exact this) GW440.out))) _).trans (((cell_far (p := ⟨gb440, _, none⟩) (by first | exact Nat.ne_of_lt (Nat.lt_of_lt_of_le (by have := World.block_lt_of_cell? _ _ hw432_2; first | rwa [add_block] at this | exact this) GW440.out) | (rw [add_block]; exact Nat.ne_of_lt (Nat.lt_of_lt_of_le (by have := World.block_lt_of_cell? _ _ hw432_2; first | rwa [add_block] at this | exact this) GW440.out)) | (show (Addr.add _ _).block ≠ _; rw [add_block]; exact Nat.ne_of_lt (Nat.lt_of_lt_of_le (by have := World.block_lt_of_cell? _ _ hw432_2; first | rwa [add_block] at this | exact this) GW440.out)) | (dsimp only; exact Nat.ne_of_lt (Nat.lt_of_lt_of_le (by have := World.block_lt_of_cell? _ _ hw432_2; first | rwa [add_block] at this | exact this) GW440.out))) _).trans (((cell_far (p := ⟨gb440, _, none⟩) (by first | exact Nat.ne_of_lt (Nat.lt_of_lt_of_le (by have := World.block_lt_of_cell? _ _ hw432_2; first | rwa [add_block] at this | exact this) GW440.out) | (rw [add_block]; exact Nat.ne_of_lt (Nat.lt_of_lt_of_le (by have := World.block_lt_of_cell? _ _ hw432_2; first | rwa [add_block] at this | exact this) GW440.out)) | (show (Addr.add _ _).block ≠ _; rw [add_block]; exact Nat.ne_of_lt (Nat.lt_of_lt_of_le (by have := World.block_lt_of_cell? _ _ hw432_2; first | rwa [add_block] at this | exact this) GW440.out)) | (dsimp only; exact Nat.ne_of_lt (Nat.lt_of_lt_of_le (by have := World.block_lt_of_cell? _ _ hw432_2; first | rwa [add_block] at this | exact this) GW440.out))) _).trans (((cell_far (p := ⟨gb440, _, none⟩) (by first | exact Nat.ne_of_lt (Nat.lt_of_lt_of_le (by have := World.block_lt_of_cell? _ _ hw432_2; first | rwa [add_block] at this | exact this) GW440.out) | (rw [add_block]; exact Nat.ne_of_lt (Nat.lt_of_lt_of_le (by have := World.block_lt_of_cell? _ _ hw432_2; first | rwa [add_block] at this | exact this) GW440.out)) | (show (Addr.add _ _).block ≠ _; rw [add_block]; exact Nat.ne_of_lt (Nat.lt_of_lt_of_le (by have := World.block_lt_of_cell? _ _ hw432_2; first | rwa [add_block] at this | exact this) GW440.out)) | (dsimp only; exact Nat.ne_of_lt (Nat.lt_of_lt_of_le (by have := World.block_lt_of_cell? _ _ hw432_2; first | rwa [add_block] at this | exact this) GW440.out))) _).trans (hHeld.2.2.1)))))))), ((cell_far (p := ⟨gb440, _, none⟩) (by first | exact Nat.ne_of_lt (Nat.lt_of_lt_of_le (by have := World.block_lt_of_cell? _ _ hw432_3; first | rwa [add_block] at this | exact this) GW440.out) | (rw [add_block]; exact Nat.ne_of_lt (Nat.lt_of_lt_of_le (by have := World.block_lt_of_cell? _ _ hw432_3; first | rwa [add_block] at this | exact this) GW440.out)) | (show (Addr.add _ _).block ≠ _; rw [add_block]; exact Nat.ne_of_lt (Nat.lt_of_lt_of_le (by have := World.block_lt_of_cell? _ _ hw432_3; first | rwa [add_block] at this | exact this) GW440.out)) | (dsimp only; exact Nat.ne_of_lt (Nat.lt_of_lt_of_le (by have := World.block_lt_of_cell? _ _ hw432_3; first | rwa [add_block] at this | exact this) GW440.out))) _).trans (((cell_far (p := ⟨gb440, _, none⟩) (by first | exact Nat.ne_of_lt (Nat.lt_of_lt_of_le (by have := World.block_lt_of_cell? _ _ hw432_3; first | rwa [add_block] at this | exact this) GW440.out) | (rw [add_block]; exact Nat.ne_of_lt (Nat.lt_of_lt_of_le (by have := World.block_lt_of_cell? _ _ hw432_3; first | rwa [add_block] at this | exact this) GW440.out)) | (show (Addr.add _ _).block ≠ _; rw [add_block]; exact Nat.ne_of_lt (Nat.lt_of_lt_of_le (by have := World.block_lt_of_cell? _ _ hw432_3; first | rwa [add_block] at this | exact this) GW440.out)) | (dsimp only; exact Nat.ne_of_lt (Nat.lt_of_lt_of_le (by have := World.block_lt_of_cell? _ _ hw432_3; first | rwa [add_block] at this | exact this) GW440.out))) _).trans (((cell_far (p := ⟨gb440, _, none⟩) (by first | exact Nat.ne_of_lt (Nat.lt_of_lt_of_le (by have := World.block_lt_of_cell? _ _ hw432_3; first | rwa [add_block] at this | exact this) GW440.out) | (rw [add_block]; exact Nat.ne_of_lt (Nat.lt_of_lt_of_le (by have := World.block_lt_of_cell? _ _ hw432_3; first | rwa [add_block] at this | exact this) GW440.out)) | (show (Addr.add _ _).block ≠ _; rw [add_block]; exact Nat.ne_of_lt (Nat.lt_of_lt_of_le (by have := World.block_lt_of_cell? _ _ hw432_3; first | rwa [add_block] at this | exact this) GW440.out)) | (dsimp only; exact Nat.ne_of_lt (Nat.lt_of_lt_of_le (by have := World.block_lt_of_cell? _ _ hw432_3; first | rwa [add_block] at this | exact this) GW440.out))) _).trans (((cell_far (p := ⟨gb440, _, none⟩) (by first | exact Nat.ne_of_lt (Nat.lt_of_lt_of_le (by have := World.block_lt_of_cell? _ _ hw432_3; first | rwa [add_block] at this | exact this) GW440.out) | (rw [add_block]; exact Nat.ne_of_lt (Nat.lt_of_lt_of_le (by have := World.block_lt_of_cell? _ _ hw432_3; first | rwa [add_block] at this | exact this) GW440.out)) | (show (Addr.add _ _).block ≠ _; rw [add_block]; exact Nat.ne_of_lt (Nat.lt_of_lt_of_le (by have := World.block_lt_of_cell? _ _ hw432_3; first | rwa [add_block] at this | exact this) GW440.out)) | (dsimp only; exact Nat.ne_of_lt (Nat.lt_of_lt_of_le (by have := World.block_lt_of_cell? _ _ hw432_3; first | rwa [add_block] at this | exact this) GW440.out))) _).trans (hHeld.2.2.2.1)))))))), ((cell_far (p := ⟨gb440, _, none⟩) (by first | exact Nat.ne_of_lt (Nat.lt_of_lt_of_le (by have := World.block_lt_of_cell? _ _ hw434_0; first | rwa [add_block] at this | exact this) GW440.out) | (rw [add_block]; exact Nat.ne_of_lt (Nat.lt_of_lt_of_le (by have := World.block_lt_of_cell? _ _ hw434_0; first | rwa [add_block] at this | exact this) GW440.out)) | (show (Addr.add _ _).block ≠ _; rw [add_block]; exact Nat.ne_of_lt (Nat.lt_of_lt_of_le (by have := World.block_lt_of_cell? _ _ hw434_0; first | rwa [add_block] at this | exact this) GW440.out)) | (dsimp only; exact Nat.ne_of_lt (Nat.lt_of_lt_of_le (by have := World.block_lt_of_cell? _ _ hw434_0; first | rwa [add_block] at this | exact this) GW440.out))) _).trans (((cell_far (p := ⟨gb440, _, none⟩) (by first | exact Nat.ne_of_lt (Nat.lt_of_lt_of_le (by have := World.block_lt_of_cell? _ _ hw434_0; first | rwa [add_block] at this | exact this) GW440.out) | (rw [add_block]; exact Nat.ne_of_lt (Nat.lt_of_lt_of_le (by have := World.block_lt_of_cell? _ _ hw434_0; first | rwa [add_block] at this | exact this) GW440.out)) | (show (Addr.add _ _).block ≠ _; rw [add_block]; exact Nat.ne_of_lt (Nat.lt_of_lt_of_le (by have := World.block_lt_of_cell? _ _ hw434_0; first | rwa [add_block] at this | exact this) GW440.out)) | (dsimp only; exact Nat.ne_of_lt (Nat.lt_of_lt_of_le (by have := World.block_lt_of_cell? _ _ hw434_0; first | rwa [add_block] at this | exact this) GW440.out))) _).trans (((cell_far (p := ⟨gb440, _, none⟩) (by first | exact Nat.ne_of_lt (Nat.lt_of_lt_of_le (by have := World.block_lt_of_cell? _ _ hw434_0; first | rwa [add_block] at this | exact this) GW440.out) | (rw [add_block]; exact Nat.ne_of_lt (Nat.lt_of_lt_of_le (by have := World.block_lt_of_cell? _ _ hw434_0; first | rwa [add_block] at this | exact this) GW440.out)) | (show (Addr.add _ _).block ≠ _; rw [add_block]; exact Nat.ne_of_lt (Nat.lt_of_lt_of_le (by have := World.block_lt_of_cell? _ _ hw434_0; first | rwa [add_block] at this | exact this) GW440.out)) | (dsimp only; exact Nat.ne_of_lt (Nat.lt_of_lt_of_le (by have := World.block_lt_of_cell? _ _ hw434_0; first | rwa [add_block] at this | exact this) GW440.out))) _).trans (((cell_far (p := ⟨gb440, _, none⟩) (by first | exact Nat.ne_of_lt (Nat.lt_of_lt_of_le (by have := World.block_lt_of_cell? _ _ hw434_0; first | rwa [add_block] at this | exact this) GW440.out) | (rw [add_block]; exact Nat.ne_of_lt (Nat.lt_of_lt_of_le (by have := World.block_lt_of_cell? _ _ hw434_0; first | rwa [add_block] at this | exact this) GW440.out)) | (show (Addr.add _ _).block ≠ _; rw [add_block]; exact Nat.ne_of_lt (Nat.lt_of_lt_of_le (by have := World.block_lt_of_cell? _ _ hw434_0; first | rwa [add_block] at this | exact this) GW440.out)) | (dsimp only; exact Nat.ne_of_lt (Nat.lt_of_lt_of_le (by have := World.block_lt_of_cell? _ _ hw434_0; first | rwa [add_block] at this | exact this) GW440.out))) _).trans (hHeld.2.2.2.2.1)))))))), ((cell_far (p := ⟨gb440, _, none⟩) (by first | exact Nat.ne_of_lt (Nat.lt_of_lt_of_le (by have := World.block_lt_of_cell? _ _ hw434_1; first | rwa [add_block] at this | exact this) GW440.out) | (rw [add_block]; exact Nat.ne_of_lt (Nat.lt_of_lt_of_le (by have := World.block_lt_of_cell? _ _ hw434_1; first | rwa [add_block] at this | exact this) GW440.out)) | (show (Addr.add _ _).block ≠ _; rw [add_block]; exact Nat.ne_of_lt (Nat.lt_of_lt_of_le (by have := World.block_lt_of_cell? _ _ hw434_1; first | rwa [add_block] at this | exact this) GW440.out)) | (dsimp only; exact Nat.ne_of_lt (Nat.lt_of_lt_of_le (by have := World.block_lt_of_cell? _ _ hw434_1; first | rwa [add_block] at this | exact this) GW440.out))) _).trans (((cell_far (p := ⟨gb440, _, none⟩) (by first | exact Nat.ne_of_lt (Nat.lt_of_lt_of_le (by have := World.block_lt_of_cell? _ _ hw434_1; first | rwa [add_block] at this | exact this) GW440.out) | (rw [add_block]; exact Nat.ne_of_lt (Nat.lt_of_lt_of_le (by have := World.block_lt_of_cell? _ _ hw434_1; first | rwa [add_block] at this | exact this) GW440.out)) | (show (Addr.add _ _).block ≠ _; rw [add_block]; exact Nat.ne_of_lt (Nat.lt_of_lt_of_le (by have := World.block_lt_of_cell? _ _ hw434_1; first | rwa [add_block] at this | exact this) GW440.out)) | (dsimp only; exact Nat.ne_of_lt (Nat.lt_of_lt_of_le (by have := World.block_lt_of_cell? _ _ hw434_1; first | rwa [add_block] at this | exact this) GW440.out))) _).trans (((cell_far (p := ⟨gb440, _, none⟩) (by first | exact Nat.ne_of_lt (Nat.lt_of_lt_of_le (by have := World.block_lt_of_cell? _ _ hw434_1; first | rwa [add_block] at this | exact this) GW440.out) | (rw [add_block]; exact Nat.ne_of_lt (Nat.lt_of_lt_of_le (by have := World.block_lt_of_cell? _ _ hw434_1; first | rwa [add_block] at this | exact this) GW440.out)) | (show (Addr.add _ _).block ≠ _; rw [add_block]; exact Nat.ne_of_lt (Nat.lt_of_lt_of_le (by have := World.block_lt_of_cell? _ _ hw434_1; first | rwa [add_block] at this | exact this) GW440.out)) | (dsimp only; exact Nat.ne_of_lt (Nat.lt_of_lt_of_le (by have := World.block_lt_of_cell? _ _ hw434_1; first | rwa [add_block] at this | exact this) GW440.out))) _).trans (((cell_far (p := ⟨gb440, _, none⟩) (by first | exact Nat.ne_of_lt (Nat.lt_of_lt_of_le (by have := World.block_lt_of_cell? _ _ hw434_1; first | rwa [add_block] at this | exact this) GW440.out) | (rw [add_block]; exact Nat.ne_of_lt (Nat.lt_of_lt_of_le (by have := World.block_lt_of_cell? _ _ hw434_1; first | rwa [add_block] at this | exact this) GW440.out)) | (show (Addr.add _ _).block ≠ _; rw [add_block]; exact Nat.ne_of_lt (Nat.lt_of_lt_of_le (by have := World.block_lt_of_cell? _ _ hw434_1; first | rwa [add_block] at this | exact this) GW440.out)) | (dsimp only; exact Nat.ne_of_lt (Nat.lt_of_lt_of_le (by have := World.block_lt_of_cell? _ _ hw434_1; first | rwa [add_block] at this | exact this) GW440.out))) _).trans (hHeld.2.2.2.2.2.1)))))))), ((cell_far (p := ⟨gb440, _, none⟩) (by first | exact Nat.ne_of_lt (Nat.lt_of_lt_of_le (by have := World.block_lt_of_cell? _ _ hw434_2; first | rwa [add_block] at this | exact this) GW440.out) | (rw [add_block]; exact Nat.ne_of_lt (Nat.lt_of_lt_of_le (by have := World.block_lt_of_cell? _ _ hw434_2; first | rwa [add_block] at this | exact this) GW440.out)) | (show (Addr.add _ _).block ≠ _; rw [add_block]; exact Nat.ne_of_lt (Nat.lt_of_lt_of_le (by have := World.block_lt_of_cell? _ _ hw434_2; first | rwa [add_block] at this | exact this) GW440.out)) | (dsimp only; exact Nat.ne_of_lt (Nat.lt_of_lt_of_le (by have := World.block_lt_of_cell? _ _ hw434_2; first | rwa [add_block] at this | exact this) GW440.out))) _).trans (((cell_far (p := ⟨gb440, _, none⟩) (by first | exact Nat.ne_of_lt (Nat.lt_of_lt_of_le (by have := World.block_lt_of_cell? _ _ hw434_2; first | rwa [add_block] at this | exact this) GW440.out) | (rw [add_block]; exact Nat.ne_of_lt (Nat.lt_of_lt_of_le (by have := World.block_lt_of_cell? _ _ hw434_2; first | rwa [add_block] at this | exact this) GW440.out)) | (show (Addr.add _ _).block ≠ _; rw [add_block]; exact Nat.ne_of_lt (Nat.lt_of_lt_of_le (by have := World.block_lt_of_cell? _ _ hw434_2; first | rwa [add_block] at this | exact this) GW440.out)) | (dsimp only; exact Nat.ne_of_lt (Nat.lt_of_lt_of_le (by have := World.block_lt_of_cell? _ _ hw434_2; first | rwa [add_block] at this | exact this) GW440.out))) _).trans (((cell_far (p := ⟨gb440, _, none⟩) (by first | exact Nat.ne_of_lt (Nat.lt_of_lt_of_le (by have := World.block_lt_of_cell? _ _ hw434_2; first | rwa [add_block] at this | exact this) GW440.out) | (rw [add_block]; exact Nat.ne_of_lt (Nat.lt_of_lt_of_le (by have := World.block_lt_of_cell? _ _ hw434_2; first | rwa [add_block] at this | exact this) GW440.out)) | (show (Addr.add _ _).block ≠ _; rw [add_block]; exact Nat.ne_of_lt (Nat.lt_of_lt_of_le (by have := World.block_lt_of_cell? _ _ hw434_2; first | rwa [add_block] at this | exact this) GW440.out)) | (dsimp only; exact Nat.ne_of_lt (Nat.lt_of_lt_of_le (by have := World.block_lt_of_cell? _ _ hw434_2; first | rwa [add_block] at this | exact this) GW440.out))) _).trans (((cell_far (p := ⟨gb440, _, none⟩) (by first | exact Nat.ne_of_lt (Nat.lt_of_lt_of_le (by have := World.block_lt_of_cell? _ _ hw434_2; first | rwa [add_block] at this | exact this) GW440.out) | (rw [add_block]; exact Nat.ne_of_lt (Nat.lt_of_lt_of_le (by have := World.block_lt_of_cell? _ _ hw434_2; first | rwa [add_block] at this | exact this) GW440.out)) | (show (Addr.add _ _).block ≠ _; rw [add_block]; exact Nat.ne_of_lt (Nat.lt_of_lt_of_le (by have := World.block_lt_of_cell? _ _ hw434_2; first | rwa [add_block] at this | exact this) GW440.out)) | (dsimp only; exact Nat.ne_of_lt (Nat.lt_of_lt_of_le (by have := World.block_lt_of_cell? _ _ hw434_2; first | rwa [add_block] at this | exact this) GW440.out))) _).trans (hHeld.2.2.2.2.2.2.1)))))))), ((cell_far (p := ⟨gb440, _, none⟩) (by first | exact Nat.ne_of_lt (Nat.lt_of_lt_of_le (by have := World.block_lt_of_cell? _ _ hw434_3; first | rwa [add_block] at this | exact this) GW440.out) | (rw [add_block]; exact Nat.ne_of_lt (Nat.lt_of_lt_of_le (by have := World.block_lt_of_cell? _ _ hw434_3; first | rwa [add_block] at this | exact this) GW440.out)) | (show (Addr.add _ _).block ≠ _; rw [add_block]; exact Nat.ne_of_lt (Nat.lt_of_lt_of_le (by have := World.block_lt_of_cell? _ _ hw434_3; first | rwa [add_block] at this | exact this) GW440.out)) | (dsimp only; exact Nat.ne_of_lt (Nat.lt_of_lt_of_le (by have := World.block_lt_of_cell? _ _ hw434_3; first | rwa [add_block] at this | exact this) GW440.out))) _).trans (((cell_far (p := ⟨gb440, _, none⟩) (by first | exact Nat.ne_of_lt (Nat.lt_of_lt_of_le (by have := World.block_lt_of_cell? _ _ hw434_3; first | rwa [add_block] at this | exact this) GW440.out) | (rw [add_block]; exact Nat.ne_of_lt (Nat.lt_of_lt_of_le (by have := World.block_lt_of_cell? _ _ hw434_3; first | rwa [add_block] at this | exact this) GW440.out)) | (show (Addr.add _ _).block ≠ _; rw [add_block]; exact Nat.ne_of_lt (Nat.lt_of_lt_of_le (by have := World.block_lt_of_cell? _ _ hw434_3; first | rwa [add_block] at this | exact this) GW440.out)) | (dsimp only; exact Nat.ne_of_lt (Nat.lt_of_lt_of_le (by have := World.block_lt_of_cell? _ _ hw434_3; first | rwa [add_block] at this | exact this) GW440.out))) _).trans (((cell_far (p := ⟨gb440, _, none⟩) (by first | exact Nat.ne_of_lt (Nat.lt_of_lt_of_le (by have := World.block_lt_of_cell? _ _ hw434_3; first | rwa [add_block] at this | exact this) GW440.out) | (rw [add_block]; exact Nat.ne_of_lt (Nat.lt_of_lt_of_le (by have := World.block_lt_of_cell? _ _ hw434_3; first | rwa [add_block] at this | exact this) GW440.out)) | (show (Addr.add _ _).block ≠ _; rw [add_block]; exact Nat.ne_of_lt (Nat.lt_of_lt_of_le (by have := World.block_lt_of_cell? _ _ hw434_3; first | rwa [add_block] at this | exact this) GW440.out)) | (dsimp only; exact Nat.ne_of_lt (Nat.lt_of_lt_of_le (by have := World.block_lt_of_cell? _ _ hw434_3; first | rwa [add_block] at this | exact this) GW440.out))) _).trans (((cell_far (p := ⟨gb440, _, none⟩) (by first | exact Nat.ne_of_lt (Nat.lt_of_lt_of_le (by have := World.block_lt_of_cell? _ _ hw434_3; first | rwa [add_block] at this | exact this) GW440.out) | (rw [add_block]; exact Nat.ne_of_lt (Nat.lt_of_lt_of_le (by have := World.block_lt_of_cell? _ _ hw434_3; first | rwa [add_block] at this | exact this) GW440.out)) | (show (Addr.add _ _).block ≠ _; rw [add_block]; exact Nat.ne_of_lt (Nat.lt_of_lt_of_le (by have := World.block_lt_of_cell? _ _ hw434_3; first | rwa [add_block] at this | exact this) GW440.out)) | (dsimp only; exact Nat.ne_of_lt (Nat.lt_of_lt_of_le (by have := World.block_lt_of_cell? _ _ hw434_3; first | rwa [add_block] at this | exact this) GW440.out))) _).trans (hHeld.2.2.2.2.2.2.2.1)))))))), ((cell_far (p := ⟨gb440, _, none⟩) (by first | exact Nat.ne_of_lt (Nat.lt_of_lt_of_le (by have := World.block_lt_of_cell? _ _ hw436_0; first | rwa [add_block] at this | exact this) GW440.out) | (rw [add_block]; exact Nat.ne_of_lt (Nat.lt_of_lt_of_le (by have := World.block_lt_of_cell? _ _ hw436_0; first | rwa [add_block] at this | exact this) GW440.out)) | (show (Addr.add _ _).block ≠ _; rw [add_block]; exact Nat.ne_of_lt (Nat.lt_of_lt_of_le (by have := World.block_lt_of_cell? _ _ hw436_0; first | rwa [add_block] at this | exact this) GW440.out)) | (dsimp only; exact Nat.ne_of_lt (Nat.lt_of_lt_of_le (by have := World.block_lt_of_cell? _ _ hw436_0; first | rwa [add_block] at this | exact this) GW440.out))) _).trans (((cell_far (p := ⟨gb440, _, none⟩) (by first | exact Nat.ne_of_lt (Nat.lt_of_lt_of_le (by have := World.block_lt_of_cell? _ _ hw436_0; first | rwa [add_block] at this | exact this) GW440.out) | (rw [add_block]; exact Nat.ne_of_lt (Nat.lt_of_lt_of_le (by have := World.block_lt_of_cell? _ _ hw436_0; first | rwa [add_block] at this | exact this) GW440.out)) | (show (Addr.add _ _).block ≠ _; rw [add_block]; exact Nat.ne_of_lt (Nat.lt_of_lt_of_le (by have := World.block_lt_of_cell? _ _ hw436_0; first | rwa [add_block] at this | exact this) GW440.out)) | (dsimp only; exact Nat.ne_of_lt (Nat.lt_of_lt_of_le (by have := World.block_lt_of_cell? _ _ hw436_0; first | rwa [add_block] at this | exact this) GW440.out))) _).trans (((cell_far (p := ⟨gb440, _, none⟩) (by first | exact Nat.ne_of_lt (Nat.lt_of_lt_of_le (by have := World.block_lt_of_cell? _ _ hw436_0; first | rwa [add_block] at this | exact this) GW440.out) | (rw [add_block]; exact Nat.ne_of_lt (Nat.lt_of_lt_of_le (by have := World.block_lt_of_cell? _ _ hw436_0; first | rwa [add_block] at this | exact this) GW440.out)) | (show (Addr.add _ _).block ≠ _; rw [add_block]; exact Nat.ne_of_lt (Nat.lt_of_lt_of_le (by have := World.block_lt_of_cell? _ _ hw436_0; first | rwa [add_block] at this | exact this) GW440.out)) | (dsimp only; exact Nat.ne_of_lt (Nat.lt_of_lt_of_le (by have := World.block_lt_of_cell? _ _ hw436_0; first | rwa [add_block] at this | exact this) GW440.out))) _).trans (((cell_far (p := ⟨gb440, _, none⟩) (by first | exact Nat.ne_of_lt (Nat.lt_of_lt_of_le (by have := World.block_lt_of_cell? _ _ hw436_0; first | rwa [add_block] at this | exact this) GW440.out) | (rw [add_block]; exact Nat.ne_of_lt (Nat.lt_of_lt_of_le (by have := World.block_lt_of_cell? _ _ hw436_0; first | rwa [add_block] at this | exact this) GW440.out)) | (show (Addr.add _ _).block ≠ _; rw [add_block]; exact Nat.ne_of_lt (Nat.lt_of_lt_of_le (by have := World.block_lt_of_cell? _ _ hw436_0; first | rwa [add_block] at this | exact this) GW440.out)) | (dsimp only; exact Nat.ne_of_lt (Nat.lt_of_lt_of_le (by have := World.block_lt_of_cell? _ _ hw436_0; first | rwa [add_block] at this | exact this) GW440.out))) _).trans (hHeld.2.2.2.2.2.2.2.2.1)))))))), ((cell_far (p := ⟨gb440, _, none⟩) (by first | exact Nat.ne_of_lt (Nat.lt_of_lt_of_le (by have := World.block_lt_of_cell? _ _ hw436_1; first | rwa [add_block] at this | exact this) GW440.out) | (rw [add_block]; exact Nat.ne_of_lt (Nat.lt_of_lt_of_le (by have := World.block_lt_of_cell? _ _ hw436_1; first | rwa [add_block] at this | exact this) GW440.out)) | (show (Addr.add _ _).block ≠ _; rw [add_block]; exact Nat.ne_of_lt (Nat.lt_of_lt_of_le (by have := World.block_lt_of_cell? _ _ hw436_1; first | rwa [add_block] at this | exact this) GW440.out)) | (dsimp only; exact Nat.ne_of_lt (Nat.lt_of_lt_of_le (by have := World.block_lt_of_cell? _ _ hw436_1; first | rwa [add_block] at this | exact this) GW440.out))) _).trans (((cell_far (p := ⟨gb440, _, none⟩) (by first | exact Nat.ne_of_lt (Nat.lt_of_lt_of_le (by have := World.block_lt_of_cell? _ _ hw436_1; first | rwa [add_block] at this | exact this) GW440.out) | (rw [add_block]; exact Nat.ne_of_lt (Nat.lt_of_lt_of_le (by have := World.block_lt_of_cell? _ _ hw436_1; first | rwa [add_block] at this | exact this) GW440.out)) | (show (Addr.add _ _).block ≠ _; rw [add_block]; exact Nat.ne_of_lt (Nat.lt_of_lt_of_le (by have := World.block_lt_of_cell? _ _ hw436_1; first | rwa [add_block] at this | exact this) GW440.out)) | (dsimp only; exact Nat.ne_of_lt (Nat.lt_of_lt_of_le (by have := World.block_lt_of_cell? _ _ hw436_1; first | rwa [add_block] at this | exact this) GW440.out))) _).trans (((cell_far (p := ⟨gb440, _, none⟩) (by first | exact Nat.ne_of_lt (Nat.lt_of_lt_of_le (by have := World.block_lt_of_cell? _ _ hw436_1; first | rwa [add_block] at this | exact this) GW440.out) | (rw [add_block]; exact Nat.ne_of_lt (Nat.lt_of_lt_of_le (by have := World.block_lt_of_cell? _ _ hw436_1; first | rwa [add_block] at this | exact this) GW440.out)) | (show (Addr.add _ _).block ≠ _; rw [add_block]; exact Nat.ne_of_lt (Nat.lt_of_lt_of_le (by have := World.block_lt_of_cell? _ _ hw436_1; first | rwa [add_block] at this | exact this) GW440.out)) | (dsimp only; exact Nat.ne_of_lt (Nat.lt_of_lt_of_le (by have := World.block_lt_of_cell? _ _ hw436_1; first | rwa [add_block] at this | exact this) GW440.out))) _).trans (((cell_far (p := ⟨gb440, _, none⟩) (by first | exact Nat.ne_of_lt (Nat.lt_of_lt_of_le (by have := World.block_lt_of_cell? _ _ hw436_1; first | rwa [add_block] at this | exact this) GW440.out) | (rw [add_block]; exact Nat.ne_of_lt (Nat.lt_of_lt_of_le (by have := World.block_lt_of_cell? _ _ hw436_1; first | rwa [add_block] at this | exact this) GW440.out)) | (show (Addr.add _ _).block ≠ _; rw [add_block]; exact Nat.ne_of_lt (Nat.lt_of_lt_of_le (by have := World.block_lt_of_cell? _ _ hw436_1; first | rwa [add_block] at this | exact this) GW440.out)) | (dsimp only; exact Nat.ne_of_lt (Nat.lt_of_lt_of_le (by have := World.block_lt_of_cell? _ _ hw436_1; first | rwa [add_block] at this | exact this) GW440.out))) _).trans (hHeld.2.2.2.2.2.2.2.2.2.1)))))))), ((cell_far (p := ⟨gb440, _, none⟩) (by first | exact Nat.ne_of_lt (Nat.lt_of_lt_of_le (by have := World.block_lt_of_cell? _ _ hw436_2; first | rwa [add_block] at this | exact this) GW440.out) | (rw [add_block]; exact Nat.ne_of_lt (Nat.lt_of_lt_of_le (by have := World.block_lt_of_cell? _ _ hw436_2; first | rwa [add_block] at this | exact this) GW440.out)) | (show (Addr.add _ _).block ≠ _; rw [add_block]; exact Nat.ne_of_lt (Nat.lt_of_lt_of_le (by have := World.block_lt_of_cell? _ _ hw436_2; first | rwa [add_block] at this | exact this) GW440.out)) | (dsimp only; exact Nat.ne_of_lt (Nat.lt_of_lt_of_le (by have := World.block_lt_of_cell? _ _ hw436_2; first | rwa [add_block] at this | exact this) GW440.out))) _).trans (((cell_far (p := ⟨gb440, _, none⟩) (by first | exact Nat.ne_of_lt (Nat.lt_of_lt_of_le (by have := World.block_lt_of_cell? _ _ hw436_2; first | rwa [add_block] at this | exact this) GW440.out) | (rw [add_block]; exact Nat.ne_of_lt (Nat.lt_of_lt_of_le (by have := World.block_lt_of_cell? _ _ hw436_2; first | rwa [add_block] at this | exact this) GW440.out)) | (show (Addr.add _ _).block ≠ _; rw [add_block]; exact Nat.ne_of_lt (Nat.lt_of_lt_of_le (by have := World.block_lt_of_cell? _ _ hw436_2; first | rwa [add_block] at this | exact this) GW440.out)) | (dsimp only; exact Nat.ne_of_lt (Nat.lt_of_lt_of_le (by have := World.block_lt_of_cell? _ _ hw436_2; first | rwa [add_block] at this | exact this) GW440.out))) _).trans (((cell_far (p := ⟨gb440, _, none⟩) (by first | exact Nat.ne_of_lt (Nat.lt_of_lt_of_le (by have := World.block_lt_of_cell? _ _ hw436_2; first | rwa [add_block] at this | exact this) GW440.out) | (rw [add_block]; exact Nat.ne_of_lt (Nat.lt_of_lt_of_le (by have := World.block_lt_of_cell? _ _ hw436_2; first | rwa [add_block] at this | exact this) GW440.out)) | (show (Addr.add _ _).block ≠ _; rw [add_block]; exact Nat.ne_of_lt (Nat.lt_of_lt_of_le (by have := World.block_lt_of_cell? _ _ hw436_2; first | rwa [add_block] at this | exact this) GW440.out)) | (dsimp only; exact Nat.ne_of_lt (Nat.lt_of_lt_of_le (by have := World.block_lt_of_cell? _ _ hw436_2; first | rwa [add_block] at this | exact this) GW440.out))) _).trans (((cell_far (p := ⟨gb440, _, none⟩) (by first | exact Nat.ne_of_lt (Nat.lt_of_lt_of_le (by have := World.block_lt_of_cell? _ _ hw436_2; first | rwa [add_block] at this | exact this) GW440.out) | (rw [add_block]; exact Nat.ne_of_lt (Nat.lt_of_lt_of_le (by have := World.block_lt_of_cell? _ _ hw436_2; first | rwa [add_block] at this | exact this) GW440.out)) | (show (Addr.add _ _).block ≠ _; rw [add_block]; exact Nat.ne_of_lt (Nat.lt_of_lt_of_le (by have := World.block_lt_of_cell? _ _ hw436_2; first | rwa [add_block] at this | exact this) GW440.out)) | (dsimp only; exact Nat.ne_of_lt (Nat.lt_of_lt_of_le (by have := World.block_lt_of_cell? _ _ hw436_2; first | rwa [add_block] at this | exact this) GW440.out))) _).trans (hHeld.2.2.2.2.2.2.2.2.2.2.1)))))))), ((cell_far (p := ⟨gb440, _, none⟩) (by first | exact Nat.ne_of_lt (Nat.lt_of_lt_of_le (by have := World.block_lt_of_cell? _ _ hw436_3; first | rwa [add_block] at this | exact this) GW440.out) | (rw [add_block]; exact Nat.ne_of_lt (Nat.lt_of_lt_of_le (by have := World.block_lt_of_cell? _ _ hw436_3; first | rwa [add_block] at this | exact this) GW440.out)) | (show (Addr.add _ _).block ≠ _; rw [add_block]; exact Nat.ne_of_lt (Nat.lt_of_lt_of_le (by have := World.block_lt_of_cell? _ _ hw436_3; first | rwa [add_block] at this | exact this) GW440.out)) | (dsimp only; exact Nat.ne_of_lt (Nat.lt_of_lt_of_le (by have := World.block_lt_of_cell? _ _ hw436_3; first | rwa [add_block] at this | exact this) GW440.out))) _).trans (((cell_far (p := ⟨gb440, _, none⟩) (by first | exact Nat.ne_of_lt (Nat.lt_of_lt_of_le (by have := World.block_lt_of_cell? _ _ hw436_3; first | rwa [add_block] at this | exact this) GW440.out) | (rw [add_block]; exact Nat.ne_of_lt (Nat.lt_of_lt_of_le (by have := World.block_lt_of_cell? _ _ hw436_3; first | rwa [add_block] at this | exact this) GW440.out)) | (show (Addr.add _ _).block ≠ _; rw [add_block]; exact Nat.ne_of_lt (Nat.lt_of_lt_of_le (by have := World.block_lt_of_cell? _ _ hw436_3; first | rwa [add_block] at this | exact this) GW440.out)) | (dsimp only; exact Nat.ne_of_lt (Nat.lt_of_lt_of_le (by have := World.block_lt_of_cell? _ _ hw436_3; first | rwa [add_block] at this | exact this) GW440.out))) _).trans (((cell_far (p := ⟨gb440, _, none⟩) (by first | exact Nat.ne_of_lt (Nat.lt_of_lt_of_le (by have := World.block_lt_of_cell? _ _ hw436_3; first | rwa [add_block] at this | exact this) GW440.out) | (rw [add_block]; exact Nat.ne_of_lt (Nat.lt_of_lt_of_le (by have := World.block_lt_of_cell? _ _ hw436_3; first | rwa [add_block] at this | exact this) GW440.out)) | (show (Addr.add _ _).block ≠ _; rw [add_block]; exact Nat.ne_of_lt (Nat.lt_of_lt_of_le (by have := World.block_lt_of_cell? _ _ hw436_3; first | rwa [add_block] at this | exact this) GW440.out)) | (dsimp only; exact Nat.ne_of_lt (Nat.lt_of_lt_of_le (by have := World.block_lt_of_cell? _ _ hw436_3; first | rwa [add_block] at this | exact this) GW440.out))) _).trans (((cell_far (p := ⟨gb440, _, none⟩) (by first | exact Nat.ne_of_lt (Nat.lt_of_lt_of_le (by have := World.block_lt_of_cell? _ _ hw436_3; first | rwa [add_block] at this | exact this) GW440.out) | (rw [add_block]; exact Nat.ne_of_lt (Nat.lt_of_lt_of_le (by have := World.block_lt_of_cell? _ _ hw436_3; first | rwa [add_block] at this | exact this) GW440.out)) | (show (Addr.add _ _).block ≠ _; rw [add_block]; exact Nat.ne_of_lt (Nat.lt_of_lt_of_le (by have := World.block_lt_of_cell? _ _ hw436_3; first | rwa [add_block] at this | exact this) GW440.out)) | (dsimp only; exact Nat.ne_of_lt (Nat.lt_of_lt_of_le (by have := World.block_lt_of_cell? _ _ hw436_3; first | rwa [add_block] at this | exact this) GW440.out))) _).trans (hHeld.2.2.2.2.2.2.2.2.2.2.2.1)))))))), ((cell_far (p := ⟨gb440, _, none⟩) (by first | exact Nat.ne_of_lt (Nat.lt_of_lt_of_le (by have := World.block_lt_of_cell? _ _ hw438_0; first | rwa [add_block] at this | exact this) GW440.out) | (rw [add_block]; exact Nat.ne_of_lt (Nat.lt_of_lt_of_le (by have := World.block_lt_of_cell? _ _ hw438_0; first | rwa [add_block] at this | exact this) GW440.out)) | (show (Addr.add _ _).block ≠ _; rw [add_block]; exact Nat.ne_of_lt (Nat.lt_of_lt_of_le (by have := World.block_lt_of_cell? _ _ hw438_0; first | rwa [add_block] at this | exact this) GW440.out)) | (dsimp only; exact Nat.ne_of_lt (Nat.lt_of_lt_of_le (by have := World.block_lt_of_cell? _ _ hw438_0; first | rwa [add_block] at this | exact this) GW440.out))) _).trans (((cell_far (p := ⟨gb440, _, none⟩) (by first | exact Nat.ne_of_lt (Nat.lt_of_lt_of_le (by have := World.block_lt_of_cell? _ _ hw438_0; first | rwa [add_block] at this | exact this) GW440.out) | (rw [add_block]; exact Nat.ne_of_lt (Nat.lt_of_lt_of_le (by have := World.block_lt_of_cell? _ _ hw438_0; first | rwa [add_block] at this | exact this) GW440.out)) | (show (Addr.add _ _).block ≠ _; rw [add_block]; exact Nat.ne_of_lt (Nat.lt_of_lt_of_le (by have := World.block_lt_of_cell? _ _ hw438_0; first | rwa [add_block] at this | exact this) GW440.out)) | (dsimp only; exact Nat.ne_of_lt (Nat.lt_of_lt_of_le (by have := World.block_lt_of_cell? _ _ hw438_0; first | rwa [add_block] at this | exact this) GW440.out))) _).trans (((cell_far (p := ⟨gb440, _, none⟩) (by first | exact Nat.ne_of_lt (Nat.lt_of_lt_of_le (by have := World.block_lt_of_cell? _ _ hw438_0; first | rwa [add_block] at this | exact this) GW440.out) | (rw [add_block]; exact Nat.ne_of_lt (Nat.lt_of_lt_of_le (by have := World.block_lt_of_cell? _ _ hw438_0; first | rwa [add_block] at this | exact this) GW440.out)) | (show (Addr.add _ _).block ≠ _; rw [add_block]; exact Nat.ne_of_lt (Nat.lt_of_lt_of_le (by have := World.block_lt_of_cell? _ _ hw438_0; first | rwa [add_block] at this | exact this) GW440.out)) | (dsimp only; exact Nat.ne_of_lt (Nat.lt_of_lt_of_le (by have := World.block_lt_of_cell? _ _ hw438_0; first | rwa [add_block] at this | exact this) GW440.out))) _).trans (((cell_far (p := ⟨gb440, _, none⟩) (by first | exact Nat.ne_of_lt (Nat.lt_of_lt_of_le (by have := World.block_lt_of_cell? _ _ hw438_0; first | rwa [add_block] at this | exact this) GW440.out) | (rw [add_block]; exact Nat.ne_of_lt (Nat.lt_of_lt_of_le (by have := World.block_lt_of_cell? _ _ hw438_0; first | rwa [add_block] at this | exact this) GW440.out)) | (show (Addr.add _ _).block ≠ _; rw [add_block]; exact Nat.ne_of_lt (Nat.lt_of_lt_of_le (by have := World.block_lt_of_cell? _ _ hw438_0; first | rwa [add_block] at this | exact this) GW440.out)) | (dsimp only; exact Nat.ne_of_lt (Nat.lt_of_lt_of_le (by have := World.block_lt_of_cell? _ _ hw438_0; first | rwa [add_block] at this | exact this) GW440.out))) _).trans (hHeld.2.2.2.2.2.2.2.2.2.2.2.2.1)))))))), ((cell_far (p := ⟨gb440, _, none⟩) (by first | exact Nat.ne_of_lt (Nat.lt_of_lt_of_le (by have := World.block_lt_of_cell? _ _ hw438_1; first | rwa [add_block] at this | exact this) GW440.out) | (rw [add_block]; exact Nat.ne_of_lt (Nat.lt_of_lt_of_le (by have := World.block_lt_of_cell? _ _ hw438_1; first | rwa [add_block] at this | exact this) GW440.out)) | (show (Addr.add _ _).block ≠ _; rw [add_block]; exact Nat.ne_of_lt (Nat.lt_of_lt_of_le (by have := World.block_lt_of_cell? _ _ hw438_1; first | rwa [add_block] at this | exact this) GW440.out)) | (dsimp only; exact Nat.ne_of_lt (Nat.lt_of_lt_of_le (by have := World.block_lt_of_cell? _ _ hw438_1; first | rwa [add_block] at this | exact this) GW440.out))) _).trans (((cell_far (p := ⟨gb440, _, none⟩) (by first | exact Nat.ne_of_lt (Nat.lt_of_lt_of_le (by have := World.block_lt_of_cell? _ _ hw438_1; first | rwa [add_block] at this | exact this) GW440.out) | (rw [add_block]; exact Nat.ne_of_lt (Nat.lt_of_lt_of_le (by have := World.block_lt_of_cell? _ _ hw438_1; first | rwa [add_block] at this | exact this) GW440.out)) | (show (Addr.add _ _).block ≠ _; rw [add_block]; exact Nat.ne_of_lt (Nat.lt_of_lt_of_le (by have := World.block_lt_of_cell? _ _ hw438_1; first | rwa [add_block] at this | exact this) GW440.out)) | (dsimp only; exact Nat.ne_of_lt (Nat.lt_of_lt_of_le (by have := World.block_lt_of_cell? _ _ hw438_1; first | rwa [add_block] at this | exact this) GW440.out))) _).trans (((cell_far (p := ⟨gb440, _, none⟩) (by first | exact Nat.ne_of_lt (Nat.lt_of_lt_of_le (by have := World.block_lt_of_cell? _ _ hw438_1; first | rwa [add_block] at this | exact this) GW440.out) | (rw [add_block]; exact Nat.ne_of_lt (Nat.lt_of_lt_of_le (by have := World.block_lt_of_cell? _ _ hw438_1; first | rwa [add_block] at this | exact this) GW440.out)) | (show (Addr.add _ _).block ≠ _; rw [add_block]; exact Nat.ne_of_lt (Nat.lt_of_lt_of_le (by have := World.block_lt_of_cell? _ _ hw438_1; first | rwa [add_block] at this | exact this) GW440.out)) | (dsimp only; exact Nat.ne_of_lt (Nat.lt_of_lt_of_le (by have := World.block_lt_of_cell? _ _ hw438_1; first | rwa [add_block] at this | exact this) GW440.out))) _).trans (((cell_far (p := ⟨gb440, _, none⟩) (by first | exact Nat.ne_of_lt (Nat.lt_of_lt_of_le (by have := World.block_lt_of_cell? _ _ hw438_1; first | rwa [add_block] at this | exact this) GW440.out) | (rw [add_block]; exact Nat.ne_of_lt (Nat.lt_of_lt_of_le (by have := World.block_lt_of_cell? _ _ hw438_1; first | rwa [add_block] at this | exact this) GW440.out)) | (show (Addr.add _ _).block ≠ _; rw [add_block]; exact Nat.ne_of_lt (Nat.lt_of_lt_of_le (by have := World.block_lt_of_cell? _ _ hw438_1; first | rwa [add_block] at this | exact this) GW440.out)) | (dsimp only; exact Nat.ne_of_lt (Nat.lt_of_lt_of_le (by have := World.block_lt_of_cell? _ _ hw438_1; first | rwa [add_block] at this | exact this) GW440.out))) _).trans (hHeld.2.2.2.2.2.2.2.2.2.2.2.2.2.1)))))))), ((cell_far (p := ⟨gb440, _, none⟩) (by first | exact Nat.ne_of_lt (Nat.lt_of_lt_of_le (by have := World.block_lt_of_cell? _ _ hw438_2; first | rwa [add_block] at this | exact this) GW440.out) | (rw [add_block]; exact Nat.ne_of_lt (Nat.lt_of_lt_of_le (by have := World.block_lt_of_cell? _ _ hw438_2; first | rwa [add_block] at this | exact this) GW440.out)) | (show (Addr.add _ _).block ≠ _; rw [add_block]; exact Nat.ne_of_lt (Nat.lt_of_lt_of_le (by have := World.block_lt_of_cell? _ _ hw438_2; first | rwa [add_block] at this | exact this) GW440.out)) | (dsimp only; exact Nat.ne_of_lt (Nat.lt_of_lt_of_le (by have := World.block_lt_of_cell? _ _ hw438_2; first | rwa [add_block] at this | exact this) GW440.out))) _).trans (((cell_far (p := ⟨gb440, _, none⟩) (by first | exact Nat.ne_of_lt (Nat.lt_of_lt_of_le (by have := World.block_lt_of_cell? _ _ hw438_2; first | rwa [add_block] at this | exact this) GW440.out) | (rw [add_block]; exact Nat.ne_of_lt (Nat.lt_of_lt_of_le (by have := World.block_lt_of_cell? _ _ hw438_2; first | rwa [add_block] at this | exact this) GW440.out)) | (show (Addr.add _ _).block ≠ _; rw [add_block]; exact Nat.ne_of_lt (Nat.lt_of_lt_of_le (by have := World.block_lt_of_cell? _ _ hw438_2; first | rwa [add_block] at this | exact this) GW440.out)) | (dsimp only; exact Nat.ne_of_lt (Nat.lt_of_lt_of_le (by have := World.block_lt_of_cell? _ _ hw438_2; first | rwa [add_block] at this | exact this) GW440.out))) _).trans (((cell_far (p := ⟨gb440, _, none⟩) (by first | exact Nat.ne_of_lt (Nat.lt_of_lt_of_le (by have := World.block_lt_of_cell? _ _ hw438_2; first | rwa [add_block] at this | exact this) GW440.out) | (rw [add_block]; exact Nat.ne_of_lt (Nat.lt_of_lt_of_le (by have := World.block_lt_of_cell? _ _ hw438_2; first | rwa [add_block] at this | exact this) GW440.out)) | (show (Addr.add _ _).block ≠ _; rw [add_block]; exact Nat.ne_of_lt (Nat.lt_of_lt_of_le (by have := World.block_lt_of_cell? _ _ hw438_2; first | rwa [add_block] at this | exact this) GW440.out)) | (dsimp only; exact Nat.ne_of_lt (Nat.lt_of_lt_of_le (by have := World.block_lt_of_cell? _ _ hw438_2; first | rwa [add_block] at this | exact this) GW440.out))) _).trans (((cell_far (p := ⟨gb440, _, none⟩) (by first | exact Nat.ne_of_lt (Nat.lt_of_lt_of_le (by have := World.block_lt_of_cell? _ _ hw438_2; first | rwa [add_block] at this | exact this) GW440.out) | (rw [add_block]; exact Nat.ne_of_lt (Nat.lt_of_lt_of_le (by have := World.block_lt_of_cell? _ _ hw438_2; first | rwa [add_block] at this | exact this) GW440.out)) | (show (Addr.add _ _).block ≠ _; rw [add_block]; exact Nat.ne_of_lt (Nat.lt_of_lt_of_le (by have := World.block_lt_of_cell? _ _ hw438_2; first | rwa [add_block] at this | exact this) GW440.out)) | (dsimp only; exact Nat.ne_of_lt (Nat.lt_of_lt_of_le (by have := World.block_lt_of_cell? _ _ hw438_2; first | rwa [add_block] at this | exact this) GW440.out))) _).trans (hHeld.2.2.2.2.2.2.2.2.2.2.2.2.2.2.1)))))))), ((cell_far (p := ⟨gb440, _, none⟩) (by first | exact Nat.ne_of_lt (Nat.lt_of_lt_of_le (by have := World.block_lt_of_cell? _ _ hw438_3; first | rwa [add_block] at this | exact this) GW440.out) | (rw [add_block]; exact Nat.ne_of_lt (Nat.lt_of_lt_of_le (by have := World.block_lt_of_cell? _ _ hw438_3; first | rwa [add_block] at this | exact this) GW440.out)) | (show (Addr.add _ _).block ≠ _; rw [add_block]; exact Nat.ne_of_lt (Nat.lt_of_lt_of_le (by have := World.block_lt_of_cell? _ _ hw438_3; first | rwa [add_block] at this | exact this) GW440.out)) | (dsimp only; exact Nat.ne_of_lt (Nat.lt_of_lt_of_le (by have := World.block_lt_of_cell? _ _ hw438_3; first | rwa [add_block] at this | exact this) GW440.out))) _).trans (((cell_far (p := ⟨gb440, _, none⟩) (by first | exact Nat.ne_of_lt (Nat.lt_of_lt_of_le (by have := World.block_lt_of_cell? _ _ hw438_3; first | rwa [add_block] at this | exact this) GW440.out) | (rw [add_block]; exact Nat.ne_of_lt (Nat.lt_of_lt_of_le (by have := World.block_lt_of_cell? _ _ hw438_3; first | rwa [add_block] at this | exact this) GW440.out)) | (show (Addr.add _ _).block ≠ _; rw [add_block]; exact Nat.ne_of_lt (Nat.lt_of_lt_of_le (by have := World.block_lt_of_cell? _ _ hw438_3; first | rwa [add_block] at this | exact this) GW440.out)) | (dsimp only; exact Nat.ne_of_lt (Nat.lt_of_lt_of_le (by have := World.block_lt_of_cell? _ _ hw438_3; first | rwa [add_block] at this | exact this) GW440.out))) _).trans (((cell_far (p := ⟨gb440, _, none⟩) (by first | exact Nat.ne_of_lt (Nat.lt_of_lt_of_le (by have := World.block_lt_of_cell? _ _ hw438_3; first | rwa [add_block] at this | exact this) GW440.out) | (rw [add_block]; exact Nat.ne_of_lt (Nat.lt_of_lt_of_le (by have := World.block_lt_of_cell? _ _ hw438_3; first | rwa [add_block] at this | exact this) GW440.out)) | (show (Addr.add _ _).block ≠ _; rw [add_block]; exact Nat.ne_of_lt (Nat.lt_of_lt_of_le (by have := World.block_lt_of_cell? _ _ hw438_3; first | rwa [add_block] at this | exact this) GW440.out)) | (dsimp only; exact Nat.ne_of_lt (Nat.lt_of_lt_of_le (by have := World.block_lt_of_cell? _ _ hw438_3; first | rwa [add_block] at this | exact this) GW440.out))) _).trans (((cell_far (p := ⟨gb440, _, none⟩) (by first | exact Nat.ne_of_lt (Nat.lt_of_lt_of_le (by have := World.block_lt_of_cell? _ _ hw438_3; first | rwa [add_block] at this | exact this) GW440.out) | (rw [add_block]; exact Nat.ne_of_lt (Nat.lt_of_lt_of_le (by have := World.block_lt_of_cell? _ _ hw438_3; first | rwa [add_block] at this | exact this) GW440.out)) | (show (Addr.add _ _).block ≠ _; rw [add_block]; exact Nat.ne_of_lt (Nat.lt_of_lt_of_le (by have := World.block_lt_of_cell? _ _ hw438_3; first | rwa [add_block] at this | exact this) GW440.out)) | (dsimp only; exact Nat.ne_of_lt (Nat.lt_of_lt_of_le (by have := World.block_lt_of_cell? _ _ hw438_3; first | rwa [add_block] at this | exact this) GW440.out))) _).trans (hHeld.2.2.2.2.2.2.2.2.2.2.2.2.2.2.2))))))))⟩ (fun hHeld => ?_)
        clear hK K
        refine done_ (done_of HT_.out (by kernel_rfl)) ?_
        have hcz21_0 : w16.cell? ⟨gb440, 0, none⟩ = some (.int .i64 0) := (blk_cell BK440.out 0).trans rfl
        have hcz21_1 : w16.cell? ⟨gb440, 1, none⟩ = some (.int .i64 0) := (blk_cell BK440.out 1).trans rfl
        have hcz21_2 : w16.cell? ⟨gb440, 2, none⟩ = some (.int .i64 0) := (blk_cell BK440.out 2).trans rfl
        have hcz21_3 : w16.cell? ⟨gb440, 3, none⟩ = some (.int .i64 0) := (blk_cell BK440.out 3).trans rfl
        have hfz21_0 := blk_frozen BK440.out 0
        have hfz21_1 := blk_frozen BK440.out 1
        have hfz21_2 := blk_frozen BK440.out 2
        have hfz21_3 := blk_frozen BK440.out 3
        go_upto_if 54 with (fail)
        go_cut [] (fun wc => ∃ (kq : Nat) (x441000_12 : Int) (x441001_12 : Int) (x441002_12 : Int) (x441003_12 : Int), Aside0 (tickinglaw01_tamed.j2 kq l0 a1 a2 x7_1 x8_1 x441000_12 x441001_12 x441002_12 x441003_12 = some r) ∧ Aside0 (kq ≤ kj3) ∧ Aside0 (Kd.R k48 48 wc w.heap.size (fun k_ => k_ ≠ gb440) u7 x7_1) ∧ Aside0 (wc.heap[gb440]? = some (.cells #[.int .i64 x441000_12, .int .i64 x441001_12, .int .i64 x441002_12, .int .i64 x441003_12] 48 (0, 0))) ∧ Aside0 (Below w.heap.size w wc))
        case first =>
         have H := HC13.out
         clear HC13
         by_cases c22 : t433 > t437
         ·rw [if_pos c22] at H
          have c22b0 : decide (t437 < t433) = true := decide_eq_true c22
          clear c22
          (first | rw [c22b0] | (simp only [i64_w, i32_w]; rw [c22b0]) | skip)
          have H' := Aside0.mk H
          clear H
          have hcz23_0 : w16.cell? ⟨gb440, 0, none⟩ = some (.int .i64 0) := (blk_cell BK440.out 0).trans rfl
          have hcz23_1 : w16.cell? ⟨gb440, 1, none⟩ = some (.int .i64 0) := (blk_cell BK440.out 1).trans rfl
          have hcz23_2 : w16.cell? ⟨gb440, 2, none⟩ = some (.int .i64 0) := (blk_cell BK440.out 2).trans rfl
          have hcz23_3 : w16.cell? ⟨gb440, 3, none⟩ = some (.int .i64 0) := (blk_cell BK440.out 3).trans rfl
          have hfz23_0 := blk_frozen BK440.out 0
          have hfz23_1 := blk_frozen BK440.out 1
          have hfz23_2 := blk_frozen BK440.out 2
          have hfz23_3 := blk_frozen BK440.out 3
          go_wp2
          go_meet
          case rel => exact ⟨_, (t437), (t435), (t433), (t439), H', ⟨by have := HK1.out; have := HJ3.out; first | omega | exact Nat.le_refl _⟩, ⟨by (with_reducible repeat (first | apply Kd.R_alloc | apply Kd.R_drewN | apply Kd.R_drew)); exact Kd.R_mono (Kd.R_far (p := ⟨gb440, 3, none⟩) (Kd.R_far (p := ⟨gb440, 2, none⟩) (Kd.R_far (p := ⟨gb440, 1, none⟩) (Kd.R_far (p := ⟨gb440, 0, none⟩) (Kd.R_far (p := ⟨gb440, 3, none⟩) (Kd.R_far (p := ⟨gb440, 2, none⟩) (Kd.R_far (p := ⟨gb440, 1, none⟩) (Kd.R_far (p := ⟨gb440, 0, none⟩) (Kd.R_mono HO_7.out (fun k_ hk => (⟨hk, hk⟩ : _ ∧ k_ ≠ gb440))) (fun _ hk => hk.2) (.int .i64 t433)) (fun _ hk => hk.2) (.int .i64 t435)) (fun _ hk => hk.2) (.int .i64 t437)) (fun _ hk => hk.2) (.int .i64 t439)) (fun _ hk => hk.2) (.int .i64 t437)) (fun _ hk => hk.2) (.int .i64 t435)) (fun _ hk => hk.2) (.int .i64 t433)) (fun _ hk => hk.2) (.int .i64 t439)) (fun _ hk => hk.1)⟩, ⟨by (with_reducible repeat (first | refine blk_drewN ?_ _ | refine blk_drew ?_ | refine blk_alloc ?_ _)); refine blk_put (cs := #[.int .i64 t437, .int .i64 t435, .int .i64 t433, .int .i64 t439]) ?_ 3 _ rfl; (with_reducible repeat (first | refine blk_drewN ?_ _ | refine blk_drew ?_ | refine blk_alloc ?_ _)); refine blk_put (cs := #[.int .i64 t437, .int .i64 t435, .int .i64 t437, .int .i64 t439]) ?_ 2 _ rfl; (with_reducible repeat (first | refine blk_drewN ?_ _ | refine blk_drew ?_ | refine blk_alloc ?_ _)); refine blk_put (cs := #[.int .i64 t437, .int .i64 t435, .int .i64 t437, .int .i64 t439]) ?_ 1 _ rfl; (with_reducible repeat (first | refine blk_drewN ?_ _ | refine blk_drew ?_ | refine blk_alloc ?_ _)); refine blk_put (cs := #[.int .i64 t433, .int .i64 t435, .int .i64 t437, .int .i64 t439]) ?_ 0 _ rfl; (with_reducible repeat (first | refine blk_drewN ?_ _ | refine blk_drew ?_ | refine blk_alloc ?_ _)); refine blk_put (cs := #[.int .i64 t433, .int .i64 t435, .int .i64 t437, .int .i64 0]) ?_ 3 _ rfl; (with_reducible repeat (first | refine blk_drewN ?_ _ | refine blk_drew ?_ | refine blk_alloc ?_ _)); refine blk_put (cs := #[.int .i64 t433, .int .i64 t435, .int .i64 0, .int .i64 0]) ?_ 2 _ rfl; (with_reducible repeat (first | refine blk_drewN ?_ _ | refine blk_drew ?_ | refine blk_alloc ?_ _)); refine blk_put (cs := #[.int .i64 t433, .int .i64 0, .int .i64 0, .int .i64 0]) ?_ 1 _ rfl; (with_reducible repeat (first | refine blk_drewN ?_ _ | refine blk_drew ?_ | refine blk_alloc ?_ _)); refine blk_put (cs := #[.int .i64 0, .int .i64 0, .int .i64 0, .int .i64 0]) ?_ 0 _ rfl; (with_reducible repeat (first | refine blk_drewN ?_ _ | refine blk_drew ?_ | refine blk_alloc ?_ _)); exact BK440.out⟩, ⟨HBz⟩⟩
         ·rw [if_neg c22] at H
          have c22b0 : decide (t437 < t433) = false := decide_eq_false c22
          clear c22
          (first | rw [c22b0] | (simp only [i64_w, i32_w]; rw [c22b0]) | skip)
          have H' := Aside0.mk H
          clear H
          go_wp2
          go_meet
          case rel => exact ⟨_, (t433), (t435), (t437), (t439), H', ⟨by have := HK1.out; have := HJ3.out; first | omega | exact Nat.le_refl _⟩, ⟨by (with_reducible repeat (first | apply Kd.R_alloc | apply Kd.R_drewN | apply Kd.R_drew)); exact Kd.R_mono (Kd.R_far (p := ⟨gb440, 3, none⟩) (Kd.R_far (p := ⟨gb440, 2, none⟩) (Kd.R_far (p := ⟨gb440, 1, none⟩) (Kd.R_far (p := ⟨gb440, 0, none⟩) (Kd.R_mono HO_7.out (fun k_ hk => (⟨hk, hk⟩ : _ ∧ k_ ≠ gb440))) (fun _ hk => hk.2) (.int .i64 t433)) (fun _ hk => hk.2) (.int .i64 t435)) (fun _ hk => hk.2) (.int .i64 t437)) (fun _ hk => hk.2) (.int .i64 t439)) (fun _ hk => hk.1)⟩, ⟨by (with_reducible repeat (first | refine blk_drewN ?_ _ | refine blk_drew ?_ | refine blk_alloc ?_ _)); refine blk_put (cs := #[.int .i64 t433, .int .i64 t435, .int .i64 t437, .int .i64 0]) ?_ 3 _ rfl; (with_reducible repeat (first | refine blk_drewN ?_ _ | refine blk_drew ?_ | refine blk_alloc ?_ _)); refine blk_put (cs := #[.int .i64 t433, .int .i64 t435, .int .i64 0, .int .i64 0]) ?_ 2 _ rfl; (with_reducible repeat (first | refine blk_drewN ?_ _ | refine blk_drew ?_ | refine blk_alloc ?_ _)); refine blk_put (cs := #[.int .i64 t433, .int .i64 0, .int .i64 0, .int .i64 0]) ?_ 1 _ rfl; (with_reducible repeat (first | refine blk_drewN ?_ _ | refine blk_drew ?_ | refine blk_alloc ?_ _)); refine blk_put (cs := #[.int .i64 0, .int .i64 0, .int .i64 0, .int .i64 0]) ?_ 0 _ rfl; (with_reducible repeat (first | refine blk_drewN ?_ _ | refine blk_drew ?_ | refine blk_alloc ?_ _)); exact BK440.out⟩, ⟨HBz⟩⟩
        case rest =>
         clear HC13
         try clear c2
         try clear p2
         try clear c3
         try clear c22
         try clear c22b0
         try clear hcz21_0
         try clear hcz21_1
         try clear hcz21_2
         try clear hcz21_3
         try clear hcz23_0
         try clear hcz23_1
         try clear hcz23_2
         try clear hcz23_3
         try clear hfz21_0
         try clear hfz21_1
         try clear hfz21_2
         try clear hfz21_3
         try clear hfz23_0
         try clear hfz23_1
         try clear hfz23_2
         try clear hfz23_3
         obtain ⟨kq, x441000_12, x441001_12, x441002_12, x441003_12, HA, HJ12, HO_7, BK440, HB⟩ := hcut
         cases kq with
         | zero => exact absurd HA.out (by simp [tickinglaw01_tamed.j2])
         | succ kj12 =>
          have H := HA.out
          clear HA
          simp only [tickinglaw01_tamed.j2] at H
          by_cases c24 : x441001_12 > x441003_12
          ·rw [if_pos c24] at H
           have c24b0 : decide (x441003_12 < x441001_12) = true := decide_eq_true c24
           clear c24
           replace H := Option.bind_eq_some_iff.mp H
           obtain ⟨t441, A250, H⟩ := H
           replace H : (if t441 = true then (if x7_1.length < 4398046511104 then (tickinglaw01_tamed.l0 kj12 l0 a1 a2 (x7_1 ++ [(⟨x441000_12, x441003_12, x441002_12, x441001_12⟩ : S48)]) (wrap64 (x8_1 + 1))) else (none)) else (tickinglaw01_tamed.l0 kj12 l0 a1 a2 x7_1 (wrap64 (x8_1 + 1)))) = some r := H
           have A25 := Aside0.mk A250
           clear A250
           by_cases c26 : t441 = true
           ·subst c26
            have H1 : (if x7_1.length < 4398046511104 then (tickinglaw01_tamed.l0 kj12 l0 a1 a2 (x7_1 ++ [(⟨x441000_12, x441003_12, x441002_12, x441001_12⟩ : S48)]) (wrap64 (x8_1 + 1))) else (none)) = some r := by rw [if_pos rfl] at H; exact H
            clear H
            have H := H1
            clear H1
            by_cases c27 : x7_1.length < 4398046511104
            ·rw [if_pos c27] at H
             have LMc27 := Aside0.mk c27
             clear c27
             obtain ⟨y442, hy442⟩ : ∃ y_ : List (S48), y_ = (x7_1 ++ [(⟨x441000_12, x441003_12, x441002_12, x441001_12⟩ : S48)]) := ⟨_, rfl⟩
             replace H : (tickinglaw01_tamed.l0 kj12 l0 a1 a2 y442 (wrap64 (x8_1 + 1))) = some r := by first | (rw [hy442]; with_reducible exact H) | (have H2_ := (Option.bind_some _ _).symm.trans H; rw [hy442]; with_reducible exact H2_) | (have H2_ := (Option.bind_some _ _).symm.trans H; with_reducible exact H2_) | with_reducible exact H | (rw [hy442]; exact H) | exact H
             have Ny442 := Aside0.mk hy442
             clear hy442
             have H' := Aside0.mk H
             clear H
             have hcz28_0 : wc.cell? ⟨gb440, 0, none⟩ = some (.int .i64 x441000_12) := (blk_cell BK440.out 0).trans rfl
             have hcz28_1 : wc.cell? ⟨gb440, 1, none⟩ = some (.int .i64 x441001_12) := (blk_cell BK440.out 1).trans rfl
             have hcz28_2 : wc.cell? ⟨gb440, 2, none⟩ = some (.int .i64 x441002_12) := (blk_cell BK440.out 2).trans rfl
             have hcz28_3 : wc.cell? ⟨gb440, 3, none⟩ = some (.int .i64 x441003_12) := (blk_cell BK440.out 3).trans rfl
             have hfz28_0 := blk_frozen BK440.out 0
             have hfz28_1 := blk_frozen BK440.out 1
             have hfz28_2 := blk_frozen BK440.out 2
             have hfz28_3 := blk_frozen BK440.out 3
             go_wp2_with (first | ((with_reducible refine gate_callee (f := 50) rfl ?_); refine goesL_ (some 79) rfl rfl Try.func50 (by kernel_rfl) rfl #[.agg #[.int .i64 x441000_12, .int .i64 x441003_12, .int .i64 x441002_12, .int .i64 x441001_12]] rfl (by (try simp only [List.map_toArray, List.map_cons, List.map_nil]); first | done | rfl | (simp only [List.length_drop, List.length_take]; rfl)) ?_; (with_reducible refine (tickingref01_Rect.calls x441000_12 x441003_12 x441002_12 x441001_12 true _ A25.out).mono ?_); rintro e w29 ⟨rfl, hb⟩; refine ⟨_, rfl, ?_⟩; have n0_ := Aside0.mk (Kd.R_below (by (with_reducible repeat (first | apply Kd.R_alloc | apply Kd.R_drewN | apply Kd.R_drew)); exact (Kd.R_mono (Kd.R_far (p := ⟨gb440, 3, none⟩) (Kd.R_far (p := ⟨gb440, 2, none⟩) (Kd.R_far (p := ⟨gb440, 1, none⟩) (Kd.R_far (p := ⟨gb440, 0, none⟩) (Kd.R_mono HO_7.out (fun k_ hk => (⟨hk, hk⟩ : _ ∧ k_ ≠ gb440))) (fun _ hk => hk.2) (.int .i64 x441000_12)) (fun _ hk => hk.2) (.int .i64 x441003_12)) (fun _ hk => hk.2) (.int .i64 x441002_12)) (fun _ hk => hk.2) (.int .i64 x441001_12)) (fun _ h_ => h_.1))) hb); have n1_ := Aside0.mk (blk_below (g := gb440) (o := .cells #[.int .i64 x441000_12, .int .i64 x441003_12, .int .i64 x441002_12, .int .i64 x441001_12] 48 (0, 0)) (by (with_reducible repeat (first | refine blk_drewN ?_ _ | refine blk_drew ?_ | refine blk_alloc ?_ _)); refine blk_put (cs := #[.int .i64 x441000_12, .int .i64 x441003_12, .int .i64 x441002_12, .int .i64 x441003_12]) ?_ 3 _ rfl; (with_reducible repeat (first | refine blk_drewN ?_ _ | refine blk_drew ?_ | refine blk_alloc ?_ _)); refine blk_put (cs := #[.int .i64 x441000_12, .int .i64 x441003_12, .int .i64 x441002_12, .int .i64 x441003_12]) ?_ 2 _ rfl; (with_reducible repeat (first | refine blk_drewN ?_ _ | refine blk_drew ?_ | refine blk_alloc ?_ _)); refine blk_put (cs := #[.int .i64 x441000_12, .int .i64 x441001_12, .int .i64 x441002_12, .int .i64 x441003_12]) ?_ 1 _ rfl; (with_reducible repeat (first | refine blk_drewN ?_ _ | refine blk_drew ?_ | refine blk_alloc ?_ _)); refine blk_put (cs := #[.int .i64 x441000_12, .int .i64 x441001_12, .int .i64 x441002_12, .int .i64 x441003_12]) ?_ 0 _ rfl; (with_reducible repeat (first | refine blk_drewN ?_ _ | refine blk_drew ?_ | refine blk_alloc ?_ _)); exact BK440.out) hb); have n2_ := Aside0.mk (below_step HBz hb); clear HO_7; clear BK440; clear HB; have HO_7 := n0_; have BK440 := n1_; have HB := n2_; clear n0_ n1_ n2_; (try clear hb); (try clear hb2); (try clear hk); (try clear hi); have hcz30_0 : w29.cell? ⟨gb440, 0, none⟩ = some (.int .i64 x441000_12) := (blk_cell BK440.out 0).trans rfl; have hcz30_1 : w29.cell? ⟨gb440, 1, none⟩ = some (.int .i64 x441003_12) := (blk_cell BK440.out 1).trans rfl; have hcz30_2 : w29.cell? ⟨gb440, 2, none⟩ = some (.int .i64 x441002_12) := (blk_cell BK440.out 2).trans rfl; have hcz30_3 : w29.cell? ⟨gb440, 3, none⟩ = some (.int .i64 x441001_12) := (blk_cell BK440.out 3).trans rfl; have hfz30_0 := blk_frozen BK440.out 0; have hfz30_1 := blk_frozen BK440.out 1; have hfz30_2 := blk_frozen BK440.out 2; have hfz30_3 := blk_frozen BK440.out 3) | ((with_reducible refine gate_builtin (b := .append) (xs := #[.tmp 80, .tmp 82]) rfl ?_); at_builtin; refine Kd.R_append k48 (w0 := w) w.heap.size rfl (.tmp 80) (.tmp 82) 22 48 (.agg #[(.int .i64 0), (.int .i64 0), (.int .i64 0), (.int .i64 0)]) 32 rfl Try.underlying22 info48 rfl (by decide) (by omega) u7 x7_1 (⟨x441000_12, x441003_12, x441002_12, x441001_12⟩ : S48) [.int .i64 x441000_12, .int .i64 x441003_12, .int .i64 x441002_12, .int .i64 x441001_12] (fun k_ => k_ ≠ gb440) (fun _ => False) rfl rfl ?aP (fun _ hk => hk.elim) ?aF ?aO ?aB ?aS ?aL ?_; (case aP => exact k48_mkM _ _ _ (⟨x441000_12, x441003_12, x441002_12, x441001_12⟩ : S48)); (case aB => exact HBz); (case aF => exact (fun k_ hk => Kd.freshB (g := gb440) BKz k_ hk)); (case aO => exact (by (with_reducible repeat (first | apply Kd.R_alloc | apply Kd.R_drewN | apply Kd.R_drew)); exact HO_7.out)); (case aS => exact (below_size HBz)); (case aL => have := LMc27.out; omega); intro v443 w31 ho hb hg hat; rw [← Ny442.out] at ho; have n0_ := Aside0.mk (blk_grown (g := gb440) BKz hg (Kd.R_away HO_7.out (fun _ hk => hk))); have n1_ := Aside0.mk (hb); have n2_ := Aside0.mk (ho); clear BK440; clear HB; clear HO_7; have BK440 := n0_; have HB := n1_; have HO444 := n2_; clear n0_ n1_ n2_; clear ho hb hg hat))
             go_roundg kj12
             case measure => have := HK1.out; have := HJ3.out; have := HJ12.out; omega
             case rel => exact ⟨(y442), (wrap64 (x8_1 + 1)), (by first | rfl | (simp; done) | (simp [*]; done)), H', ⟨by have := HK1.out; have := HJ3.out; have := HJ12.out; omega⟩, ⟨by (with_reducible repeat (first | apply Kd.R_alloc | apply Kd.R_drewN | apply Kd.R_drew)); exact Kd.R_mono HO444.out (fun _ hk => trivial)⟩, ⟨HBz⟩⟩
            ·rw [if_neg c27] at H
             exact absurd H (by simp)
           ·replace c26 := Bool.eq_false_iff.mpr c26
            subst c26
            have H1 : (tickinglaw01_tamed.l0 kj12 l0 a1 a2 x7_1 (wrap64 (x8_1 + 1))) = some r := by rw [if_neg (show ¬ (false = true) by decide)] at H; exact H
            clear H
            have H := H1
            clear H1
            have H' := Aside0.mk H
            clear H
            have hcz32_0 : wc.cell? ⟨gb440, 0, none⟩ = some (.int .i64 x441000_12) := (blk_cell BK440.out 0).trans rfl
            have hcz32_1 : wc.cell? ⟨gb440, 1, none⟩ = some (.int .i64 x441001_12) := (blk_cell BK440.out 1).trans rfl
            have hcz32_2 : wc.cell? ⟨gb440, 2, none⟩ = some (.int .i64 x441002_12) := (blk_cell BK440.out 2).trans rfl
            have hcz32_3 : wc.cell? ⟨gb440, 3, none⟩ = some (.int .i64 x441003_12) := (blk_cell BK440.out 3).trans rfl
            have hfz32_0 := blk_frozen BK440.out 0
            have hfz32_1 := blk_frozen BK440.out 1
            have hfz32_2 := blk_frozen BK440.out 2
            have hfz32_3 := blk_frozen BK440.out 3
            go_wp2_with (first | ((with_reducible refine gate_callee (f := 50) rfl ?_); refine goesL_ (some 79) rfl rfl Try.func50 (by kernel_rfl) rfl #[.agg #[.int .i64 x441000_12, .int .i64 x441003_12, .int .i64 x441002_12, .int .i64 x441001_12]] rfl (by (try simp only [List.map_toArray, List.map_cons, List.map_nil]); first | done | rfl | (simp only [List.length_drop, List.length_take]; rfl)) ?_; (with_reducible refine (tickingref01_Rect.calls x441000_12 x441003_12 x441002_12 x441001_12 false _ A25.out).mono ?_); rintro e w33 ⟨rfl, hb⟩; refine ⟨_, rfl, ?_⟩; have n0_ := Aside0.mk (Kd.R_below (by (with_reducible repeat (first | apply Kd.R_alloc | apply Kd.R_drewN | apply Kd.R_drew)); exact (Kd.R_mono (Kd.R_far (p := ⟨gb440, 3, none⟩) (Kd.R_far (p := ⟨gb440, 2, none⟩) (Kd.R_far (p := ⟨gb440, 1, none⟩) (Kd.R_far (p := ⟨gb440, 0, none⟩) (Kd.R_mono HO_7.out (fun k_ hk => (⟨hk, hk⟩ : _ ∧ k_ ≠ gb440))) (fun _ hk => hk.2) (.int .i64 x441000_12)) (fun _ hk => hk.2) (.int .i64 x441003_12)) (fun _ hk => hk.2) (.int .i64 x441002_12)) (fun _ hk => hk.2) (.int .i64 x441001_12)) (fun _ h_ => h_.1))) hb); have n1_ := Aside0.mk (blk_below (g := gb440) (o := .cells #[.int .i64 x441000_12, .int .i64 x441003_12, .int .i64 x441002_12, .int .i64 x441001_12] 48 (0, 0)) (by (with_reducible repeat (first | refine blk_drewN ?_ _ | refine blk_drew ?_ | refine blk_alloc ?_ _)); refine blk_put (cs := #[.int .i64 x441000_12, .int .i64 x441003_12, .int .i64 x441002_12, .int .i64 x441003_12]) ?_ 3 _ rfl; (with_reducible repeat (first | refine blk_drewN ?_ _ | refine blk_drew ?_ | refine blk_alloc ?_ _)); refine blk_put (cs := #[.int .i64 x441000_12, .int .i64 x441003_12, .int .i64 x441002_12, .int .i64 x441003_12]) ?_ 2 _ rfl; (with_reducible repeat (first | refine blk_drewN ?_ _ | refine blk_drew ?_ | refine blk_alloc ?_ _)); refine blk_put (cs := #[.int .i64 x441000_12, .int .i64 x441001_12, .int .i64 x441002_12, .int .i64 x441003_12]) ?_ 1 _ rfl; (with_reducible repeat (first | refine blk_drewN ?_ _ | refine blk_drew ?_ | refine blk_alloc ?_ _)); refine blk_put (cs := #[.int .i64 x441000_12, .int .i64 x441001_12, .int .i64 x441002_12, .int .i64 x441003_12]) ?_ 0 _ rfl; (with_reducible repeat (first | refine blk_drewN ?_ _ | refine blk_drew ?_ | refine blk_alloc ?_ _)); exact BK440.out) hb); have n2_ := Aside0.mk (below_step HBz hb); clear HO_7; clear BK440; clear HB; have HO_7 := n0_; have BK440 := n1_; have HB := n2_; clear n0_ n1_ n2_; (try clear hb); (try clear hb2); (try clear hk); (try clear hi)))
            go_roundg kj12
            case measure => have := HK1.out; have := HJ3.out; have := HJ12.out; omega
            case rel => exact ⟨(x7_1), (wrap64 (x8_1 + 1)), (by first | rfl | (simp; done) | (simp [*]; done)), H', ⟨by have := HK1.out; have := HJ3.out; have := HJ12.out; omega⟩, ⟨by (with_reducible repeat (first | apply Kd.R_alloc | apply Kd.R_drewN | apply Kd.R_drew)); exact Kd.R_mono HO_7.out (fun _ hk => trivial)⟩, ⟨HBz⟩⟩
          ·rw [if_neg c24] at H
           have c24b0 : decide (x441003_12 < x441001_12) = false := decide_eq_false c24
           clear c24
           replace H := Option.bind_eq_some_iff.mp H
           obtain ⟨t445, A340, H⟩ := H
           replace H : (if t445 = true then (if x7_1.length < 4398046511104 then (tickinglaw01_tamed.l0 kj12 l0 a1 a2 (x7_1 ++ [(⟨x441000_12, x441001_12, x441002_12, x441003_12⟩ : S48)]) (wrap64 (x8_1 + 1))) else (none)) else (tickinglaw01_tamed.l0 kj12 l0 a1 a2 x7_1 (wrap64 (x8_1 + 1)))) = some r := H
           have A34 := Aside0.mk A340
           clear A340
           by_cases c35 : t445 = true
           ·subst c35
            have H1 : (if x7_1.length < 4398046511104 then (tickinglaw01_tamed.l0 kj12 l0 a1 a2 (x7_1 ++ [(⟨x441000_12, x441001_12, x441002_12, x441003_12⟩ : S48)]) (wrap64 (x8_1 + 1))) else (none)) = some r := by rw [if_pos rfl] at H; exact H
            clear H
            have H := H1
            clear H1
            by_cases c36 : x7_1.length < 4398046511104
            ·rw [if_pos c36] at H
             have LMc36 := Aside0.mk c36
             clear c36
             obtain ⟨y446, hy446⟩ : ∃ y_ : List (S48), y_ = (x7_1 ++ [(⟨x441000_12, x441001_12, x441002_12, x441003_12⟩ : S48)]) := ⟨_, rfl⟩
             replace H : (tickinglaw01_tamed.l0 kj12 l0 a1 a2 y446 (wrap64 (x8_1 + 1))) = some r := by first | (rw [hy446]; with_reducible exact H) | (have H2_ := (Option.bind_some _ _).symm.trans H; rw [hy446]; with_reducible exact H2_) | (have H2_ := (Option.bind_some _ _).symm.trans H; with_reducible exact H2_) | with_reducible exact H | (rw [hy446]; exact H) | exact H
             have Ny446 := Aside0.mk hy446
             clear hy446
             have H' := Aside0.mk H
             clear H
             have hcz37_0 : wc.cell? ⟨gb440, 0, none⟩ = some (.int .i64 x441000_12) := (blk_cell BK440.out 0).trans rfl
             have hcz37_1 : wc.cell? ⟨gb440, 1, none⟩ = some (.int .i64 x441001_12) := (blk_cell BK440.out 1).trans rfl
             have hcz37_2 : wc.cell? ⟨gb440, 2, none⟩ = some (.int .i64 x441002_12) := (blk_cell BK440.out 2).trans rfl
             have hcz37_3 : wc.cell? ⟨gb440, 3, none⟩ = some (.int .i64 x441003_12) := (blk_cell BK440.out 3).trans rfl
             have hfz37_0 := blk_frozen BK440.out 0
             have hfz37_1 := blk_frozen BK440.out 1
             have hfz37_2 := blk_frozen BK440.out 2
             have hfz37_3 := blk_frozen BK440.out 3
             go_wp2_with (first | ((with_reducible refine gate_callee (f := 50) rfl ?_); refine goesL_ (some 79) rfl rfl Try.func50 (by kernel_rfl) rfl #[.agg #[.int .i64 x441000_12, .int .i64 x441001_12, .int .i64 x441002_12, .int .i64 x441003_12]] rfl (by (try simp only [List.map_toArray, List.map_cons, List.map_nil]); first | done | rfl | (simp only [List.length_drop, List.length_take]; rfl)) ?_; (with_reducible refine (tickingref01_Rect.calls x441000_12 x441001_12 x441002_12 x441003_12 true _ A34.out).mono ?_); rintro e w38 ⟨rfl, hb⟩; refine ⟨_, rfl, ?_⟩; have n0_ := Aside0.mk (Kd.R_below (by (with_reducible repeat (first | apply Kd.R_alloc | apply Kd.R_drewN | apply Kd.R_drew)); exact HO_7.out) hb); have n1_ := Aside0.mk (blk_below (g := gb440) BKz hb); have n2_ := Aside0.mk (below_step HBz hb); clear HO_7; clear BK440; clear HB; have HO_7 := n0_; have BK440 := n1_; have HB := n2_; clear n0_ n1_ n2_; (try clear hb); (try clear hb2); (try clear hk); (try clear hi); have hcz39_0 : w38.cell? ⟨gb440, 0, none⟩ = some (.int .i64 x441000_12) := (blk_cell BK440.out 0).trans rfl; have hcz39_1 : w38.cell? ⟨gb440, 1, none⟩ = some (.int .i64 x441001_12) := (blk_cell BK440.out 1).trans rfl; have hcz39_2 : w38.cell? ⟨gb440, 2, none⟩ = some (.int .i64 x441002_12) := (blk_cell BK440.out 2).trans rfl; have hcz39_3 : w38.cell? ⟨gb440, 3, none⟩ = some (.int .i64 x441003_12) := (blk_cell BK440.out 3).trans rfl; have hfz39_0 := blk_frozen BK440.out 0; have hfz39_1 := blk_frozen BK440.out 1; have hfz39_2 := blk_frozen BK440.out 2; have hfz39_3 := blk_frozen BK440.out 3) | ((with_reducible refine gate_builtin (b := .append) (xs := #[.tmp 80, .tmp 82]) rfl ?_); at_builtin; refine Kd.R_append k48 (w0 := w) w.heap.size rfl (.tmp 80) (.tmp 82) 22 48 (.agg #[(.int .i64 0), (.int .i64 0), (.int .i64 0), (.int .i64 0)]) 32 rfl Try.underlying22 info48 rfl (by decide) (by omega) u7 x7_1 (⟨x441000_12, x441001_12, x441002_12, x441003_12⟩ : S48) [.int .i64 x441000_12, .int .i64 x441001_12, .int .i64 x441002_12, .int .i64 x441003_12] (fun k_ => k_ ≠ gb440) (fun _ => False) rfl rfl ?aP (fun _ hk => hk.elim) ?aF ?aO ?aB ?aS ?aL ?_; (case aP => exact k48_mkM _ _ _ (⟨x441000_12, x441001_12, x441002_12, x441003_12⟩ : S48)); (case aB => exact HBz); (case aF => exact (fun k_ hk => Kd.freshB (g := gb440) BKz k_ hk)); (case aO => exact (by (with_reducible repeat (first | apply Kd.R_alloc | apply Kd.R_drewN | apply Kd.R_drew)); exact HO_7.out)); (case aS => exact (below_size HBz)); (case aL => have := LMc36.out; omega); intro v447 w40 ho hb hg hat; rw [← Ny446.out] at ho; have n0_ := Aside0.mk (blk_grown (g := gb440) BKz hg (Kd.R_away HO_7.out (fun _ hk => hk))); have n1_ := Aside0.mk (hb); have n2_ := Aside0.mk (ho); clear BK440; clear HB; clear HO_7; have BK440 := n0_; have HB := n1_; have HO448 := n2_; clear n0_ n1_ n2_; clear ho hb hg hat))
             go_roundg kj12
             case measure => have := HK1.out; have := HJ3.out; have := HJ12.out; omega
             case rel => exact ⟨(y446), (wrap64 (x8_1 + 1)), (by first | rfl | (simp; done) | (simp [*]; done)), H', ⟨by have := HK1.out; have := HJ3.out; have := HJ12.out; omega⟩, ⟨by (with_reducible repeat (first | apply Kd.R_alloc | apply Kd.R_drewN | apply Kd.R_drew)); exact Kd.R_mono HO448.out (fun _ hk => trivial)⟩, ⟨HBz⟩⟩
            ·rw [if_neg c36] at H
             exact absurd H (by simp)
           ·replace c35 := Bool.eq_false_iff.mpr c35
            subst c35
            have H1 : (tickinglaw01_tamed.l0 kj12 l0 a1 a2 x7_1 (wrap64 (x8_1 + 1))) = some r := by rw [if_neg (show ¬ (false = true) by decide)] at H; exact H
            clear H
            have H := H1
            clear H1
            have H' := Aside0.mk H
            clear H
            have hcz41_0 : wc.cell? ⟨gb440, 0, none⟩ = some (.int .i64 x441000_12) := (blk_cell BK440.out 0).trans rfl
            have hcz41_1 : wc.cell? ⟨gb440, 1, none⟩ = some (.int .i64 x441001_12) := (blk_cell BK440.out 1).trans rfl
            have hcz41_2 : wc.cell? ⟨gb440, 2, none⟩ = some (.int .i64 x441002_12) := (blk_cell BK440.out 2).trans rfl
            have hcz41_3 : wc.cell? ⟨gb440, 3, none⟩ = some (.int .i64 x441003_12) := (blk_cell BK440.out 3).trans rfl
            have hfz41_0 := blk_frozen BK440.out 0
            have hfz41_1 := blk_frozen BK440.out 1
            have hfz41_2 := blk_frozen BK440.out 2
            have hfz41_3 := blk_frozen BK440.out 3
            go_wp2_with (first | ((with_reducible refine gate_callee (f := 50) rfl ?_); refine goesL_ (some 79) rfl rfl Try.func50 (by kernel_rfl) rfl #[.agg #[.int .i64 x441000_12, .int .i64 x441001_12, .int .i64 x441002_12, .int .i64 x441003_12]] rfl (by (try simp only [List.map_toArray, List.map_cons, List.map_nil]); first | done | rfl | (simp only [List.length_drop, List.length_take]; rfl)) ?_; (with_reducible refine (tickingref01_Rect.calls x441000_12 x441001_12 x441002_12 x441003_12 false _ A34.out).mono ?_); rintro e w42 ⟨rfl, hb⟩; refine ⟨_, rfl, ?_⟩; have n0_ := Aside0.mk (Kd.R_below (by (with_reducible repeat (first | apply Kd.R_alloc | apply Kd.R_drewN | apply Kd.R_drew)); exact HO_7.out) hb); have n1_ := Aside0.mk (blk_below (g := gb440) BKz hb); have n2_ := Aside0.mk (below_step HBz hb); clear HO_7; clear BK440; clear HB; have HO_7 := n0_; have BK440 := n1_; have HB := n2_; clear n0_ n1_ n2_; (try clear hb); (try clear hb2); (try clear hk); (try clear hi)))
            go_roundg kj12
            case measure => have := HK1.out; have := HJ3.out; have := HJ12.out; omega
            case rel => exact ⟨(x7_1), (wrap64 (x8_1 + 1)), (by first | rfl | (simp; done) | (simp [*]; done)), H', ⟨by have := HK1.out; have := HJ3.out; have := HJ12.out; omega⟩, ⟨by (with_reducible repeat (first | apply Kd.R_alloc | apply Kd.R_drewN | apply Kd.R_drew)); exact Kd.R_mono HO_7.out (fun _ hk => trivial)⟩, ⟨HBz⟩⟩
       ·rw [if_neg c8] at H
        exact absurd H (by simp)
      ·rw [if_neg c7] at H
       exact absurd H (by simp)
     ·replace c6 := Bool.eq_false_iff.mpr c6
      subst c6
      have H1 : (some x7_1) = some r := by rw [if_neg (show ¬ (false = true) by decide)] at H; exact H
      clear H
      have H := H1
      clear H1
      obtain rfl := Option.some.inj H
      go_wp2
      go_ret
      exact ⟨_, by first | rfl | (simp [errW_none, errW_some] <;> rfl) | (simp [*, errW_none, errW_some] <;> rfl), by (with_reducible repeat (first | apply Kd.R_alloc | apply Kd.R_drewN | apply Kd.R_drew)); exact HO_7.out, HBz⟩
end Go.Proofs.Ytplhfbkejngioaa.X
