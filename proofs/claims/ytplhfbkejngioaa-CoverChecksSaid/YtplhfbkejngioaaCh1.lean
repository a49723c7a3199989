/- The smallest circle, plain: it is found, and it is the only one. Texts of this claim's session, put together: X16, X20, X24, Exist, Exist2, Exist3. -/
import Derived.Test.YtplhfbkejngioaaBc0
import Derived.Test.YtplhfbkejngioaaBc4
import Derived.Test.YtplhfbkejngioaaBc5
import Derived.Test.YtplhfbkejngioaaCh0
import Derived.Test.YtplhfbkejngioaaVWords
import Derived.Test.YtplhfbkejngioaaVLast
import Derived.Test.YtplhfbkejngioaaVTab
import Derived.Test.YtplhfbkejngioaaVRepsOne
namespace Go.Proofs.Ytplhfbkejngioaa.X
open Go.RowKit Go.Proofs.YtplhfbkejngioaaW.PrintWords Go.Proofs.YtplhfbkejngioaaW.PrintLast Go.Proofs.Ytplhfbkejngioaa.S
attribute [local go_sem] max2_int min2_int max_two min_two
set_option linter.unusedVariables false
set_option linter.unusedSimpArgs false
def tickingref01_gcd.l0 : Nat → Int → Int → Option (Int)
 | 0, _, _ => none
 | k + 1, x0, x1 => if x1 > 0 then (if x1 = 0 then (none) else (tickingref01_gcd.l0 k x1 (Int.tmod x0 x1))) else (some x0)
def tickingref01_gcd.f (k : Nat) (a0 : Int) (a1 : Int) : Option (Int) := tickingref01_gcd.l0 k a0 a1
theorem tickingref01_gcd.mono_l : ∀ k, (∀ y0 y1, LeO (tickingref01_gcd.l0 k y0 y1) (tickingref01_gcd.l0 (k + 1) y0 y1))
 | 0 => fun _ _ r h => by simp [tickingref01_gcd.l0] at h
 | k + 1 => by
  have ih0 := tickingref01_gcd.mono_l k
  ·intro y0 y1
   unfold tickingref01_gcd.l0
   repeat' first
   | (with_reducible exact ih0 _ _)
   | (with_reducible exact LeO.refl _)
   | (with_reducible exact LeO.none _)
   | (with_reducible refine LeO.ite ?_ ?_)
   | (with_reducible refine LeO.bind ?_ (fun _ => ?_))
   | exact ih0 _ _
   | exact LeO.none _
   | refine LeO.ite ?_ ?_
   | refine LeO.bind ?_ (fun _ => ?_)
theorem tickingref01_gcd.mono : ∀ a0 a1 k, LeO (tickingref01_gcd.f k a0 a1) (tickingref01_gcd.f (k + 1) a0 a1) := by
 intro a0 a1 k
 have ih0 := tickingref01_gcd.mono_l k
 unfold tickingref01_gcd.f
 repeat' first
   | (with_reducible exact ih0 _ _)
   | (with_reducible exact LeO.refl _)
   | (with_reducible exact LeO.none _)
   | (with_reducible refine LeO.ite ?_ ?_)
   | (with_reducible refine LeO.bind ?_ (fun _ => ?_))
   | exact ih0 _ _
   | exact LeO.none _
   | refine LeO.ite ?_ ?_
   | refine LeO.bind ?_ (fun _ => ?_)
set_option maxHeartbeats 8000000 in
set_option maxRecDepth 100000 in
theorem tickingref01_gcd.calls (k : Nat) (a0 : Int) (a1 : Int) (r : Int) (w : World) (h : tickingref01_gcd.f k a0 a1 = some r) :
  Calls Try.prog 55 #[.int .i64 a0, .int .i64 a1] w fun e w' => e = .returned (.int .i64 r) ∧ Drawn0 w w' := by
 have H : (tickingref01_gcd.l0 k a0 a1) = some r := h
 clear h
 have H' := Aside0.mk H
 clear H
 go_enter Try.func55, Try.ntmps55
 go_wp2
 go_loopg [0, 1] k (fun kq v0 v1 w' => ∃ (x0_1 : Int) (x1_1 : Int), v0 = .int .i64 x0_1 ∧ v1 = .int .i64 x1_1 ∧ Aside0 (tickingref01_gcd.l0 kq x0_1 x1_1 = some r) ∧ Aside0 (kq ≤ k) ∧ Drawn0 w w')
 case atStart => exact ⟨(a0), (a1), (by first | rfl | (simp; done) | (simp [*]; done)), (by first | rfl | (simp; done) | (simp [*]; done)), H', ⟨Nat.le_refl _⟩, by repeat (first | exact Drawn0.refl _ | apply Drawn0.step)⟩
 case round =>
  clear H'
  try clear p2
  obtain ⟨x0_1, x1_1, rfl, rfl, HA, HK1, ⟨m1, rfl⟩⟩ := hrel
  cases gk with
  | zero => exact absurd HA.out (by simp [tickingref01_gcd.l0])
  | succ k1 =>
   have H := HA.out
   clear HA
   simp only [tickingref01_gcd.l0] at H
   by_cases c3 : x1_1 > 0
   ·rw [if_pos c3] at H
    have c3b0 : decide (0 < x1_1) = true := decide_eq_true c3
    clear c3
    by_cases c4 : x1_1 = 0
    ·rw [if_pos c4] at H
     exact absurd H (by simp)
    ·rw [if_neg c4] at H
     have c4b0 : (x1_1 == 0) = false := beq_eq_false_iff_ne.mpr c4
     have c4b1 : (x1_1 != 0) = true := bne_iff_ne.mpr c4
     have H' := Aside0.mk H
     clear H
     go_wp2
     go_roundg k1
     case measure => have := HK1.out; omega
     case rel => exact ⟨(x1_1), (Int.tmod x0_1 x1_1), (by first | rfl | (simp; done) | (simp [*]; done)), (by first | rfl | (simp; done) | (simp [*]; done)), H', ⟨by have := HK1.out; omega⟩, by repeat (first | exact Drawn0.refl _ | apply Drawn0.step)⟩
   ·rw [if_neg c3] at H
    have c3b0 : decide (0 < x1_1) = false := decide_eq_false c3
    clear c3
    obtain rfl := Option.some.inj H
    go_wp2
    go_ret
    exact ⟨by first | rfl | (simp; done) | (simp [*]; done), by repeat (first | exact Drawn0.refl _ | apply Drawn0.step)⟩
def tickingref01_absolute.f (a0 : Int) : Option (Int) := some (mx a0 (wrap64 (-a0)))
set_option maxHeartbeats 8000000 in
set_option maxRecDepth 100000 in
theorem tickingref01_absolute.calls (a0 : Int) (r : Int) (w : World) (h : tickingref01_absolute.f a0 = some r) :
  Calls Try.prog 56 #[.int .i64 a0] w fun e w' => e = .returned (.int .i64 r) ∧ Below w.heap.size w w' := by
 have HB := Aside0.mk (Below.refl w.heap.size w)
 have H : (some (mx a0 (wrap64 (-a0)))) = some r := h
 clear h
 obtain ⟨ji2, hji2⟩ : ∃ j_ : Int, (mx a0 (wrap64 (-a0))) = j_ := ⟨_, rfl⟩
 replace H : (some ji2) = some r := by first | (rw [hji2] at H; exact H) | (simp only [hji2] at H ⊢; exact H)
 have hji2_ : (if a0 < (wrap64 (-a0)) then (wrap64 (-a0)) else a0) = ji2 := hji2
 obtain rfl := Option.some.inj H
 go_enter Try.func56, Try.ntmps56
 go_wp2
 go_ret
 exact ⟨by first | rfl | (simp [errW_none, errW_some] <;> rfl) | (simp only [← hji2]; first | rfl | (simp [errW_none, errW_some] <;> rfl)) | (simp [*, errW_none, errW_some] <;> rfl), HBz⟩
def tickingref01_Valid.j0 : Nat → Bool → Int → Int → Int → Int → Option (Bool)
 | 0, _, _, _, _, _ => none
 | k + 1, x40, x355000, x355001, x355002, x355003 => if x40 = true then (some false) else ((tickingref01_absolute.f x355000).bind fun t355 => ((tickingref01_absolute.f x355001).bind fun t356 => ((tickingref01_gcd.f k t355 t356).bind fun t357 => ((tickingref01_gcd.f k t357 x355002).bind fun t358 => (some (t358 == 1))))))
def tickingref01_Valid.f (k : Nat) (a0_0 : Int) (a0_1 : Int) (a0_2 : Int) (a0_3 : Int) : Option (Bool) := if a0_2 < 1 then (tickingref01_Valid.j0 k true a0_0 a0_1 a0_2 a0_3) else (if a0_2 > 1048576 then (tickingref01_Valid.j0 k true a0_0 a0_1 a0_2 a0_3) else (if a0_0 < (-536870912) then (tickingref01_Valid.j0 k true a0_0 a0_1 a0_2 a0_3) else (if a0_0 > 536870912 then (tickingref01_Valid.j0 k true a0_0 a0_1 a0_2 a0_3) else (if a0_1 < (-536870912) then (tickingref01_Valid.j0 k true a0_0 a0_1 a0_2 a0_3) else (if a0_1 > 536870912 then (tickingref01_Valid.j0 k true a0_0 a0_1 a0_2 a0_3) else (if a0_3 < 0 then (tickingref01_Valid.j0 k true a0_0 a0_1 a0_2 a0_3) else (tickingref01_Valid.j0 k (decide (a0_3 > 1152921504606846976)) a0_0 a0_1 a0_2 a0_3)))))))
theorem tickingref01_Valid.mono_l : ∀ k, (∀ y0 y1 y2 y3 y4, LeO (tickingref01_Valid.j0 k y0 y1 y2 y3 y4) (tickingref01_Valid.j0 (k + 1) y0 y1 y2 y3 y4))
 | 0 => fun _ _ _ _ _ r h => by simp [tickingref01_Valid.j0] at h
 | k + 1 => by
  have ih0 := tickingref01_Valid.mono_l k
  ·intro y0 y1 y2 y3 y4
   unfold tickingref01_Valid.j0
   repeat' first
   | (with_reducible exact ih0 _ _ _ _ _)
   | (with_reducible exact tickingref01_gcd.mono _ _ _)
   | (with_reducible exact LeO.refl _)
   | (with_reducible exact LeO.none _)
   | (with_reducible refine LeO.ite ?_ ?_)
   | (with_reducible refine LeO.bind ?_ (fun _ => ?_))
   | exact ih0 _ _ _ _ _
   | exact tickingref01_gcd.mono _ _ _
   | exact LeO.none _
   | refine LeO.ite ?_ ?_
   | refine LeO.bind ?_ (fun _ => ?_)
theorem tickingref01_Valid.mono : ∀ a0 a1 a2 a3 k, LeO (tickingref01_Valid.f k a0 a1 a2 a3) (tickingref01_Valid.f (k + 1) a0 a1 a2 a3) := by
 intro a0 a1 a2 a3 k
 have ih0 := tickingref01_Valid.mono_l k
 unfold tickingref01_Valid.f
 repeat' first
   | (with_reducible exact ih0 _ _ _ _ _)
   | (with_reducible exact tickingref01_gcd.mono _ _ _)
   | (with_reducible exact LeO.refl _)
   | (with_reducible exact LeO.none _)
   | (with_reducible refine LeO.ite ?_ ?_)
   | (with_reducible refine LeO.bind ?_ (fun _ => ?_))
   | exact ih0 _ _ _ _ _
   | exact tickingref01_gcd.mono _ _ _
   | exact LeO.none _
   | refine LeO.ite ?_ ?_
   | refine LeO.bind ?_ (fun _ => ?_)
def tickingref01_Valid.T3 : Bool × List (List Nat × List Nat) := (true, [([], []), ([0], [0]), ([1], [1]), ([], []), ([3], [3]), ([4, 2], [4]), ([2, 5, 5], [2, 5]), ([], []), ([7], [7]), ([6, 8, 6], [6, 8]), ([9], [9]), ([10, 9, 0, 1, 2, 3, 4, 5, 6, 7, 8, 9, 10], [10])])
def tickingref01_Valid.B3 : List Nat := [0, 1, 3, 0, 8, 31, 63, 0, 128, 511, 1023, 2047]
theorem tickingref01_Valid.tab3 : rtab .any (opsOf Try.f27 3) = tickingref01_Valid.T3 := by kernel_rfl
theorem tickingref01_Valid.bits3 : waitsOk tickingref01_Valid.T3.2 tickingref01_Valid.B3 = true := by kernel_rfl
set_option maxHeartbeats 8000000 in
set_option maxRecDepth 100000 in
theorem tickingref01_Valid.calls (k : Nat) (a0_0 : Int) (a0_1 : Int) (a0_2 : Int) (a0_3 : Int) (r : Bool) (w : World) (h : tickingref01_Valid.f k a0_0 a0_1 a0_2 a0_3 = some r) :
  Calls Try.prog 27 #[.agg #[.int .i64 a0_0, .int .i64 a0_1, .int .i64 a0_2, .int .i64 a0_3]] w fun e w' => e = .returned (.bool r) ∧ Below w.heap.size w w' := by
 have hu40 := Try.underlying40
 have HB := Aside0.mk (Below.refl w.heap.size w)
 have H : (if a0_2 < 1 then (tickingref01_Valid.j0 k true a0_0 a0_1 a0_2 a0_3) else (if a0_2 > 1048576 then (tickingref01_Valid.j0 k true a0_0 a0_1 a0_2 a0_3) else (if a0_0 < (-536870912) then (tickingref01_Valid.j0 k true a0_0 a0_1 a0_2 a0_3) else (if a0_0 > 536870912 then (tickingref01_Valid.j0 k true a0_0 a0_1 a0_2 a0_3) else (if a0_1 < (-536870912) then (tickingref01_Valid.j0 k true a0_0 a0_1 a0_2 a0_3) else (if a0_1 > 536870912 then (tickingref01_Valid.j0 k true a0_0 a0_1 a0_2 a0_3) else (if a0_3 < 0 then (tickingref01_Valid.j0 k true a0_0 a0_1 a0_2 a0_3) else (tickingref01_Valid.j0 k (decide (a0_3 > 1152921504606846976)) a0_0 a0_1 a0_2 a0_3)))))))) = some r := h
 clear h
 have HC2 := Aside0.mk H
 clear H
 go_enter Try.func27, Try.ntmps27
 go_upto_region 1 with (first | ((with_reducible refine gate_dst (N := 1) rfl ?_); refine bxE 1 #[.int .i64 a0_0, .int .i64 a0_1, .int .i64 a0_2, .int .i64 a0_3] 40 ?_; intro gb354 hg w3 hbox hb; have n0_ := Aside0.mk (below_step HBz hb); have n1_ := Aside0.mk (hbox); have n2_ := Aside0.mk ((by rw [hg]; exact (below_size HBz) : w.heap.size ≤ gb354)); have n3_ := Aside0.mk ((by rw [hg]; exact (below_size HBz) : w.heap.size ≤ gb354)); clear HB; have HB := n0_; have BK354 := n1_; have GW354 := n2_; have GE354 := n3_; clear n0_ n1_ n2_ n3_; clear hb hbox hg))
 (try simp only [Act.put, List.setIfInBounds_toArray, List.set_cons_zero, List.set_cons_succ])
 go_cut [40] (fun v40 wc => ∃ (kq : Nat) (x40_1 : Bool), v40 = .bool x40_1 ∧ Aside0 (tickingref01_Valid.j0 kq x40_1 a0_0 a0_1 a0_2 a0_3 = some r) ∧ Aside0 (kq ≤ k) ∧ Aside0 (wc.heap[gb354]? = some (.cells #[.int .i64 a0_0, .int .i64 a0_1, .int .i64 a0_2, .int .i64 a0_3] 40 (0, 0))) ∧ Aside0 (Below w.heap.size w wc))
 case first =>
  have H := HC2.out
  clear HC2
  by_cases c4 : a0_2 < 1
  ·rw [if_pos c4] at H
   have c4b0 : decide (a0_2 < 1) = true := decide_eq_true c4
   clear c4
   (first | rw [c4b0] | (simp only [i64_w, i32_w]; rw [c4b0]) | skip)
   have H' := Aside0.mk H
   clear H
   have hcz5_0 : w3.cell? ⟨gb354, 0, none⟩ = some (.int .i64 a0_0) := (blk_cell BK354.out 0).trans rfl
   have hcz5_1 : w3.cell? ⟨gb354, 1, none⟩ = some (.int .i64 a0_1) := (blk_cell BK354.out 1).trans rfl
   have hcz5_2 : w3.cell? ⟨gb354, 2, none⟩ = some (.int .i64 a0_2) := (blk_cell BK354.out 2).trans rfl
   have hcz5_3 : w3.cell? ⟨gb354, 3, none⟩ = some (.int .i64 a0_3) := (blk_cell BK354.out 3).trans rfl
   have hfz5_0 := blk_frozen BK354.out 0
   have hfz5_1 := blk_frozen BK354.out 1
   have hfz5_2 := blk_frozen BK354.out 2
   have hfz5_3 := blk_frozen BK354.out 3
   go_wp2
   go_meet
   case rel => exact ⟨_, (true), (by first | rfl | (simp; done) | (simp [*]; done)), H', ⟨by first | omega | exact Nat.le_refl _⟩, ⟨by (with_reducible repeat (first | refine blk_drewN ?_ _ | refine blk_drew ?_ | refine blk_alloc ?_ _)); exact BK354.out⟩, ⟨HBz⟩⟩
  ·rw [if_neg c4] at H
   have c4b0 : decide (a0_2 < 1) = false := decide_eq_false c4
   clear c4
   (first | rw [c4b0] | (simp only [i64_w, i32_w]; rw [c4b0]) | skip)
   by_cases c6 : a0_2 > 1048576
   ·rw [if_pos c6] at H
    have c6b0 : decide (1048576 < a0_2) = true := decide_eq_true c6
    clear c6
    have H' := Aside0.mk H
    clear H
    have hcz7_0 : w3.cell? ⟨gb354, 0, none⟩ = some (.int .i64 a0_0) := (blk_cell BK354.out 0).trans rfl
    have hcz7_1 : w3.cell? ⟨gb354, 1, none⟩ = some (.int .i64 a0_1) := (blk_cell BK354.out 1).trans rfl
    have hcz7_2 : w3.cell? ⟨gb354, 2, none⟩ = some (.int .i64 a0_2) := (blk_cell BK354.out 2).trans rfl
    have hcz7_3 : w3.cell? ⟨gb354, 3, none⟩ = some (.int .i64 a0_3) := (blk_cell BK354.out 3).trans rfl
    have hfz7_0 := blk_frozen BK354.out 0
    have hfz7_1 := blk_frozen BK354.out 1
    have hfz7_2 := blk_frozen BK354.out 2
    have hfz7_3 := blk_frozen BK354.out 3
    go_wp2
    go_meet
    case rel => exact ⟨_, (true), (by first | rfl | (simp; done) | (simp [*]; done)), H', ⟨by first | omega | exact Nat.le_refl _⟩, ⟨by (with_reducible repeat (first | refine blk_drewN ?_ _ | refine blk_drew ?_ | refine blk_alloc ?_ _)); exact BK354.out⟩, ⟨HBz⟩⟩
   ·rw [if_neg c6] at H
    have c6b0 : decide (1048576 < a0_2) = false := decide_eq_false c6
    clear c6
    by_cases c8 : a0_0 < (-536870912)
    ·rw [if_pos c8] at H
     have c8b0 : decide (a0_0 < (-536870912)) = true := decide_eq_true c8
     clear c8
     have H' := Aside0.mk H
     clear H
     have hcz9_0 : w3.cell? ⟨gb354, 0, none⟩ = some (.int .i64 a0_0) := (blk_cell BK354.out 0).trans rfl
     have hcz9_1 : w3.cell? ⟨gb354, 1, none⟩ = some (.int .i64 a0_1) := (blk_cell BK354.out 1).trans rfl
     have hcz9_2 : w3.cell? ⟨gb354, 2, none⟩ = some (.int .i64 a0_2) := (blk_cell BK354.out 2).trans rfl
     have hcz9_3 : w3.cell? ⟨gb354, 3, none⟩ = some (.int .i64 a0_3) := (blk_cell BK354.out 3).trans rfl
     have hfz9_0 := blk_frozen BK354.out 0
     have hfz9_1 := blk_frozen BK354.out 1
     have hfz9_2 := blk_frozen BK354.out 2
     have hfz9_3 := blk_frozen BK354.out 3
     go_wp2
     go_meet
     case rel => exact ⟨_, (true), (by first | rfl | (simp; done) | (simp [*]; done)), H', ⟨by first | omega | exact Nat.le_refl _⟩, ⟨by (with_reducible repeat (first | refine blk_drewN ?_ _ | refine blk_drew ?_ | refine blk_alloc ?_ _)); exact BK354.out⟩, ⟨HBz⟩⟩
    ·rw [if_neg c8] at H
     have c8b0 : decide (a0_0 < (-536870912)) = false := decide_eq_false c8
     clear c8
     by_cases c10 : a0_0 > 536870912
     ·rw [if_pos c10] at H
      have c10b0 : decide (536870912 < a0_0) = true := decide_eq_true c10
      clear c10
      have H' := Aside0.mk H
      clear H
      have hcz11_0 : w3.cell? ⟨gb354, 0, none⟩ = some (.int .i64 a0_0) := (blk_cell BK354.out 0).trans rfl
      have hcz11_1 : w3.cell? ⟨gb354, 1, none⟩ = some (.int .i64 a0_1) := (blk_cell BK354.out 1).trans rfl
      have hcz11_2 : w3.cell? ⟨gb354, 2, none⟩ = some (.int .i64 a0_2) := (blk_cell BK354.out 2).trans rfl
      have hcz11_3 : w3.cell? ⟨gb354, 3, none⟩ = some (.int .i64 a0_3) := (blk_cell BK354.out 3).trans rfl
      have hfz11_0 := blk_frozen BK354.out 0
      have hfz11_1 := blk_frozen BK354.out 1
      have hfz11_2 := blk_frozen BK354.out 2
      have hfz11_3 := blk_frozen BK354.out 3
      go_wp2
      go_meet
      case rel => exact ⟨_, (true), (by first | rfl | (simp; done) | (simp [*]; done)), H', ⟨by first | omega | exact Nat.le_refl _⟩, ⟨by (with_reducible repeat (first | refine blk_drewN ?_ _ | refine blk_drew ?_ | refine blk_alloc ?_ _)); exact BK354.out⟩, ⟨HBz⟩⟩
     ·rw [if_neg c10] at H
      have c10b0 : decide (536870912 < a0_0) = false := decide_eq_false c10
      clear c10
      by_cases c12 : a0_1 < (-536870912)
      ·rw [if_pos c12] at H
       have c12b0 : decide (a0_1 < (-536870912)) = true := decide_eq_true c12
       clear c12
       have H' := Aside0.mk H
       clear H
       have hcz13_0 : w3.cell? ⟨gb354, 0, none⟩ = some (.int .i64 a0_0) := (blk_cell BK354.out 0).trans rfl
       have hcz13_1 : w3.cell? ⟨gb354, 1, none⟩ = some (.int .i64 a0_1) := (blk_cell BK354.out 1).trans rfl
       have hcz13_2 : w3.cell? ⟨gb354, 2, none⟩ = some (.int .i64 a0_2) := (blk_cell BK354.out 2).trans rfl
       have hcz13_3 : w3.cell? ⟨gb354, 3, none⟩ = some (.int .i64 a0_3) := (blk_cell BK354.out 3).trans rfl
       have hfz13_0 := blk_frozen BK354.out 0
       have hfz13_1 := blk_frozen BK354.out 1
       have hfz13_2 := blk_frozen BK354.out 2
       have hfz13_3 := blk_frozen BK354.out 3
       go_wp2
       go_meet
       case rel => exact ⟨_, (true), (by first | rfl | (simp; done) | (simp [*]; done)), H', ⟨by first | omega | exact Nat.le_refl _⟩, ⟨by (with_reducible repeat (first | refine blk_drewN ?_ _ | refine blk_drew ?_ | refine blk_alloc ?_ _)); exact BK354.out⟩, ⟨HBz⟩⟩
      ·rw [if_neg c12] at H
       have c12b0 : decide (a0_1 < (-536870912)) = false := decide_eq_false c12
       clear c12
       by_cases c14 : a0_1 > 536870912
       ·rw [if_pos c14] at H
        have c14b0 : decide (536870912 < a0_1) = true := decide_eq_true c14
        clear c14
        have H' := Aside0.mk H
        clear H
        have hcz15_0 : w3.cell? ⟨gb354, 0, none⟩ = some (.int .i64 a0_0) := (blk_cell BK354.out 0).trans rfl
        have hcz15_1 : w3.cell? ⟨gb354, 1, none⟩ = some (.int .i64 a0_1) := (blk_cell BK354.out 1).trans rfl
        have hcz15_2 : w3.cell? ⟨gb354, 2, none⟩ = some (.int .i64 a0_2) := (blk_cell BK354.out 2).trans rfl
        have hcz15_3 : w3.cell? ⟨gb354, 3, none⟩ = some (.int .i64 a0_3) := (blk_cell BK354.out 3).trans rfl
        have hfz15_0 := blk_frozen BK354.out 0
        have hfz15_1 := blk_frozen BK354.out 1
        have hfz15_2 := blk_frozen BK354.out 2
        have hfz15_3 := blk_frozen BK354.out 3
        go_wp2
        go_meet
        case rel => exact ⟨_, (true), (by first | rfl | (simp; done) | (simp [*]; done)), H', ⟨by first | omega | exact Nat.le_refl _⟩, ⟨by (with_reducible repeat (first | refine blk_drewN ?_ _ | refine blk_drew ?_ | refine blk_alloc ?_ _)); exact BK354.out⟩, ⟨HBz⟩⟩
       ·rw [if_neg c14] at H
        have c14b0 : decide (536870912 < a0_1) = false := decide_eq_false c14
        clear c14
        by_cases c16 : a0_3 < 0
        ·rw [if_pos c16] at H
         have c16b0 : decide (a0_3 < 0) = true := decide_eq_true c16
         clear c16
         have H' := Aside0.mk H
         clear H
         have hcz17_0 : w3.cell? ⟨gb354, 0, none⟩ = some (.int .i64 a0_0) := (blk_cell BK354.out 0).trans rfl
         have hcz17_1 : w3.cell? ⟨gb354, 1, none⟩ = some (.int .i64 a0_1) := (blk_cell BK354.out 1).trans rfl
         have hcz17_2 : w3.cell? ⟨gb354, 2, none⟩ = some (.int .i64 a0_2) := (blk_cell BK354.out 2).trans rfl
         have hcz17_3 : w3.cell? ⟨gb354, 3, none⟩ = some (.int .i64 a0_3) := (blk_cell BK354.out 3).trans rfl
         have hfz17_0 := blk_frozen BK354.out 0
         have hfz17_1 := blk_frozen BK354.out 1
         have hfz17_2 := blk_frozen BK354.out 2
         have hfz17_3 := blk_frozen BK354.out 3
         go_wp2
         go_meet
         case rel => exact ⟨_, (true), (by first | rfl | (simp; done) | (simp [*]; done)), H', ⟨by first | omega | exact Nat.le_refl _⟩, ⟨by (with_reducible repeat (first | refine blk_drewN ?_ _ | refine blk_drew ?_ | refine blk_alloc ?_ _)); exact BK354.out⟩, ⟨HBz⟩⟩
        ·rw [if_neg c16] at H
         have c16b0 : decide (a0_3 < 0) = false := decide_eq_false c16
         clear c16
         have H' := Aside0.mk H
         clear H
         have hcz18_0 : w3.cell? ⟨gb354, 0, none⟩ = some (.int .i64 a0_0) := (blk_cell BK354.out 0).trans rfl
         have hcz18_1 : w3.cell? ⟨gb354, 1, none⟩ = some (.int .i64 a0_1) := (blk_cell BK354.out 1).trans rfl
         have hcz18_2 : w3.cell? ⟨gb354, 2, none⟩ = some (.int .i64 a0_2) := (blk_cell BK354.out 2).trans rfl
         have hcz18_3 : w3.cell? ⟨gb354, 3, none⟩ = some (.int .i64 a0_3) := (blk_cell BK354.out 3).trans rfl
         have hfz18_0 := blk_frozen BK354.out 0
         have hfz18_1 := blk_frozen BK354.out 1
         have hfz18_2 := blk_frozen BK354.out 2
         have hfz18_3 := blk_frozen BK354.out 3
         go_wp2
         go_meet
         case rel => exact ⟨_, (decide (a0_3 > 1152921504606846976)), (by first | rfl | (simp; done) | (simp [*]; done)), H', ⟨by first | omega | exact Nat.le_refl _⟩, ⟨by (with_reducible repeat (first | refine blk_drewN ?_ _ | refine blk_drew ?_ | refine blk_alloc ?_ _)); exact BK354.out⟩, ⟨HBz⟩⟩
 case rest =>
  clear HC2
  try clear c1
  try clear c2
  try clear p2
  try clear c4
  try clear c4b0
  try clear c6
  try clear c6b0
  try clear c8
  try clear c8b0
  try clear c10
  try clear c10b0
  try clear c12
  try clear c12b0
  try clear c14
  try clear c14b0
  try clear c16
  try clear c16b0
  try clear hcz11_0
  try clear hcz11_1
  try clear hcz11_2
  try clear hcz11_3
  try clear hcz13_0
  try clear hcz13_1
  try clear hcz13_2
  try clear hcz13_3
  try clear hcz15_0
  try clear hcz15_1
  try clear hcz15_2
  try clear hcz15_3
  try clear hcz17_0
  try clear hcz17_1
  try clear hcz17_2
  try clear hcz17_3
  try clear hcz18_0
  try clear hcz18_1
  try clear hcz18_2
  try clear hcz18_3
  try clear hcz5_0
  try clear hcz5_1
  try clear hcz5_2
  try clear hcz5_3
  try clear hcz7_0
  try clear hcz7_1
  try clear hcz7_2
  try clear hcz7_3
  try clear hcz9_0
  try clear hcz9_1
  try clear hcz9_2
  try clear hcz9_3
  try clear hfz11_0
  try clear hfz11_1
  try clear hfz11_2
  try clear hfz11_3
  try clear hfz13_0
  try clear hfz13_1
  try clear hfz13_2
  try clear hfz13_3
  try clear hfz15_0
  try clear hfz15_1
  try clear hfz15_2
  try clear hfz15_3
  try clear hfz17_0
  try clear hfz17_1
  try clear hfz17_2
  try clear hfz17_3
  try clear hfz18_0
  try clear hfz18_1
  try clear hfz18_2
  try clear hfz18_3
  try clear hfz5_0
  try clear hfz5_1
  try clear hfz5_2
  try clear hfz5_3
  try clear hfz7_0
  try clear hfz7_1
  try clear hfz7_2
  try clear hfz7_3
  try clear hfz9_0
  try clear hfz9_1
  try clear hfz9_2
  try clear hfz9_3
  obtain ⟨kq, x40_1, rfl, HA, HJ1, BK354, HB⟩ := hcut
  cases kq with
  | zero => exact absurd HA.out (by simp [tickingref01_Valid.j0])
  | succ kj1 =>
   have H := HA.out
   clear HA
   simp only [tickingref01_Valid.j0] at H
   by_cases c19 : x40_1 = true
   ·subst c19
    have H1 : (some false) = some r := by rw [if_pos rfl] at H; exact H
    clear H
    have H := H1
    clear H1
    obtain rfl := Option.some.inj H
    go_wp2
    go_ret
    exact ⟨by first | rfl | (simp [errW_none, errW_some] <;> rfl) | (simp [*, errW_none, errW_some] <;> rfl), HBz⟩
   ·replace c19 := Bool.eq_false_iff.mpr c19
    subst c19
    have H1 : ((tickingref01_absolute.f a0_0).bind fun t355 => ((tickingref01_absolute.f a0_1).bind fun t356 => ((tickingref01_gcd.f kj1 t355 t356).bind fun t357 => ((tickingref01_gcd.f kj1 t357 a0_2).bind fun t358 => (some (t358 == 1)))))) = some r := by rw [if_neg (show ¬ (false = true) by decide)] at H; exact H
    clear H
    have H := H1
    clear H1
    replace H := Option.bind_eq_some_iff.mp H
    obtain ⟨t355, A200, H⟩ := H
    replace H : ((tickingref01_absolute.f a0_1).bind fun t356 => ((tickingref01_gcd.f kj1 t355 t356).bind fun t357 => ((tickingref01_gcd.f kj1 t357 a0_2).bind fun t358 => (some (t358 == 1))))) = some r := H
    have A20 := Aside0.mk A200
    clear A200
    replace H := Option.bind_eq_some_iff.mp H
    obtain ⟨t356, A210, H⟩ := H
    replace H : ((tickingref01_gcd.f kj1 t355 t356).bind fun t357 => ((tickingref01_gcd.f kj1 t357 a0_2).bind fun t358 => (some (t358 == 1)))) = some r := H
    have A21 := Aside0.mk A210
    clear A210
    replace H := Option.bind_eq_some_iff.mp H
    obtain ⟨t357, A220, H⟩ := H
    replace H : ((tickingref01_gcd.f kj1 t357 a0_2).bind fun t358 => (some (t358 == 1))) = some r := H
    have A22 := Aside0.mk A220
    clear A220
    replace H := Option.bind_eq_some_iff.mp H
    obtain ⟨t358, A230, H⟩ := H
    replace H : (some (t358 == 1)) = some r := H
    have A23 := Aside0.mk A230
    clear A230
    obtain rfl := Option.some.inj H
    try go_wp2
    have n0_ := Aside0.mk (blk_drew BK354.out)
    have n1_ := Aside0.mk (below_drew1 HB.out)
    clear BK354
    clear HB
    have BK354 := n0_
    have HB := n1_
    clear n0_ n1_
    refine stz (fun w' => w'.cell? ⟨gb354, 0, none⟩ = some (.int .i64 a0_0) ∧ w'.cell? ⟨gb354, 1, none⟩ = some (.int .i64 a0_1) ∧ w'.cell? ⟨gb354, 2, none⟩ = some (.int .i64 a0_2) ∧ w'.cell? ⟨gb354, 3, none⟩ = some (.int .i64 a0_3)) [] (bn 12 0) ⟨(blk_cell BK354.out 0).trans rfl, (blk_cell BK354.out 1).trans rfl, (blk_cell BK354.out 2).trans rfl, (blk_cell BK354.out 3).trans rfl⟩ (fun hHeld => ?_); refine with_tabW tickingref01_Valid.tab3 tickingref01_Valid.bits3 (fun HT_ HW_ => ?_)
    generalize wc.drew = w24 at BK354 HB hHeld ⊢
    refine pT HT_.out 0 (some 41) (bn 12 1) ?_
    refine pT HT_.out 3 (some 44) (bn 12 9) ?_
    refine pT HT_.out 7 (some 48) (bn 12 137) ?_
    refine tT HT_.out HW_.out 1 (some 42) (bn 12 139) hHeld ?_
    refine tT HT_.out HW_.out 4 (some 45) (bn 12 155) hHeld ?_
    refine tT HT_.out HW_.out 8 (some 49) (bn 12 411) hHeld ?_
    refine oT HT_.out 2 (some 43) (bn 12 415) (fun K hK => ?_)
    refine gz Try.func56 #[.int .i64 a0_0] ?_
    with_reducible refine (tickingref01_absolute.calls a0_0 t355 _ A20.out).mono ?_
    rintro e w25 ⟨rfl, hb⟩
    refine ⟨_, rfl, ?_⟩
    have n0_ := Aside0.mk (blk_below (g := gb354) BKz hb)
    have n1_ := Aside0.mk (below_step HBz hb)
    clear BK354
    clear HB
    have BK354 := n0_
    have HB := n1_
    clear n0_ n1_
    (try clear hb)
    (try clear hb2)
    (try clear hk)
    (try clear hi)
    refine hK.out _ _ ⟨(blk_cell BK354.out 0).trans rfl, (blk_cell BK354.out 1).trans rfl, (blk_cell BK354.out 2).trans rfl, (blk_cell BK354.out 3).trans rfl⟩ (fun hHeld => ?_)
    clear hK K
    refine nz (some 43) ?_
    refine oT HT_.out 5 (some 46) (bn 12 447) (fun K hK => ?_)
    refine gz Try.func56 #[.int .i64 a0_1] ?_
    with_reducible refine (tickingref01_absolute.calls a0_1 t356 _ A21.out).mono ?_
    rintro e w26 ⟨rfl, hb⟩
    refine ⟨_, rfl, ?_⟩
    have n0_ := Aside0.mk (blk_below (g := gb354) BKz hb)
    have n1_ := Aside0.mk (below_step HBz hb)
    clear BK354
    clear HB
    have BK354 := n0_
    have HB := n1_
    clear n0_ n1_
    (try clear hb)
    (try clear hb2)
    (try clear hk)
    (try clear hi)
    refine hK.out _ _ ⟨(blk_cell BK354.out 0).trans rfl, (blk_cell BK354.out 1).trans rfl, (blk_cell BK354.out 2).trans rfl, (blk_cell BK354.out 3).trans rfl⟩ (fun hHeld => ?_)
    clear hK K
    refine nz (some 46) ?_
    refine oT HT_.out 6 (some 47) (bn 12 511) (fun K hK => ?_)
    refine gz Try.func55 #[.int .i64 t355, .int .i64 t356] ?_
    with_reducible refine (tickingref01_gcd.calls kj1 t355 t356 t357 _ A22.out).mono ?_
    rintro e w' ⟨rfl, ⟨nd, rfl⟩⟩
    refine ⟨_, rfl, ?_⟩
    refine hK.out _ _ ⟨(blk_cell BK354.out 0).trans rfl, (blk_cell BK354.out 1).trans rfl, (blk_cell BK354.out 2).trans rfl, (blk_cell BK354.out 3).trans rfl⟩ (fun hHeld => ?_)
    clear hK K
    refine nz (some 47) ?_
    refine oT HT_.out 9 (some 50) (bn 12 1023) (fun K hK => ?_)
    refine gz Try.func55 #[.int .i64 t357, .int .i64 a0_2] ?_
    with_reducible refine (tickingref01_gcd.calls kj1 t357 a0_2 t358 _ A23.out).mono ?_
    rintro e w' ⟨rfl, ⟨nd, rfl⟩⟩
    refine ⟨_, rfl, ?_⟩
    refine hK.out _ _ ⟨(blk_cell BK354.out 0).trans rfl, (blk_cell BK354.out 1).trans rfl, (blk_cell BK354.out 2).trans rfl, (blk_cell BK354.out 3).trans rfl⟩ (fun hHeld => ?_)
    clear hK K
    refine nz (some 50) ?_
    refine pT HT_.out 10 (some 51) (bn 12 2047) ?_
    refine pT HT_.out 11 (some 2) (bn 12 4095) ?_
    refine done_ (done_of HT_.out (by kernel_rfl)) ?_
    try go_wp2
    go_ret
    exact ⟨by first | rfl | (simp [errW_none, errW_some] <;> rfl) | (simp [*, errW_none, errW_some] <;> rfl), HBz⟩
end Go.Proofs.Ytplhfbkejngioaa.X
namespace Go.Proofs.Ytplhfbkejngioaa.X
open Go.RowKit Go.Proofs.YtplhfbkejngioaaW.PrintWords Go.Proofs.YtplhfbkejngioaaW.PrintLast Go.Proofs.Ytplhfbkejngioaa.S
attribute [local go_sem] max2_int min2_int max_two min_two
set_option linter.unusedVariables false
set_option linter.unusedSimpArgs false
def cover_isCircle.f (k : Nat) (a0_0 : Int) (a0_1 : Int) (a0_2 : Int) (a0_3 : Int) : Option (Bool) := (cover_within.f a0_2 1 1048576).bind fun t468 => (if t468 = true then ((cover_within.f a0_0 (-536870912) 536870912).bind fun t469 => (if t469 = true then ((cover_within.f a0_1 (-536870912) 536870912).bind fun t470 => (if t470 = true then ((cover_within.f a0_3 0 1152921504606846976).bind fun t471 => (if t471 = true then ((cover_gcd.f k a0_0 a0_1).bind fun t472 => ((cover_gcd.f k t472 a0_2).bind fun t473 => (some (t473 == 1)))) else (some false))) else (some false))) else (some false))) else (some false))
theorem cover_isCircle.mono : ∀ a0 a1 a2 a3 k, LeO (cover_isCircle.f k a0 a1 a2 a3) (cover_isCircle.f (k + 1) a0 a1 a2 a3) := by
 intro a0 a1 a2 a3 k
 unfold cover_isCircle.f
 repeat' first
   | (with_reducible exact cover_gcd.mono _ _ _)
   | (with_reducible exact LeO.refl _)
   | (with_reducible exact LeO.none _)
   | (with_reducible refine LeO.ite ?_ ?_)
   | (with_reducible refine LeO.bind ?_ (fun _ => ?_))
   | exact cover_gcd.mono _ _ _
   | exact LeO.none _
   | refine LeO.ite ?_ ?_
   | refine LeO.bind ?_ (fun _ => ?_)
def cover_isCircle.T1 : Bool × List (List Nat × List Nat) := (true, [([], []), ([0], [0]), ([1], [1]), ([2, 2], [2]), ([3], [3]), ([4, 3], [3, 4]), ([5, 3, 3], [3, 5]), ([3, 6], [3, 6]), ([7, 6], [7]), ([8], [8]), ([9, 8], [8, 9]), ([10, 8, 8], [8, 10]), ([8, 11], [8, 11]), ([12, 11], [12]), ([13], [13]), ([14, 13], [13, 14]), ([15, 13, 13], [13, 15]), ([13, 16], [13, 16]), ([17, 16], [17]), ([18], [18]), ([19, 18], [18, 19]), ([18], [18]), ([21, 18], [18, 21]), ([20, 22, 18, 18], [18, 20, 22]), ([18], [18]), ([24, 18], [18, 24]), ([23, 25, 23, 18], [18, 23, 25]), ([26, 18], [18, 26]), ([18, 27], [18, 27]), ([28, 26, 0, 1, 2, 3, 4, 5, 6, 7, 8, 9, 10, 11, 12, 13, 14, 15, 16, 17, 18, 19, 20, 21, 22, 23, 24, 25, 26, 27, 28], [28])])
def cover_isCircle.B1 : List Nat := [0, 1, 3, 7, 15, 31, 63, 127, 255, 511, 1023, 2047, 4095, 8191, 16383, 32767, 65535, 131071, 262143, 524287, 1048575, 524287, 2621439, 8388607, 524287, 17301503, 67108863, 134217727, 268435455, 536870911]
theorem cover_isCircle.tab1 : rtab .any (opsOf Try.f57 1) = cover_isCircle.T1 := by kernel_rfl
theorem cover_isCircle.bits1 : waitsOk cover_isCircle.T1.2 cover_isCircle.B1 = true := by kernel_rfl
set_option maxHeartbeats 8000000 in
set_option maxRecDepth 100000 in
theorem cover_isCircle.calls (k : Nat) (a0_0 : Int) (a0_1 : Int) (a0_2 : Int) (a0_3 : Int) (r : Bool) (w : World) (h : cover_isCircle.f k a0_0 a0_1 a0_2 a0_3 = some r) :
  Calls Try.prog 57 #[.agg #[.int .i64 a0_0, .int .i64 a0_1, .int .i64 a0_2, .int .i64 a0_3]] w fun e w' => e = .returned (.bool r) ∧ Below w.heap.size w w' := by
 have hu40 := Try.underlying40
 have HB := Aside0.mk (Below.refl w.heap.size w)
 have H : ((cover_within.f a0_2 1 1048576).bind fun t468 => (if t468 = true then ((cover_within.f a0_0 (-536870912) 536870912).bind fun t469 => (if t469 = true then ((cover_within.f a0_1 (-536870912) 536870912).bind fun t470 => (if t470 = true then ((cover_within.f a0_3 0 1152921504606846976).bind fun t471 => (if t471 = true then ((cover_gcd.f k a0_0 a0_1).bind fun t472 => ((cover_gcd.f k t472 a0_2).bind fun t473 => (some (t473 == 1)))) else (some false))) else (some false))) else (some false))) else (some false))) = some r := h
 clear h
 replace H := Option.bind_eq_some_iff.mp H
 obtain ⟨t468, A20, H⟩ := H
 replace H : (if t468 = true then ((cover_within.f a0_0 (-536870912) 536870912).bind fun t469 => (if t469 = true then ((cover_within.f a0_1 (-536870912) 536870912).bind fun t470 => (if t470 = true then ((cover_within.f a0_3 0 1152921504606846976).bind fun t471 => (if t471 = true then ((cover_gcd.f k a0_0 a0_1).bind fun t472 => ((cover_gcd.f k t472 a0_2).bind fun t473 => (some (t473 == 1)))) else (some false))) else (some false))) else (some false))) else (some false)) = some r := H
 have A2 := Aside0.mk A20
 clear A20
 by_cases c3 : t468 = true
 ·subst c3
  have H1 : ((cover_within.f a0_0 (-536870912) 536870912).bind fun t469 => (if t469 = true then ((cover_within.f a0_1 (-536870912) 536870912).bind fun t470 => (if t470 = true then ((cover_within.f a0_3 0 1152921504606846976).bind fun t471 => (if t471 = true then ((cover_gcd.f k a0_0 a0_1).bind fun t472 => ((cover_gcd.f k t472 a0_2).bind fun t473 => (some (t473 == 1)))) else (some false))) else (some false))) else (some false))) = some r := by rw [if_pos rfl] at H; exact H
  clear H
  have H := H1
  clear H1
  replace H := Option.bind_eq_some_iff.mp H
  obtain ⟨t469, A40, H⟩ := H
  replace H : (if t469 = true then ((cover_within.f a0_1 (-536870912) 536870912).bind fun t470 => (if t470 = true then ((cover_within.f a0_3 0 1152921504606846976).bind fun t471 => (if t471 = true then ((cover_gcd.f k a0_0 a0_1).bind fun t472 => ((cover_gcd.f k t472 a0_2).bind fun t473 => (some (t473 == 1)))) else (some false))) else (some false))) else (some false)) = some r := H
  have A4 := Aside0.mk A40
  clear A40
  by_cases c5 : t469 = true
  ·subst c5
   have H1 : ((cover_within.f a0_1 (-536870912) 536870912).bind fun t470 => (if t470 = true then ((cover_within.f a0_3 0 1152921504606846976).bind fun t471 => (if t471 = true then ((cover_gcd.f k a0_0 a0_1).bind fun t472 => ((cover_gcd.f k t472 a0_2).bind fun t473 => (some (t473 == 1)))) else (some false))) else (some false))) = some r := by rw [if_pos rfl] at H; exact H
   clear H
   have H := H1
   clear H1
   replace H := Option.bind_eq_some_iff.mp H
   obtain ⟨t470, A60, H⟩ := H
   replace H : (if t470 = true then ((cover_within.f a0_3 0 1152921504606846976).bind fun t471 => (if t471 = true then ((cover_gcd.f k a0_0 a0_1).bind fun t472 => ((cover_gcd.f k t472 a0_2).bind fun t473 => (some (t473 == 1)))) else (some false))) else (some false)) = some r := H
   have A6 := Aside0.mk A60
   clear A60
   by_cases c7 : t470 = true
   ·subst c7
    have H1 : ((cover_within.f a0_3 0 1152921504606846976).bind fun t471 => (if t471 = true then ((cover_gcd.f k a0_0 a0_1).bind fun t472 => ((cover_gcd.f k t472 a0_2).bind fun t473 => (some (t473 == 1)))) else (some false))) = some r := by rw [if_pos rfl] at H; exact H
    clear H
    have H := H1
    clear H1
    replace H := Option.bind_eq_some_iff.mp H
    obtain ⟨t471, A80, H⟩ := H
    replace H : (if t471 = true then ((cover_gcd.f k a0_0 a0_1).bind fun t472 => ((cover_gcd.f k t472 a0_2).bind fun t473 => (some (t473 == 1)))) else (some false)) = some r := H
    have A8 := Aside0.mk A80
    clear A80
    by_cases c9 : t471 = true
    ·subst c9
     have H1 : ((cover_gcd.f k a0_0 a0_1).bind fun t472 => ((cover_gcd.f k t472 a0_2).bind fun t473 => (some (t473 == 1)))) = some r := by rw [if_pos rfl] at H; exact H
     clear H
     have H := H1
     clear H1
     replace H := Option.bind_eq_some_iff.mp H
     obtain ⟨t472, A100, H⟩ := H
     replace H : ((cover_gcd.f k t472 a0_2).bind fun t473 => (some (t473 == 1))) = some r := H
     have A10 := Aside0.mk A100
     clear A100
     replace H := Option.bind_eq_some_iff.mp H
     obtain ⟨t473, A110, H⟩ := H
     replace H : (some (t473 == 1)) = some r := H
     have A11 := Aside0.mk A110
     clear A110
     obtain rfl := Option.some.inj H
     go_enter Try.func57, Try.ntmps57
     try go_wp2_with (first | ((with_reducible refine gate_dst (N := 1) rfl ?_); refine bxE 1 #[.int .i64 a0_0, .int .i64 a0_1, .int .i64 a0_2, .int .i64 a0_3] 40 ?_; intro gb467 hg w12 hbox hb; have n0_ := Aside0.mk (below_step HBz hb); have n1_ := Aside0.mk (hbox); have n2_ := Aside0.mk ((by rw [hg]; exact (below_size HBz) : w.heap.size ≤ gb467)); have n3_ := Aside0.mk ((by rw [hg]; exact (below_size HBz) : w.heap.size ≤ gb467)); clear HB; have HB := n0_; have BK467 := n1_; have GW467 := n2_; have GE467 := n3_; clear n0_ n1_ n2_ n3_; clear hb hbox hg))
     have n0_ := Aside0.mk (blk_drew BK467.out)
     have n1_ := Aside0.mk (below_drew1 HB.out)
     clear BK467
     clear HB
     have BK467 := n0_
     have HB := n1_
     clear n0_ n1_
     refine stz (fun w' => w'.cell? ⟨gb467, 0, none⟩ = some (.int .i64 a0_0) ∧ w'.cell? ⟨gb467, 1, none⟩ = some (.int .i64 a0_1) ∧ w'.cell? ⟨gb467, 2, none⟩ = some (.int .i64 a0_2) ∧ w'.cell? ⟨gb467, 3, none⟩ = some (.int .i64 a0_3)) [] (bn 30 0) ⟨(blk_cell BK467.out 0).trans rfl, (blk_cell BK467.out 1).trans rfl, (blk_cell BK467.out 2).trans rfl, (blk_cell BK467.out 3).trans rfl⟩ (fun hHeld => ?_); refine with_tabW cover_isCircle.tab1 cover_isCircle.bits1 (fun HT_ HW_ => ?_)
     generalize w12.drew = w13 at BK467 HB hHeld ⊢
     refine pT HT_.out 0 (some 3) (bn 30 1) ?_
     refine tT HT_.out HW_.out 1 (some 4) (bn 30 3) hHeld ?_
     refine oT HT_.out 2 (some 5) (bn 30 7) (fun K hK => ?_)
     refine gz Try.func61 #[.int .i64 a0_2, .int .i64 1, .int .i64 1048576] ?_
     with_reducible refine (cover_within.calls a0_2 1 1048576 true _ A2.out).mono ?_
     rintro e w' ⟨rfl, ⟨nd, rfl⟩⟩
     refine ⟨_, rfl, ?_⟩
     refine hK.out _ _ ⟨(blk_cell BK467.out 0).trans rfl, (blk_cell BK467.out 1).trans rfl, (blk_cell BK467.out 2).trans rfl, (blk_cell BK467.out 3).trans rfl⟩ (fun hHeld => ?_)
     clear hK K
     refine nz (some 5) ?_
     refine pT HT_.out 3 (some 6) (bn 30 15) ?_
     refine pT HT_.out 4 (some 7) (bn 30 31) ?_
     refine tT HT_.out HW_.out 5 (some 8) (bn 30 63) hHeld ?_
     refine oT HT_.out 6 (some 9) (bn 30 127) (fun K hK => ?_)
     refine gz Try.func61 #[.int .i64 a0_0, .int .i64 (-536870912), .int .i64 536870912] ?_
     with_reducible refine (cover_within.calls a0_0 (-536870912) 536870912 true _ A4.out).mono ?_
     rintro e w' ⟨rfl, ⟨nd, rfl⟩⟩
     refine ⟨_, rfl, ?_⟩
     refine hK.out _ _ ⟨(blk_cell BK467.out 0).trans rfl, (blk_cell BK467.out 1).trans rfl, (blk_cell BK467.out 2).trans rfl, (blk_cell BK467.out 3).trans rfl⟩ (fun hHeld => ?_)
     clear hK K
     refine nz (some 9) ?_
     refine pT HT_.out 7 (some 10) (bn 30 255) ?_
     refine pT HT_.out 8 (some 11) (bn 30 511) ?_
     refine pT HT_.out 9 (some 12) (bn 30 1023) ?_
     refine tT HT_.out HW_.out 10 (some 13) (bn 30 2047) hHeld ?_
     refine oT HT_.out 11 (some 14) (bn 30 4095) (fun K hK => ?_)
     refine gz Try.func61 #[.int .i64 a0_1, .int .i64 (-536870912), .int .i64 536870912] ?_
     with_reducible refine (cover_within.calls a0_1 (-536870912) 536870912 true _ A6.out).mono ?_
     rintro e w' ⟨rfl, ⟨nd, rfl⟩⟩
     refine ⟨_, rfl, ?_⟩
     refine hK.out _ _ ⟨(blk_cell BK467.out 0).trans rfl, (blk_cell BK467.out 1).trans rfl, (blk_cell BK467.out 2).trans rfl, (blk_cell BK467.out 3).trans rfl⟩ (fun hHeld => ?_)
     clear hK K
     refine nz (some 14) ?_
     refine pT HT_.out 12 (some 15) (bn 30 8191) ?_
     refine pT HT_.out 13 (some 16) (bn 30 16383) ?_
     refine pT HT_.out 14 (some 17) (bn 30 32767) ?_
     refine tT HT_.out HW_.out 15 (some 18) (bn 30 65535) hHeld ?_
     refine oT HT_.out 16 (some 19) (bn 30 131071) (fun K hK => ?_)
     refine gz Try.func61 #[.int .i64 a0_3, .int .i64 0, .int .i64 1152921504606846976] ?_
     with_reducible refine (cover_within.calls a0_3 0 1152921504606846976 true _ A8.out).mono ?_
     rintro e w' ⟨rfl, ⟨nd, rfl⟩⟩
     refine ⟨_, rfl, ?_⟩
     refine hK.out _ _ ⟨(blk_cell BK467.out 0).trans rfl, (blk_cell BK467.out 1).trans rfl, (blk_cell BK467.out 2).trans rfl, (blk_cell BK467.out 3).trans rfl⟩ (fun hHeld => ?_)
     clear hK K
     refine nz (some 19) ?_
     refine pT HT_.out 17 (some 20) (bn 30 262143) ?_
     refine pT HT_.out 18 (some 21) (bn 30 524287) ?_
     refine pT HT_.out 19 (some 22) (bn 30 1048575) ?_
     refine pT HT_.out 21 (some 24) (bn 30 3145727) ?_
     refine pT HT_.out 24 (some 27) (bn 30 19922943) ?_
     refine tT HT_.out HW_.out 20 (some 23) (bn 30 20971519) hHeld ?_
     refine tT HT_.out HW_.out 22 (some 25) (bn 30 25165823) hHeld ?_
     refine tT HT_.out HW_.out 25 (some 28) (bn 30 58720255) hHeld ?_
     refine oT HT_.out 23 (some 26) (bn 30 67108863) (fun K hK => ?_)
     refine gz Try.func84 #[.int .i64 a0_0, .int .i64 a0_1] ?_
     with_reducible refine (cover_gcd.calls k a0_0 a0_1 t472 _ A10.out).mono ?_
     rintro e w14 ⟨rfl, hb⟩
     refine ⟨_, rfl, ?_⟩
     have n0_ := Aside0.mk (blk_below (g := gb467) BKz hb)
     have n1_ := Aside0.mk (below_step HBz hb)
     clear BK467
     clear HB
     have BK467 := n0_
     have HB := n1_
     clear n0_ n1_
     (try clear hb)
     (try clear hb2)
     (try clear hk)
     (try clear hi)
     refine hK.out _ _ ⟨(blk_cell BK467.out 0).trans rfl, (blk_cell BK467.out 1).trans rfl, (blk_cell BK467.out 2).trans rfl, (blk_cell BK467.out 3).trans rfl⟩ (fun hHeld => ?_)
     clear hK K
     refine nz (some 26) ?_
     refine oT HT_.out 26 (some 29) (bn 30 134217727) (fun K hK => ?_)
     refine gz Try.func84 #[.int .i64 t472, .int .i64 a0_2] ?_
     with_reducible refine (cover_gcd.calls k t472 a0_2 t473 _ A11.out).mono ?_
     rintro e w15 ⟨rfl, hb⟩
     refine ⟨_, rfl, ?_⟩
     have n0_ := Aside0.mk (blk_below (g := gb467) BKz hb)
     have n1_ := Aside0.mk (below_step HBz hb)
     clear BK467
     clear HB
     have BK467 := n0_
     have HB := n1_
     clear n0_ n1_
     (try clear hb)
     (try clear hb2)
     (try clear hk)
     (try clear hi)
     refine hK.out _ _ ⟨(blk_cell BK467.out 0).trans rfl, (blk_cell BK467.out 1).trans rfl, (blk_cell BK467.out 2).trans rfl, (blk_cell BK467.out 3).trans rfl⟩ (fun hHeld => ?_)
     clear hK K
     refine nz (some 29) ?_
     refine pT HT_.out 27 (some 30) (bn 30 268435455) ?_
     refine pT HT_.out 28 (some 31) (bn 30 536870911) ?_
     refine pT HT_.out 29 (some 2) (bn 30 1073741823) ?_
     refine done_ (done_of HT_.out (by kernel_rfl)) ?_
     try go_wp2
     go_ret
     exact ⟨by first | rfl | (simp [errW_none, errW_some] <;> rfl) | (simp [*, errW_none, errW_some] <;> rfl), HBz⟩
    ·replace c9 := Bool.eq_false_iff.mpr c9
     subst c9
     have H1 : (some false) = some r := by rw [if_neg (show ¬ (false = true) by decide)] at H; exact H
     clear H
     have H := H1
     clear H1
     obtain rfl := Option.some.inj H
     go_enter Try.func57, Try.ntmps57
     try go_wp2_with (first | ((with_reducible refine gate_dst (N := 1) rfl ?_); refine bxE 1 #[.int .i64 a0_0, .int .i64 a0_1, .int .i64 a0_2, .int .i64 a0_3] 40 ?_; intro gb467 hg w16 hbox hb; have n0_ := Aside0.mk (below_step HBz hb); have n1_ := Aside0.mk (hbox); have n2_ := Aside0.mk ((by rw [hg]; exact (below_size HBz) : w.heap.size ≤ gb467)); have n3_ := Aside0.mk ((by rw [hg]; exact (below_size HBz) : w.heap.size ≤ gb467)); clear HB; have HB := n0_; have BK467 := n1_; have GW467 := n2_; have GE467 := n3_; clear n0_ n1_ n2_ n3_; clear hb hbox hg))
     have n0_ := Aside0.mk (blk_drew BK467.out)
     have n1_ := Aside0.mk (below_drew1 HB.out)
     clear BK467
     clear HB
     have BK467 := n0_
     have HB := n1_
     clear n0_ n1_
     refine stz (fun w' => w'.cell? ⟨gb467, 0, none⟩ = some (.int .i64 a0_0) ∧ w'.cell? ⟨gb467, 1, none⟩ = some (.int .i64 a0_1) ∧ w'.cell? ⟨gb467, 2, none⟩ = some (.int .i64 a0_2) ∧ w'.cell? ⟨gb467, 3, none⟩ = some (.int .i64 a0_3)) [] (bn 30 0) ⟨(blk_cell BK467.out 0).trans rfl, (blk_cell BK467.out 1).trans rfl, (blk_cell BK467.out 2).trans rfl, (blk_cell BK467.out 3).trans rfl⟩ (fun hHeld => ?_); refine with_tabW cover_isCircle.tab1 cover_isCircle.bits1 (fun HT_ HW_ => ?_)
     generalize w16.drew = w17 at BK467 HB hHeld ⊢
     refine pT HT_.out 0 (some 3) (bn 30 1) ?_
     refine tT HT_.out HW_.out 1 (some 4) (bn 30 3) hHeld ?_
     refine oT HT_.out 2 (some 5) (bn 30 7) (fun K hK => ?_)
     refine gz Try.func61 #[.int .i64 a0_2, .int .i64 1, .int .i64 1048576] ?_
     with_reducible refine (cover_within.calls a0_2 1 1048576 true _ A2.out).mono ?_
     rintro e w' ⟨rfl, ⟨nd, rfl⟩⟩
     refine ⟨_, rfl, ?_⟩
     refine hK.out _ _ ⟨(blk_cell BK467.out 0).trans rfl, (blk_cell BK467.out 1).trans rfl, (blk_cell BK467.out 2).trans rfl, (blk_cell BK467.out 3).trans rfl⟩ (fun hHeld => ?_)
     clear hK K
     refine nz (some 5) ?_
     refine pT HT_.out 3 (some 6) (bn 30 15) ?_
     refine pT HT_.out 4 (some 7) (bn 30 31) ?_
     refine tT HT_.out HW_.out 5 (some 8) (bn 30 63) hHeld ?_
     refine oT HT_.out 6 (some 9) (bn 30 127) (fun K hK => ?_)
     refine gz Try.func61 #[.int .i64 a0_0, .int .i64 (-536870912), .int .i64 536870912] ?_
     with_reducible refine (cover_within.calls a0_0 (-536870912) 536870912 true _ A4.out).mono ?_
     rintro e w' ⟨rfl, ⟨nd, rfl⟩⟩
     refine ⟨_, rfl, ?_⟩
     refine hK.out _ _ ⟨(blk_cell BK467.out 0).trans rfl, (blk_cell BK467.out 1).trans rfl, (blk_cell BK467.out 2).trans rfl, (blk_cell BK467.out 3).trans rfl⟩ (fun hHeld => ?_)
     clear hK K
     refine nz (some 9) ?_
     refine pT HT_.out 7 (some 10) (bn 30 255) ?_
     refine pT HT_.out 8 (some 11) (bn 30 511) ?_
     refine pT HT_.out 9 (some 12) (bn 30 1023) ?_
     refine tT HT_.out HW_.out 10 (some 13) (bn 30 2047) hHeld ?_
     refine oT HT_.out 11 (some 14) (bn 30 4095) (fun K hK => ?_)
     refine gz Try.func61 #[.int .i64 a0_1, .int .i64 (-536870912), .int .i64 536870912] ?_
     with_reducible refine (cover_within.calls a0_1 (-536870912) 536870912 true _ A6.out).mono ?_
     rintro e w' ⟨rfl, ⟨nd, rfl⟩⟩
     refine ⟨_, rfl, ?_⟩
     refine hK.out _ _ ⟨(blk_cell BK467.out 0).trans rfl, (blk_cell BK467.out 1).trans rfl, (blk_cell BK467.out 2).trans rfl, (blk_cell BK467.out 3).trans rfl⟩ (fun hHeld => ?_)
     clear hK K
     refine nz (some 14) ?_
     refine pT HT_.out 12 (some 15) (bn 30 8191) ?_
     refine pT HT_.out 13 (some 16) (bn 30 16383) ?_
     refine pT HT_.out 14 (some 17) (bn 30 32767) ?_
     refine tT HT_.out HW_.out 15 (some 18) (bn 30 65535) hHeld ?_
     refine oT HT_.out 16 (some 19) (bn 30 131071) (fun K hK => ?_)
     refine gz Try.func61 #[.int .i64 a0_3, .int .i64 0, .int .i64 1152921504606846976] ?_
     with_reducible refine (cover_within.calls a0_3 0 1152921504606846976 false _ A8.out).mono ?_
     rintro e w' ⟨rfl, ⟨nd, rfl⟩⟩
     refine ⟨_, rfl, ?_⟩
     refine hK.out _ _ ⟨(blk_cell BK467.out 0).trans rfl, (blk_cell BK467.out 1).trans rfl, (blk_cell BK467.out 2).trans rfl, (blk_cell BK467.out 3).trans rfl⟩ (fun hHeld => ?_)
     clear hK K
     refine nz (some 19) ?_
     refine pT HT_.out 17 (some 20) (bn 30 262143) ?_
     refine pT HT_.out 18 (some 21) (bn 30 524287) ?_
     refine pT0 HT_.out 19 (some 22) (bn 30 1048575) ?_
     refine pT0 HT_.out 20 (some 23) (bn 30 2097151) ?_
     refine pT0 HT_.out 21 (some 24) (bn 30 4194303) ?_
     refine pT0 HT_.out 22 (some 25) (bn 30 8388607) ?_
     refine pT0 HT_.out 23 (some 26) (bn 30 16777215) ?_
     refine pT0 HT_.out 24 (some 27) (bn 30 33554431) ?_
     refine pT0 HT_.out 25 (some 28) (bn 30 67108863) ?_
     refine pT0 HT_.out 26 (some 29) (bn 30 134217727) ?_
     refine pT0 HT_.out 27 (some 30) (bn 30 268435455) ?_
     refine pT HT_.out 28 (some 31) (bn 30 536870911) ?_
     refine pT HT_.out 29 (some 2) (bn 30 1073741823) ?_
     refine done_ (done_of HT_.out (by kernel_rfl)) ?_
     try go_wp2
     go_ret
     exact ⟨by first | rfl | (simp [errW_none, errW_some] <;> rfl) | (simp [*, errW_none, errW_some] <;> rfl), HBz⟩
   ·replace c7 := Bool.eq_false_iff.mpr c7
    subst c7
    have H1 : (some false) = some r := by rw [if_neg (show ¬ (false = true) by decide)] at H; exact H
    clear H
    have H := H1
    clear H1
    obtain rfl := Option.some.inj H
    go_enter Try.func57, Try.ntmps57
    try go_wp2_with (first | ((with_reducible refine gate_dst (N := 1) rfl ?_); refine bxE 1 #[.int .i64 a0_0, .int .i64 a0_1, .int .i64 a0_2, .int .i64 a0_3] 40 ?_; intro gb467 hg w18 hbox hb; have n0_ := Aside0.mk (below_step HBz hb); have n1_ := Aside0.mk (hbox); have n2_ := Aside0.mk ((by rw [hg]; exact (below_size HBz) : w.heap.size ≤ gb467)); have n3_ := Aside0.mk ((by rw [hg]; exact (below_size HBz) : w.heap.size ≤ gb467)); clear HB; have HB := n0_; have BK467 := n1_; have GW467 := n2_; have GE467 := n3_; clear n0_ n1_ n2_ n3_; clear hb hbox hg))
    have n0_ := Aside0.mk (blk_drew BK467.out)
    have n1_ := Aside0.mk (below_drew1 HB.out)
    clear BK467
    clear HB
    have BK467 := n0_
    have HB := n1_
    clear n0_ n1_
    refine stz (fun w' => w'.cell? ⟨gb467, 0, none⟩ = some (.int .i64 a0_0) ∧ w'.cell? ⟨gb467, 1, none⟩ = some (.int .i64 a0_1) ∧ w'.cell? ⟨gb467, 2, none⟩ = some (.int .i64 a0_2) ∧ w'.cell? ⟨gb467, 3, none⟩ = some (.int .i64 a0_3)) [] (bn 30 0) ⟨(blk_cell BK467.out 0).trans rfl, (blk_cell BK467.out 1).trans rfl, (blk_cell BK467.out 2).trans rfl, (blk_cell BK467.out 3).trans rfl⟩ (fun hHeld => ?_); refine with_tabW cover_isCircle.tab1 cover_isCircle.bits1 (fun HT_ HW_ => ?_)
    generalize w18.drew = w19 at BK467 HB hHeld ⊢
    refine pT HT_.out 0 (some 3) (bn 30 1) ?_
    refine tT HT_.out HW_.out 1 (some 4) (bn 30 3) hHeld ?_
    refine oT HT_.out 2 (some 5) (bn 30 7) (fun K hK => ?_)
    refine gz Try.func61 #[.int .i64 a0_2, .int .i64 1, .int .i64 1048576] ?_
    with_reducible refine (cover_within.calls a0_2 1 1048576 true _ A2.out).mono ?_
    rintro e w' ⟨rfl, ⟨nd, rfl⟩⟩
    refine ⟨_, rfl, ?_⟩
    refine hK.out _ _ ⟨(blk_cell BK467.out 0).trans rfl, (blk_cell BK467.out 1).trans rfl, (blk_cell BK467.out 2).trans rfl, (blk_cell BK467.out 3).trans rfl⟩ (fun hHeld => ?_)
    clear hK K
    refine nz (some 5) ?_
    refine pT HT_.out 3 (some 6) (bn 30 15) ?_
    refine pT HT_.out 4 (some 7) (bn 30 31) ?_
    refine tT HT_.out HW_.out 5 (some 8) (bn 30 63) hHeld ?_
    refine oT HT_.out 6 (some 9) (bn 30 127) (fun K hK => ?_)
    refine gz Try.func61 #[.int .i64 a0_0, .int .i64 (-536870912), .int .i64 536870912] ?_
    with_reducible refine (cover_within.calls a0_0 (-536870912) 536870912 true _ A4.out).mono ?_
    rintro e w' ⟨rfl, ⟨nd, rfl⟩⟩
    refine ⟨_, rfl, ?_⟩
    refine hK.out _ _ ⟨(blk_cell BK467.out 0).trans rfl, (blk_cell BK467.out 1).trans rfl, (blk_cell BK467.out 2).trans rfl, (blk_cell BK467.out 3).trans rfl⟩ (fun hHeld => ?_)
    clear hK K
    refine nz (some 9) ?_
    refine pT HT_.out 7 (some 10) (bn 30 255) ?_
    refine pT HT_.out 8 (some 11) (bn 30 511) ?_
    refine pT HT_.out 9 (some 12) (bn 30 1023) ?_
    refine tT HT_.out HW_.out 10 (some 13) (bn 30 2047) hHeld ?_
    refine oT HT_.out 11 (some 14) (bn 30 4095) (fun K hK => ?_)
    refine gz Try.func61 #[.int .i64 a0_1, .int .i64 (-536870912), .int .i64 536870912] ?_
    with_reducible refine (cover_within.calls a0_1 (-536870912) 536870912 false _ A6.out).mono ?_
    rintro e w' ⟨rfl, ⟨nd, rfl⟩⟩
    refine ⟨_, rfl, ?_⟩
    refine hK.out _ _ ⟨(blk_cell BK467.out 0).trans rfl, (blk_cell BK467.out 1).trans rfl, (blk_cell BK467.out 2).trans rfl, (blk_cell BK467.out 3).trans rfl⟩ (fun hHeld => ?_)
    clear hK K
    refine nz (some 14) ?_
    refine pT HT_.out 12 (some 15) (bn 30 8191) ?_
    refine pT HT_.out 13 (some 16) (bn 30 16383) ?_
    refine pT0 HT_.out 14 (some 17) (bn 30 32767) ?_
    refine pT0 HT_.out 15 (some 18) (bn 30 65535) ?_
    refine pT0 HT_.out 16 (some 19) (bn 30 131071) ?_
    refine pT HT_.out 17 (some 20) (bn 30 262143) ?_
    refine pT HT_.out 18 (some 21) (bn 30 524287) ?_
    refine pT0 HT_.out 19 (some 22) (bn 30 1048575) ?_
    refine pT0 HT_.out 20 (some 23) (bn 30 2097151) ?_
    refine pT0 HT_.out 21 (some 24) (bn 30 4194303) ?_
    refine pT0 HT_.out 22 (some 25) (bn 30 8388607) ?_
    refine pT0 HT_.out 23 (some 26) (bn 30 16777215) ?_
    refine pT0 HT_.out 24 (some 27) (bn 30 33554431) ?_
    refine pT0 HT_.out 25 (some 28) (bn 30 67108863) ?_
    refine pT0 HT_.out 26 (some 29) (bn 30 134217727) ?_
    refine pT0 HT_.out 27 (some 30) (bn 30 268435455) ?_
    refine pT HT_.out 28 (some 31) (bn 30 536870911) ?_
    refine pT HT_.out 29 (some 2) (bn 30 1073741823) ?_
    refine done_ (done_of HT_.out (by kernel_rfl)) ?_
    try go_wp2
    go_ret
    exact ⟨by first | rfl | (simp [errW_none, errW_some] <;> rfl) | (simp [*, errW_none, errW_some] <;> rfl), HBz⟩
  ·replace c5 := Bool.eq_false_iff.mpr c5
   subst c5
   have H1 : (some false) = some r := by rw [if_neg (show ¬ (false = true) by decide)] at H; exact H
   clear H
   have H := H1
   clear H1
   obtain rfl := Option.some.inj H
   go_enter Try.func57, Try.ntmps57
   try go_wp2_with (first | ((with_reducible refine gate_dst (N := 1) rfl ?_); refine bxE 1 #[.int .i64 a0_0, .int .i64 a0_1, .int .i64 a0_2, .int .i64 a0_3] 40 ?_; intro gb467 hg w20 hbox hb; have n0_ := Aside0.mk (below_step HBz hb); have n1_ := Aside0.mk (hbox); have n2_ := Aside0.mk ((by rw [hg]; exact (below_size HBz) : w.heap.size ≤ gb467)); have n3_ := Aside0.mk ((by rw [hg]; exact (below_size HBz) : w.heap.size ≤ gb467)); clear HB; have HB := n0_; have BK467 := n1_; have GW467 := n2_; have GE467 := n3_; clear n0_ n1_ n2_ n3_; clear hb hbox hg))
   have n0_ := Aside0.mk (blk_drew BK467.out)
   have n1_ := Aside0.mk (below_drew1 HB.out)
   clear BK467
   clear HB
   have BK467 := n0_
   have HB := n1_
   clear n0_ n1_
   refine stz (fun w' => w'.cell? ⟨gb467, 0, none⟩ = some (.int .i64 a0_0) ∧ w'.cell? ⟨gb467, 1, none⟩ = some (.int .i64 a0_1) ∧ w'.cell? ⟨gb467, 2, none⟩ = some (.int .i64 a0_2) ∧ w'.cell? ⟨gb467, 3, none⟩ = some (.int .i64 a0_3)) [] (bn 30 0) ⟨(blk_cell BK467.out 0).trans rfl, (blk_cell BK467.out 1).trans rfl, (blk_cell BK467.out 2).trans rfl, (blk_cell BK467.out 3).trans rfl⟩ (fun hHeld => ?_); refine with_tabW cover_isCircle.tab1 cover_isCircle.bits1 (fun HT_ HW_ => ?_)
   generalize w20.drew = w21 at BK467 HB hHeld ⊢
   refine pT HT_.out 0 (some 3) (bn 30 1) ?_
   refine tT HT_.out HW_.out 1 (some 4) (bn 30 3) hHeld ?_
   refine oT HT_.out 2 (some 5) (bn 30 7) (fun K hK => ?_)
   refine gz Try.func61 #[.int .i64 a0_2, .int .i64 1, .int .i64 1048576] ?_
   with_reducible refine (cover_within.calls a0_2 1 1048576 true _ A2.out).mono ?_
   rintro e w' ⟨rfl, ⟨nd, rfl⟩⟩
   refine ⟨_, rfl, ?_⟩
   refine hK.out _ _ ⟨(blk_cell BK467.out 0).trans rfl, (blk_cell BK467.out 1).trans rfl, (blk_cell BK467.out 2).trans rfl, (blk_cell BK467.out 3).trans rfl⟩ (fun hHeld => ?_)
   clear hK K
   refine nz (some 5) ?_
   refine pT HT_.out 3 (some 6) (bn 30 15) ?_
   refine pT HT_.out 4 (some 7) (bn 30 31) ?_
   refine tT HT_.out HW_.out 5 (some 8) (bn 30 63) hHeld ?_
   refine oT HT_.out 6 (some 9) (bn 30 127) (fun K hK => ?_)
   refine gz Try.func61 #[.int .i64 a0_0, .int .i64 (-536870912), .int .i64 536870912] ?_
   with_reducible refine (cover_within.calls a0_0 (-536870912) 536870912 false _ A4.out).mono ?_
   rintro e w' ⟨rfl, ⟨nd, rfl⟩⟩
   refine ⟨_, rfl, ?_⟩
   refine hK.out _ _ ⟨(blk_cell BK467.out 0).trans rfl, (blk_cell BK467.out 1).trans rfl, (blk_cell BK467.out 2).trans rfl, (blk_cell BK467.out 3).trans rfl⟩ (fun hHeld => ?_)
   clear hK K
   refine nz (some 9) ?_
   refine pT HT_.out 7 (some 10) (bn 30 255) ?_
   refine pT HT_.out 8 (some 11) (bn 30 511) ?_
   refine pT0 HT_.out 9 (some 12) (bn 30 1023) ?_
   refine pT0 HT_.out 10 (some 13) (bn 30 2047) ?_
   refine pT0 HT_.out 11 (some 14) (bn 30 4095) ?_
   refine pT HT_.out 12 (some 15) (bn 30 8191) ?_
   refine pT HT_.out 13 (some 16) (bn 30 16383) ?_
   refine pT0 HT_.out 14 (some 17) (bn 30 32767) ?_
   refine pT0 HT_.out 15 (some 18) (bn 30 65535) ?_
   refine pT0 HT_.out 16 (some 19) (bn 30 131071) ?_
   refine pT HT_.out 17 (some 20) (bn 30 262143) ?_
   refine pT HT_.out 18 (some 21) (bn 30 524287) ?_
   refine pT0 HT_.out 19 (some 22) (bn 30 1048575) ?_
   refine pT0 HT_.out 20 (some 23) (bn 30 2097151) ?_
   refine pT0 HT_.out 21 (some 24) (bn 30 4194303) ?_
   refine pT0 HT_.out 22 (some 25) (bn 30 8388607) ?_
   refine pT0 HT_.out 23 (some 26) (bn 30 16777215) ?_
   refine pT0 HT_.out 24 (some 27) (bn 30 33554431) ?_
   refine pT0 HT_.out 25 (some 28) (bn 30 67108863) ?_
   refine pT0 HT_.out 26 (some 29) (bn 30 134217727) ?_
   refine pT0 HT_.out 27 (some 30) (bn 30 268435455) ?_
   refine pT HT_.out 28 (some 31) (bn 30 536870911) ?_
   refine pT HT_.out 29 (some 2) (bn 30 1073741823) ?_
   refine done_ (done_of HT_.out (by kernel_rfl)) ?_
   try go_wp2
   go_ret
   exact ⟨by first | rfl | (simp [errW_none, errW_some] <;> rfl) | (simp [*, errW_none, errW_some] <;> rfl), HBz⟩
 ·replace c3 := Bool.eq_false_iff.mpr c3
  subst c3
  have H1 : (some false) = some r := by rw [if_neg (show ¬ (false = true) by decide)] at H; exact H
  clear H
  have H := H1
  clear H1
  obtain rfl := Option.some.inj H
  go_enter Try.func57, Try.ntmps57
  try go_wp2_with (first | ((with_reducible refine gate_dst (N := 1) rfl ?_); refine bxE 1 #[.int .i64 a0_0, .int .i64 a0_1, .int .i64 a0_2, .int .i64 a0_3] 40 ?_; intro gb467 hg w22 hbox hb; have n0_ := Aside0.mk (below_step HBz hb); have n1_ := Aside0.mk (hbox); have n2_ := Aside0.mk ((by rw [hg]; exact (below_size HBz) : w.heap.size ≤ gb467)); have n3_ := Aside0.mk ((by rw [hg]; exact (below_size HBz) : w.heap.size ≤ gb467)); clear HB; have HB := n0_; have BK467 := n1_; have GW467 := n2_; have GE467 := n3_; clear n0_ n1_ n2_ n3_; clear hb hbox hg))
  have n0_ := Aside0.mk (blk_drew BK467.out)
  have n1_ := Aside0.mk (below_drew1 HB.out)
  clear BK467
  clear HB
  have BK467 := n0_
  have HB := n1_
  clear n0_ n1_
  refine stz (fun w' => w'.cell? ⟨gb467, 0, none⟩ = some (.int .i64 a0_0) ∧ w'.cell? ⟨gb467, 1, none⟩ = some (.int .i64 a0_1) ∧ w'.cell? ⟨gb467, 2, none⟩ = some (.int .i64 a0_2) ∧ w'.cell? ⟨gb467, 3, none⟩ = some (.int .i64 a0_3)) [] (bn 30 0) ⟨(blk_cell BK467.out 0).trans rfl, (blk_cell BK467.out 1).trans rfl, (blk_cell BK467.out 2).trans rfl, (blk_cell BK467.out 3).trans rfl⟩ (fun hHeld => ?_); refine with_tabW cover_isCircle.tab1 cover_isCircle.bits1 (fun HT_ HW_ => ?_)
  generalize w22.drew = w23 at BK467 HB hHeld ⊢
  refine pT HT_.out 0 (some 3) (bn 30 1) ?_
  refine tT HT_.out HW_.out 1 (some 4) (bn 30 3) hHeld ?_
  refine oT HT_.out 2 (some 5) (bn 30 7) (fun K hK => ?_)
  refine gz Try.func61 #[.int .i64 a0_2, .int .i64 1, .int .i64 1048576] ?_
  with_reducible refine (cover_within.calls a0_2 1 1048576 false _ A2.out).mono ?_
  rintro e w' ⟨rfl, ⟨nd, rfl⟩⟩
  refine ⟨_, rfl, ?_⟩
  refine hK.out _ _ ⟨(blk_cell BK467.out 0).trans rfl, (blk_cell BK467.out 1).trans rfl, (blk_cell BK467.out 2).trans rfl, (blk_cell BK467.out 3).trans rfl⟩ (fun hHeld => ?_)
  clear hK K
  refine nz (some 5) ?_
  refine pT HT_.out 3 (some 6) (bn 30 15) ?_
  refine pT0 HT_.out 4 (some 7) (bn 30 31) ?_
  refine pT0 HT_.out 5 (some 8) (bn 30 63) ?_
  refine pT0 HT_.out 6 (some 9) (bn 30 127) ?_
  refine pT HT_.out 7 (some 10) (bn 30 255) ?_
  refine pT HT_.out 8 (some 11) (bn 30 511) ?_
  refine pT0 HT_.out 9 (some 12) (bn 30 1023) ?_
  refine pT0 HT_.out 10 (some 13) (bn 30 2047) ?_
  refine pT0 HT_.out 11 (some 14) (bn 30 4095) ?_
  refine pT HT_.out 12 (some 15) (bn 30 8191) ?_
  refine pT HT_.out 13 (some 16) (bn 30 16383) ?_
  refine pT0 HT_.out 14 (some 17) (bn 30 32767) ?_
  refine pT0 HT_.out 15 (some 18) (bn 30 65535) ?_
  refine pT0 HT_.out 16 (some 19) (bn 30 131071) ?_
  refine pT HT_.out 17 (some 20) (bn 30 262143) ?_
  refine pT HT_.out 18 (some 21) (bn 30 524287) ?_
  refine pT0 HT_.out 19 (some 22) (bn 30 1048575) ?_
  refine pT0 HT_.out 20 (some 23) (bn 30 2097151) ?_
  refine pT0 HT_.out 21 (some 24) (bn 30 4194303) ?_
  refine pT0 HT_.out 22 (some 25) (bn 30 8388607) ?_
  refine pT0 HT_.out 23 (some 26) (bn 30 16777215) ?_
  refine pT0 HT_.out 24 (some 27) (bn 30 33554431) ?_
  refine pT0 HT_.out 25 (some 28) (bn 30 67108863) ?_
  refine pT0 HT_.out 26 (some 29) (bn 30 134217727) ?_
  refine pT0 HT_.out 27 (some 30) (bn 30 268435455) ?_
  refine pT HT_.out 28 (some 31) (bn 30 536870911) ?_
  refine pT HT_.out 29 (some 2) (bn 30 1073741823) ?_
  refine done_ (done_of HT_.out (by kernel_rfl)) ?_
  try go_wp2
  go_ret
  exact ⟨by first | rfl | (simp [errW_none, errW_some] <;> rfl) | (simp [*, errW_none, errW_some] <;> rfl), HBz⟩
end Go.Proofs.Ytplhfbkejngioaa.X
namespace Go.Proofs.Ytplhfbkejngioaa.X
open Go.RowKit Go.Proofs.YtplhfbkejngioaaW.PrintWords Go.Proofs.YtplhfbkejngioaaW.PrintLast Go.Proofs.Ytplhfbkejngioaa.S
attribute [local go_sem] max2_int min2_int max_two min_two
set_option linter.unusedVariables false
set_option linter.unusedSimpArgs false
def tickingref01_cross.f (a0_0 : Int) (a0_1 : Int) (a0_2 : Int) (a0_3 : Int) (a1_0 : Int) (a1_1 : Int) (a2_0 : Int) (a2_1 : Int) : Option (Int) := some (wrap64 ((wrap64 ((wrap64 ((wrap64 (a1_0 * a0_2)) - a0_0)) * (wrap64 ((wrap64 (a2_1 * a0_2)) - a0_1)))) - (wrap64 ((wrap64 ((wrap64 (a1_1 * a0_2)) - a0_1)) * (wrap64 ((wrap64 (a2_0 * a0_2)) - a0_0))))))
set_option maxHeartbeats 8000000 in
set_option maxRecDepth 100000 in
theorem tickingref01_cross.calls (a0_0 : Int) (a0_1 : Int) (a0_2 : Int) (a0_3 : Int) (a1_0 : Int) (a1_1 : Int) (a2_0 : Int) (a2_1 : Int) (r : Int) (w : World) (h : tickingref01_cross.f a0_0 a0_1 a0_2 a0_3 a1_0 a1_1 a2_0 a2_1 = some r) :
  Calls Try.prog 91 #[.agg #[.int .i64 a0_0, .int .i64 a0_1, .int .i64 a0_2, .int .i64 a0_3], .agg #[.int .i64 a1_0, .int .i64 a1_1], .agg #[.int .i64 a2_0, .int .i64 a2_1]] w fun e w' => e = .returned (.int .i64 r) ∧ Below w.heap.size w w' := by
 have hu40 := Try.underlying40
 have hu28 := Try.underlying28
 have HB := Aside0.mk (Below.refl w.heap.size w)
 have H : (some (wrap64 ((wrap64 ((wrap64 ((wrap64 (a1_0 * a0_2)) - a0_0)) * (wrap64 ((wrap64 (a2_1 * a0_2)) - a0_1)))) - (wrap64 ((wrap64 ((wrap64 (a1_1 * a0_2)) - a0_1)) * (wrap64 ((wrap64 (a2_0 * a0_2)) - a0_0))))))) = some r := h
 clear h
 obtain rfl := Option.some.inj H
 go_enter Try.func91, Try.ntmps91
 go_wp2_with (first | ((with_reducible refine gate_dst (N := 3) rfl ?_); refine bxE 3 #[.int .i64 a0_0, .int .i64 a0_1, .int .i64 a0_2, .int .i64 a0_3] 40 ?_; intro gb578 hg w4 hbox hb; have n0_ := Aside0.mk (below_step HBz hb); have n1_ := Aside0.mk (hbox); have n2_ := Aside0.mk ((by rw [hg]; exact (below_size HBz) : w.heap.size ≤ gb578)); have n3_ := Aside0.mk ((by rw [hg]; exact (below_size HBz) : w.heap.size ≤ gb578)); clear HB; have HB := n0_; have BK578 := n1_; have GW578 := n2_; have GE578 := n3_; clear n0_ n1_ n2_ n3_; clear hb hbox hg) | ((with_reducible refine gate_dst (N := 4) rfl ?_); refine bxE 4 #[.int .i64 a1_0, .int .i64 a1_1] 28 ?_; intro gb579 hg w5 hbox hb; have n0_ := Aside0.mk (blk_below (g := gb578) BKz hb); have n1_ := Aside0.mk (below_step HBz hb); have n2_ := Aside0.mk (hbox); have n3_ := Aside0.mk ((by rw [hg]; exact (below_size HBz) : w.heap.size ≤ gb579)); have n4_ := Aside0.mk ((by rw [hg]; exact (below_size HBz) : w.heap.size ≤ gb579)); have n5_ := Aside0.mk ((by rw [hg]; exact Nat.ne_of_lt (blk_lt (g := gb578) BKz) : gb578 ≠ gb579)); have n6_ := Aside0.mk ((by rw [hg]; exact Nat.ne_of_gt (blk_lt (g := gb578) BKz) : gb579 ≠ gb578)); clear BK578; clear HB; have BK578 := n0_; have HB := n1_; have BK579 := n2_; have GW579 := n3_; have GE579 := n4_; have NB578_579 := n5_; have NB579_578 := n6_; clear n0_ n1_ n2_ n3_ n4_ n5_ n6_; clear hb hbox hg) | ((with_reducible refine gate_dst (N := 5) rfl ?_); refine bxE 5 #[.int .i64 a2_0, .int .i64 a2_1] 28 ?_; intro gb580 hg w6 hbox hb; have n0_ := Aside0.mk (blk_below (g := gb578) BKz hb); have n1_ := Aside0.mk (blk_below (g := gb579) BKz hb); have n2_ := Aside0.mk (below_step HBz hb); have n3_ := Aside0.mk (hbox); have n4_ := Aside0.mk ((by rw [hg]; exact (below_size HBz) : w.heap.size ≤ gb580)); have n5_ := Aside0.mk ((by rw [hg]; exact (below_size HBz) : w.heap.size ≤ gb580)); have n6_ := Aside0.mk ((by rw [hg]; exact Nat.ne_of_lt (blk_lt (g := gb578) BKz) : gb578 ≠ gb580)); have n7_ := Aside0.mk ((by rw [hg]; exact Nat.ne_of_gt (blk_lt (g := gb578) BKz) : gb580 ≠ gb578)); have n8_ := Aside0.mk ((by rw [hg]; exact Nat.ne_of_lt (blk_lt (g := gb579) BKz) : gb579 ≠ gb580)); have n9_ := Aside0.mk ((by rw [hg]; exact Nat.ne_of_gt (blk_lt (g := gb579) BKz) : gb580 ≠ gb579)); clear BK578; clear BK579; clear HB; have BK578 := n0_; have BK579 := n1_; have HB := n2_; have BK580 := n3_; have GW580 := n4_; have GE580 := n5_; have NB578_580 := n6_; have NB580_578 := n7_; have NB579_580 := n8_; have NB580_579 := n9_; clear n0_ n1_ n2_ n3_ n4_ n5_ n6_ n7_ n8_ n9_; clear hb hbox hg; have hnb7 := NB579_578.out; have hnc7 := NB578_579.out; have hnb8 := NB579_580.out; have hnc8 := NB580_579.out; have hcz9_0 : w6.cell? ⟨gb579, 0, none⟩ = some (.int .i64 a1_0) := (blk_cell BK579.out 0).trans rfl; have hcz9_1 : w6.cell? ⟨gb579, 1, none⟩ = some (.int .i64 a1_1) := (blk_cell BK579.out 1).trans rfl; have hfz9_0 := blk_frozen BK579.out 0; have hfz9_1 := blk_frozen BK579.out 1; have hnb10 := NB578_580.out; have hnc10 := NB580_578.out; have hcz11_0 : w6.cell? ⟨gb578, 0, none⟩ = some (.int .i64 a0_0) := (blk_cell BK578.out 0).trans rfl; have hcz11_1 : w6.cell? ⟨gb578, 1, none⟩ = some (.int .i64 a0_1) := (blk_cell BK578.out 1).trans rfl; have hcz11_2 : w6.cell? ⟨gb578, 2, none⟩ = some (.int .i64 a0_2) := (blk_cell BK578.out 2).trans rfl; have hcz11_3 : w6.cell? ⟨gb578, 3, none⟩ = some (.int .i64 a0_3) := (blk_cell BK578.out 3).trans rfl; have hfz11_0 := blk_frozen BK578.out 0; have hfz11_1 := blk_frozen BK578.out 1; have hfz11_2 := blk_frozen BK578.out 2; have hfz11_3 := blk_frozen BK578.out 3; have hcz12_0 : w6.cell? ⟨gb580, 0, none⟩ = some (.int .i64 a2_0) := (blk_cell BK580.out 0).trans rfl; have hcz12_1 : w6.cell? ⟨gb580, 1, none⟩ = some (.int .i64 a2_1) := (blk_cell BK580.out 1).trans rfl; have hfz12_0 := blk_frozen BK580.out 0; have hfz12_1 := blk_frozen BK580.out 1))
 go_ret
 exact ⟨by first | rfl | (simp [errW_none, errW_some] <;> rfl) | (simp [*, errW_none, errW_some] <;> rfl), HBz⟩
def tickingref01_between.f (a0_0 : Int) (a0_1 : Int) (a0_2 : Int) (a0_3 : Int) (a1_0 : Int) (a1_1 : Int) (a2_0 : Int) (a2_1 : Int) : Option (Bool) := (tickingref01_cross.f a0_0 a0_1 a0_2 a0_3 a1_0 a1_1 a2_0 a2_1).bind fun t584 => (if t584 = 0 then (some (decide ((wrap64 ((wrap64 ((wrap64 ((wrap64 (a1_0 * a0_2)) - a0_0)) * (wrap64 ((wrap64 (a2_0 * a0_2)) - a0_0)))) + (wrap64 ((wrap64 ((wrap64 (a1_1 * a0_2)) - a0_1)) * (wrap64 ((wrap64 (a2_1 * a0_2)) - a0_1)))))) ≤ 0))) else (some false))
set_option maxHeartbeats 8000000 in
set_option maxRecDepth 100000 in
theorem tickingref01_between.calls (a0_0 : Int) (a0_1 : Int) (a0_2 : Int) (a0_3 : Int) (a1_0 : Int) (a1_1 : Int) (a2_0 : Int) (a2_1 : Int) (r : Bool) (w : World) (h : tickingref01_between.f a0_0 a0_1 a0_2 a0_3 a1_0 a1_1 a2_0 a2_1 = some r) :
  Calls Try.prog 89 #[.agg #[.int .i64 a0_0, .int .i64 a0_1, .int .i64 a0_2, .int .i64 a0_3], .agg #[.int .i64 a1_0, .int .i64 a1_1], .agg #[.int .i64 a2_0, .int .i64 a2_1]] w fun e w' => e = .returned (.bool r) ∧ Below w.heap.size w w' := by
 have hu40 := Try.underlying40
 have hu28 := Try.underlying28
 have HB := Aside0.mk (Below.refl w.heap.size w)
 have H : ((tickingref01_cross.f a0_0 a0_1 a0_2 a0_3 a1_0 a1_1 a2_0 a2_1).bind fun t584 => (if t584 = 0 then (some (decide ((wrap64 ((wrap64 ((wrap64 ((wrap64 (a1_0 * a0_2)) - a0_0)) * (wrap64 ((wrap64 (a2_0 * a0_2)) - a0_0)))) + (wrap64 ((wrap64 ((wrap64 (a1_1 * a0_2)) - a0_1)) * (wrap64 ((wrap64 (a2_1 * a0_2)) - a0_1)))))) ≤ 0))) else (some false))) = some r := h
 clear h
 replace H := Option.bind_eq_some_iff.mp H
 obtain ⟨t584, A40, H⟩ := H
 replace H : (if t584 = 0 then (some (decide ((wrap64 ((wrap64 ((wrap64 ((wrap64 (a1_0 * a0_2)) - a0_0)) * (wrap64 ((wrap64 (a2_0 * a0_2)) - a0_0)))) + (wrap64 ((wrap64 ((wrap64 (a1_1 * a0_2)) - a0_1)) * (wrap64 ((wrap64 (a2_1 * a0_2)) - a0_1)))))) ≤ 0))) else (some false)) = some r := H
 have A4 := Aside0.mk A40
 clear A40
 by_cases c5 : t584 = 0
 ·rw [if_pos c5] at H
  have c5b0 : (t584 == 0) = true := beq_iff_eq.mpr c5
  have c5b1 : (t584 != 0) = false := bne_eq_false_iff_eq.mpr c5
  clear c5
  obtain rfl := Option.some.inj H
  go_enter Try.func89, Try.ntmps89
  go_wp2_with (first | ((with_reducible refine gate_dst (N := 3) rfl ?_); refine bxE 3 #[.int .i64 a0_0, .int .i64 a0_1, .int .i64 a0_2, .int .i64 a0_3] 40 ?_; intro gb581 hg w6 hbox hb; have n0_ := Aside0.mk (below_step HBz hb); have n1_ := Aside0.mk (hbox); have n2_ := Aside0.mk ((by rw [hg]; exact (below_size HBz) : w.heap.size ≤ gb581)); have n3_ := Aside0.mk ((by rw [hg]; exact (below_size HBz) : w.heap.size ≤ gb581)); clear HB; have HB := n0_; have BK581 := n1_; have GW581 := n2_; have GE581 := n3_; clear n0_ n1_ n2_ n3_; clear hb hbox hg) | ((with_reducible refine gate_dst (N := 4) rfl ?_); refine bxE 4 #[.int .i64 a1_0, .int .i64 a1_1] 28 ?_; intro gb582 hg w7 hbox hb; have n0_ := Aside0.mk (blk_below (g := gb581) BKz hb); have n1_ := Aside0.mk (below_step HBz hb); have n2_ := Aside0.mk (hbox); have n3_ := Aside0.mk ((by rw [hg]; exact (below_size HBz) : w.heap.size ≤ gb582)); have n4_ := Aside0.mk ((by rw [hg]; exact (below_size HBz) : w.heap.size ≤ gb582)); have n5_ := Aside0.mk ((by rw [hg]; exact Nat.ne_of_lt (blk_lt (g := gb581) BKz) : gb581 ≠ gb582)); have n6_ := Aside0.mk ((by rw [hg]; exact Nat.ne_of_gt (blk_lt (g := gb581) BKz) : gb582 ≠ gb581)); clear BK581; clear HB; have BK581 := n0_; have HB := n1_; have BK582 := n2_; have GW582 := n3_; have GE582 := n4_; have NB581_582 := n5_; have NB582_581 := n6_; clear n0_ n1_ n2_ n3_ n4_ n5_ n6_; clear hb hbox hg) | ((with_reducible refine gate_dst (N := 5) rfl ?_); refine bxE 5 #[.int .i64 a2_0, .int .i64 a2_1] 28 ?_; intro gb583 hg w8 hbox hb; have n0_ := Aside0.mk (blk_below (g := gb581) BKz hb); have n1_ := Aside0.mk (blk_below (g := gb582) BKz hb); have n2_ := Aside0.mk (below_step HBz hb); have n3_ := Aside0.mk (hbox); have n4_ := Aside0.mk ((by rw [hg]; exact (below_size HBz) : w.heap.size ≤ gb583)); have n5_ := Aside0.mk ((by rw [hg]; exact (below_size HBz) : w.heap.size ≤ gb583)); have n6_ := Aside0.mk ((by rw [hg]; exact Nat.ne_of_lt (blk_lt (g := gb581) BKz) : gb581 ≠ gb583)); have n7_ := Aside0.mk ((by rw [hg]; exact Nat.ne_of_gt (blk_lt (g := gb581) BKz) : gb583 ≠ gb581)); have n8_ := Aside0.mk ((by rw [hg]; exact Nat.ne_of_lt (blk_lt (g := gb582) BKz) : gb582 ≠ gb583)); have n9_ := Aside0.mk ((by rw [hg]; exact Nat.ne_of_gt (blk_lt (g := gb582) BKz) : gb583 ≠ gb582)); clear BK581; clear BK582; clear HB; have BK581 := n0_; have BK582 := n1_; have HB := n2_; have BK583 := n3_; have GW583 := n4_; have GE583 := n5_; have NB581_583 := n6_; have NB583_581 := n7_; have NB582_583 := n8_; have NB583_582 := n9_; clear n0_ n1_ n2_ n3_ n4_ n5_ n6_ n7_ n8_ n9_; clear hb hbox hg; have hnb9 := NB581_582.out; have hnc9 := NB582_581.out; have hnb10 := NB581_583.out; have hnc10 := NB583_581.out; have hcz11_0 : w8.cell? ⟨gb581, 0, none⟩ = some (.int .i64 a0_0) := (blk_cell BK581.out 0).trans rfl; have hcz11_1 : w8.cell? ⟨gb581, 1, none⟩ = some (.int .i64 a0_1) := (blk_cell BK581.out 1).trans rfl; have hcz11_2 : w8.cell? ⟨gb581, 2, none⟩ = some (.int .i64 a0_2) := (blk_cell BK581.out 2).trans rfl; have hcz11_3 : w8.cell? ⟨gb581, 3, none⟩ = some (.int .i64 a0_3) := (blk_cell BK581.out 3).trans rfl; have hfz11_0 := blk_frozen BK581.out 0; have hfz11_1 := blk_frozen BK581.out 1; have hfz11_2 := blk_frozen BK581.out 2; have hfz11_3 := blk_frozen BK581.out 3; have hnb12 := NB582_583.out; have hnc12 := NB583_582.out; have hcz13_0 : w8.cell? ⟨gb582, 0, none⟩ = some (.int .i64 a1_0) := (blk_cell BK582.out 0).trans rfl; have hcz13_1 : w8.cell? ⟨gb582, 1, none⟩ = some (.int .i64 a1_1) := (blk_cell BK582.out 1).trans rfl; have hfz13_0 := blk_frozen BK582.out 0; have hfz13_1 := blk_frozen BK582.out 1; have hcz14_0 : w8.cell? ⟨gb583, 0, none⟩ = some (.int .i64 a2_0) := (blk_cell BK583.out 0).trans rfl; have hcz14_1 : w8.cell? ⟨gb583, 1, none⟩ = some (.int .i64 a2_1) := (blk_cell BK583.out 1).trans rfl; have hfz14_0 := blk_frozen BK583.out 0; have hfz14_1 := blk_frozen BK583.out 1) | ((with_reducible refine gate_callee (f := 91) rfl ?_); refine goesL_ (some 10) rfl rfl Try.func91 (by kernel_rfl) rfl #[.agg #[.int .i64 a0_0, .int .i64 a0_1, .int .i64 a0_2, .int .i64 a0_3], .agg #[.int .i64 a1_0, .int .i64 a1_1], .agg #[.int .i64 a2_0, .int .i64 a2_1]] rfl (by (try simp only [List.map_toArray, List.map_cons, List.map_nil]); first | done | rfl | (simp only [List.length_drop, List.length_take]; rfl)) ?_; (with_reducible refine (tickingref01_cross.calls a0_0 a0_1 a0_2 a0_3 a1_0 a1_1 a2_0 a2_1 t584 _ A4.out).mono ?_); rintro e w15 ⟨rfl, hb⟩; refine ⟨_, rfl, ?_⟩; have n0_ := Aside0.mk (blk_below (g := gb581) BKz hb); have n1_ := Aside0.mk (blk_below (g := gb582) BKz hb); have n2_ := Aside0.mk (blk_below (g := gb583) BKz hb); have n3_ := Aside0.mk (below_step HBz hb); clear BK581; clear BK582; clear BK583; clear HB; have BK581 := n0_; have BK582 := n1_; have BK583 := n2_; have HB := n3_; clear n0_ n1_ n2_ n3_; (try clear hb); (try clear hb2); (try clear hk); (try clear hi); have hcz16_0 : w15.cell? ⟨gb582, 0, none⟩ = some (.int .i64 a1_0) := (blk_cell BK582.out 0).trans rfl; have hcz16_1 : w15.cell? ⟨gb582, 1, none⟩ = some (.int .i64 a1_1) := (blk_cell BK582.out 1).trans rfl; have hfz16_0 := blk_frozen BK582.out 0; have hfz16_1 := blk_frozen BK582.out 1; have hcz17_0 : w15.cell? ⟨gb581, 0, none⟩ = some (.int .i64 a0_0) := (blk_cell BK581.out 0).trans rfl; have hcz17_1 : w15.cell? ⟨gb581, 1, none⟩ = some (.int .i64 a0_1) := (blk_cell BK581.out 1).trans rfl; have hcz17_2 : w15.cell? ⟨gb581, 2, none⟩ = some (.int .i64 a0_2) := (blk_cell BK581.out 2).trans rfl; have hcz17_3 : w15.cell? ⟨gb581, 3, none⟩ = some (.int .i64 a0_3) := (blk_cell BK581.out 3).trans rfl; have hfz17_0 := blk_frozen BK581.out 0; have hfz17_1 := blk_frozen BK581.out 1; have hfz17_2 := blk_frozen BK581.out 2; have hfz17_3 := blk_frozen BK581.out 3; have hcz18_0 : w15.cell? ⟨gb583, 0, none⟩ = some (.int .i64 a2_0) := (blk_cell BK583.out 0).trans rfl; have hcz18_1 : w15.cell? ⟨gb583, 1, none⟩ = some (.int .i64 a2_1) := (blk_cell BK583.out 1).trans rfl; have hfz18_0 := blk_frozen BK583.out 0; have hfz18_1 := blk_frozen BK583.out 1))
  go_ret
  exact ⟨by first | rfl | (simp [errW_none, errW_some] <;> rfl) | (simp [*, errW_none, errW_some] <;> rfl), HBz⟩
 ·rw [if_neg c5] at H
  have c5b0 : (t584 == 0) = false := beq_eq_false_iff_ne.mpr c5
  have c5b1 : (t584 != 0) = true := bne_iff_ne.mpr c5
  obtain rfl := Option.some.inj H
  go_enter Try.func89, Try.ntmps89
  go_wp2_with (first | ((with_reducible refine gate_dst (N := 3) rfl ?_); refine bxE 3 #[.int .i64 a0_0, .int .i64 a0_1, .int .i64 a0_2, .int .i64 a0_3] 40 ?_; intro gb581 hg w19 hbox hb; have n0_ := Aside0.mk (below_step HBz hb); have n1_ := Aside0.mk (hbox); have n2_ := Aside0.mk ((by rw [hg]; exact (below_size HBz) : w.heap.size ≤ gb581)); have n3_ := Aside0.mk ((by rw [hg]; exact (below_size HBz) : w.heap.size ≤ gb581)); clear HB; have HB := n0_; have BK581 := n1_; have GW581 := n2_; have GE581 := n3_; clear n0_ n1_ n2_ n3_; clear hb hbox hg) | ((with_reducible refine gate_dst (N := 4) rfl ?_); refine bxE 4 #[.int .i64 a1_0, .int .i64 a1_1] 28 ?_; intro gb582 hg w20 hbox hb; have n0_ := Aside0.mk (blk_below (g := gb581) BKz hb); have n1_ := Aside0.mk (below_step HBz hb); have n2_ := Aside0.mk (hbox); have n3_ := Aside0.mk ((by rw [hg]; exact (below_size HBz) : w.heap.size ≤ gb582)); have n4_ := Aside0.mk ((by rw [hg]; exact (below_size HBz) : w.heap.size ≤ gb582)); have n5_ := Aside0.mk ((by rw [hg]; exact Nat.ne_of_lt (blk_lt (g := gb581) BKz) : gb581 ≠ gb582)); have n6_ := Aside0.mk ((by rw [hg]; exact Nat.ne_of_gt (blk_lt (g := gb581) BKz) : gb582 ≠ gb581)); clear BK581; clear HB; have BK581 := n0_; have HB := n1_; have BK582 := n2_; have GW582 := n3_; have GE582 := n4_; have NB581_582 := n5_; have NB582_581 := n6_; clear n0_ n1_ n2_ n3_ n4_ n5_ n6_; clear hb hbox hg) | ((with_reducible refine gate_dst (N := 5) rfl ?_); refine bxE 5 #[.int .i64 a2_0, .int .i64 a2_1] 28 ?_; intro gb583 hg w21 hbox hb; have n0_ := Aside0.mk (blk_below (g := gb581) BKz hb); have n1_ := Aside0.mk (blk_below (g := gb582) BKz hb); have n2_ := Aside0.mk (below_step HBz hb); have n3_ := Aside0.mk (hbox); have n4_ := Aside0.mk ((by rw [hg]; exact (below_size HBz) : w.heap.size ≤ gb583)); have n5_ := Aside0.mk ((by rw [hg]; exact (below_size HBz) : w.heap.size ≤ gb583)); have n6_ := Aside0.mk ((by rw [hg]; exact Nat.ne_of_lt (blk_lt (g := gb581) BKz) : gb581 ≠ gb583)); have n7_ := Aside0.mk ((by rw [hg]; exact Nat.ne_of_gt (blk_lt (g := gb581) BKz) : gb583 ≠ gb581)); have n8_ := Aside0.mk ((by rw [hg]; exact Nat.ne_of_lt (blk_lt (g := gb582) BKz) : gb582 ≠ gb583)); have n9_ := Aside0.mk ((by rw [hg]; exact Nat.ne_of_gt (blk_lt (g := gb582) BKz) : gb583 ≠ gb582)); clear BK581; clear BK582; clear HB; have BK581 := n0_; have BK582 := n1_; have HB := n2_; have BK583 := n3_; have GW583 := n4_; have GE583 := n5_; have NB581_583 := n6_; have NB583_581 := n7_; have NB582_583 := n8_; have NB583_582 := n9_; clear n0_ n1_ n2_ n3_ n4_ n5_ n6_ n7_ n8_ n9_; clear hb hbox hg; have hnb22 := NB581_582.out; have hnc22 := NB582_581.out; have hnb23 := NB581_583.out; have hnc23 := NB583_581.out; have hcz24_0 : w21.cell? ⟨gb581, 0, none⟩ = some (.int .i64 a0_0) := (blk_cell BK581.out 0).trans rfl; have hcz24_1 : w21.cell? ⟨gb581, 1, none⟩ = some (.int .i64 a0_1) := (blk_cell BK581.out 1).trans rfl; have hcz24_2 : w21.cell? ⟨gb581, 2, none⟩ = some (.int .i64 a0_2) := (blk_cell BK581.out 2).trans rfl; have hcz24_3 : w21.cell? ⟨gb581, 3, none⟩ = some (.int .i64 a0_3) := (blk_cell BK581.out 3).trans rfl; have hfz24_0 := blk_frozen BK581.out 0; have hfz24_1 := blk_frozen BK581.out 1; have hfz24_2 := blk_frozen BK581.out 2; have hfz24_3 := blk_frozen BK581.out 3; have hnb25 := NB582_583.out; have hnc25 := NB583_582.out; have hcz26_0 : w21.cell? ⟨gb582, 0, none⟩ = some (.int .i64 a1_0) := (blk_cell BK582.out 0).trans rfl; have hcz26_1 : w21.cell? ⟨gb582, 1, none⟩ = some (.int .i64 a1_1) := (blk_cell BK582.out 1).trans rfl; have hfz26_0 := blk_frozen BK582.out 0; have hfz26_1 := blk_frozen BK582.out 1; have hcz27_0 : w21.cell? ⟨gb583, 0, none⟩ = some (.int .i64 a2_0) := (blk_cell BK583.out 0).trans rfl; have hcz27_1 : w21.cell? ⟨gb583, 1, none⟩ = some (.int .i64 a2_1) := (blk_cell BK583.out 1).trans rfl; have hfz27_0 := blk_frozen BK583.out 0; have hfz27_1 := blk_frozen BK583.out 1) | ((with_reducible refine gate_callee (f := 91) rfl ?_); refine goesL_ (some 10) rfl rfl Try.func91 (by kernel_rfl) rfl #[.agg #[.int .i64 a0_0, .int .i64 a0_1, .int .i64 a0_2, .int .i64 a0_3], .agg #[.int .i64 a1_0, .int .i64 a1_1], .agg #[.int .i64 a2_0, .int .i64 a2_1]] rfl (by (try simp only [List.map_toArray, List.map_cons, List.map_nil]); first | done | rfl | (simp only [List.length_drop, List.length_take]; rfl)) ?_; (with_reducible refine (tickingref01_cross.calls a0_0 a0_1 a0_2 a0_3 a1_0 a1_1 a2_0 a2_1 t584 _ A4.out).mono ?_); rintro e w28 ⟨rfl, hb⟩; refine ⟨_, rfl, ?_⟩; have n0_ := Aside0.mk (blk_below (g := gb581) BKz hb); have n1_ := Aside0.mk (blk_below (g := gb582) BKz hb); have n2_ := Aside0.mk (blk_below (g := gb583) BKz hb); have n3_ := Aside0.mk (below_step HBz hb); clear BK581; clear BK582; clear BK583; clear HB; have BK581 := n0_; have BK582 := n1_; have BK583 := n2_; have HB := n3_; clear n0_ n1_ n2_ n3_; (try clear hb); (try clear hb2); (try clear hk); (try clear hi)))
  go_ret
  exact ⟨by first | rfl | (simp [errW_none, errW_some] <;> rfl) | (simp [*, errW_none, errW_some] <;> rfl), HBz⟩
def tickingref01_sign.f (a0 : Int) : Option (Int) := if a0 > 0 then (some 1) else (if a0 < 0 then (some (-1)) else (some 0))
set_option maxHeartbeats 8000000 in
set_option maxRecDepth 100000 in
theorem tickingref01_sign.calls (a0 : Int) (r : Int) (w : World) (h : tickingref01_sign.f a0 = some r) :
  Calls Try.prog 90 #[.int .i64 a0] w fun e w' => e = .returned (.int .i64 r) ∧ Drawn0 w w' := by
 have H : (if a0 > 0 then (some 1) else (if a0 < 0 then (some (-1)) else (some 0))) = some r := h
 clear h
 by_cases c2 : a0 > 0
 ·rw [if_pos c2] at H
  have c2b0 : decide (0 < a0) = true := decide_eq_true c2
  clear c2
  obtain rfl := Option.some.inj H
  go_enter Try.func90, Try.ntmps90
  go_wp2
  go_ret
  exact ⟨by first | rfl | (simp; done) | (simp [*]; done), by repeat (first | exact Drawn0.refl _ | apply Drawn0.step)⟩
 ·rw [if_neg c2] at H
  have c2b0 : decide (0 < a0) = false := decide_eq_false c2
  clear c2
  by_cases c3 : a0 < 0
  ·rw [if_pos c3] at H
   have c3b0 : decide (a0 < 0) = true := decide_eq_true c3
   clear c3
   obtain rfl := Option.some.inj H
   go_enter Try.func90, Try.ntmps90
   go_wp2
   go_ret
   exact ⟨by first | rfl | (simp; done) | (simp [*]; done), by repeat (first | exact Drawn0.refl _ | apply Drawn0.step)⟩
  ·rw [if_neg c3] at H
   have c3b0 : decide (a0 < 0) = false := decide_eq_false c3
   clear c3
   obtain rfl := Option.some.inj H
   go_enter Try.func90, Try.ntmps90
   go_wp2
   go_ret
   exact ⟨by first | rfl | (simp; done) | (simp [*]; done), by repeat (first | exact Drawn0.refl _ | apply Drawn0.step)⟩
end Go.Proofs.Ytplhfbkejngioaa.X
namespace Go.Proofs.Ytplhfbkejngioaa.X
open Go.RowKit Go.Proofs.YtplhfbkejngioaaW.PrintWords Go.Proofs.YtplhfbkejngioaaW.PrintLast Go.Proofs.Ytplhfbkejngioaa.S Go.Proofs.Ytplhfbkejngioaa.Geo
set_option linter.unusedVariables false
abbrev BalC (c : Ci) (l1 l2 l3 : Int) (p q r : S28) : Prop := Bal l1 l2 l3 c.X c.Y c.D p.f0 p.f1 q.f0 q.f1 r.f0 r.f1
structure Red (c c' : Ci) (g : Int) : Prop where
 g0 : g ≠ 0
 X : c.X = g * c'.X
 Y : c.Y = g * c'.Y
 D : c.D = g * c'.D
 R : c.R = g * g * c'.R
 pos : 0 < c'.D
 one : gcd3 c' = 1
theorem Red.far {c c' : Ci} {g : Int} (h : Red c c' g) (p : S28) : farC c p = g * g * farC c' p := by
 unfold farC; rw [h.X, h.Y, h.D]; grind
theorem Red.gg {c c' : Ci} {g : Int} (h : Red c c' g) : 0 < g * g := sq_pos h.g0
theorem Red.on {c c' : Ci} {g : Int} (h : Red c c' g) {p : S28} (hp : farC c p = c.R) : farC c' p = c'.R := by
 have := h.far p
 rw [hp, h.R] at this
 exact (Int.eq_of_mul_eq_mul_left (Int.ne_of_gt h.gg) this).symm
theorem Red.le {c c' : Ci} {g : Int} (h : Red c c' g) {p : S28} (hp : farC c p ≤ c.R) : farC c' p ≤ c'.R := by
 rw [h.far p, h.R] at hp
 exact Int.le_of_mul_le_mul_left hp h.gg
end Go.Proofs.Ytplhfbkejngioaa.X
namespace Go.Proofs.Ytplhfbkejngioaa.X
open Go.RowKit Go.Proofs.YtplhfbkejngioaaW.PrintWords Go.Proofs.YtplhfbkejngioaaW.PrintLast Go.Proofs.Ytplhfbkejngioaa.S Go.Proofs.Ytplhfbkejngioaa.Geo
set_option linter.unusedVariables false
theorem crs_swap (c : Ci) (p q : S28) : crsC c q p = -crsC c p q := by unfold crsC; grind
structure Sup (c : Ci) (p q r : S28) : Prop where
 pos : 0 < c.D
 one : gcd3 c = 1
 fp : farC c p = c.R
 fq : farC c q = c.R
 fr : farC c r = c.R
 bal : ∃ l1 l2 l3, BalC c l1 l2 l3 p q r
end Go.Proofs.Ytplhfbkejngioaa.X
namespace Go.Proofs.Ytplhfbkejngioaa.X
open Go.RowKit Go.Proofs.YtplhfbkejngioaaW.PrintWords Go.Proofs.YtplhfbkejngioaaW.PrintLast Go.Proofs.Ytplhfbkejngioaa.S Go.Proofs.Ytplhfbkejngioaa.Geo
set_option linter.unusedVariables false
structure Best (l : List S28) (c : Ci) : Prop where
 enc : ∀ p ∈ l, farC c p ≤ c.R
 sup : ∃ p q r, p ∈ l ∧ q ∈ l ∧ r ∈ l ∧ Sup c p q r
theorem Best.pos {l : List S28} {c : Ci} (h : Best l c) : 0 < c.D := by obtain ⟨_, _, _, _, _, _, S⟩ := h.sup; exact S.pos
theorem Best.one {l : List S28} {c : Ci} (h : Best l c) : gcd3 c = 1 := by obtain ⟨_, _, _, _, _, _, S⟩ := h.sup; exact S.one
theorem Best.le {l : List S28} {c c' : Ci} (h : Best l c) (h' : ∀ p ∈ l, farC c' p ≤ c'.R) :
  c'.D * c'.D * c.R + ((c.D * c'.X - c'.D * c.X) * (c.D * c'.X - c'.D * c.X) + (c.D * c'.Y - c'.D * c.Y) * (c.D * c'.Y - c'.D * c.Y)) ≤ c.D * c.D * c'.R := by
 obtain ⟨p, q, r, hp, hq, hr, S⟩ := h.sup
 obtain ⟨l1, l2, l3, b⟩ := S.bal
 exact least b S.fp S.fq S.fr (h' p hp) (h' q hq) (h' r hr)
end Go.Proofs.Ytplhfbkejngioaa.X
