/- Texts of this claim's session, put together: X16, Exist, Exist2, Exist3, X20, X8, KeepS, X11. -/
import Derived.Test.YtplhfbkejngioaaBc0
import Derived.Test.YtplhfbkejngioaaBc4
import Derived.Test.YtplhfbkejngioaaBc5
import Derived.Test.YtplhfbkejngioaaLe0
import Derived.Test.YtplhfbkejngioaaVWords
import Derived.Test.YtplhfbkejngioaaVLast
import Derived.Test.YtplhfbkejngioaaVTab
import Derived.Test.YtplhfbkejngioaaVRepsOne
namespace Go.Proofs.Ytplhfbkejngioaa.X
open Go.RowKit Go.Proofs.YtplhfbkejngioaaW.PrintWords Go.Proofs.YtplhfbkejngioaaW.PrintLast Go.Proofs.Ytplhfbkejngioaa.S
attribute [local go_sem] max2_int min2_int max_two min_two
set_option linter.unusedVariables false
set_option linter.unusedSimpArgs false
def tickingref01_gcd.l0 : Nat → Int → Int → Option (Int)
 | 0, _, _ => none
 | k + 1, x0, x1 => if x1 > 0 then (if x1 = 0 then (none) else (tickingref01_gcd.l0 k x1 (Int.tmod x0 x1))) else (some x0)
def tickingref01_gcd.f (k : Nat) (a0 : Int) (a1 : Int) : Option (Int) := tickingref01_gcd.l0 k a0 a1
theorem tickingref01_gcd.mono_l : ∀ k, (∀ y0 y1, LeO (tickingref01_gcd.l0 k y0 y1) (tickingref01_gcd.l0 (k + 1) y0 y1))
 | 0 => fun _ _ r h => by simp [tickingref01_gcd.l0] at h
 | k + 1 => by
  have ih0 := tickingref01_gcd.mono_l k
  ·intro y0 y1
   unfold tickingref01_gcd.l0
   repeat' first
   | (with_reducible exact ih0 _ _)
   | (with_reducible exact LeO.refl _)
   | (with_reducible exact LeO.none _)
   | (with_reducible refine LeO.ite ?_ ?_)
   | (with_reducible refine LeO.bind ?_ (fun _ => ?_))
   | exact ih0 _ _
   | exact LeO.none _
   | refine LeO.ite ?_ ?_
   | refine LeO.bind ?_ (fun _ => ?_)
theorem tickingref01_gcd.mono : ∀ a0 a1 k, LeO (tickingref01_gcd.f k a0 a1) (tickingref01_gcd.f (k + 1) a0 a1) := by
 intro a0 a1 k
 have ih0 := tickingref01_gcd.mono_l k
 unfold tickingref01_gcd.f
 repeat' first
   | (with_reducible exact ih0 _ _)
   | (with_reducible exact LeO.refl _)
   | (with_reducible exact LeO.none _)
   | (with_reducible refine LeO.ite ?_ ?_)
   | (with_reducible refine LeO.bind ?_ (fun _ => ?_))
   | exact ih0 _ _
   | exact LeO.none _
   | refine LeO.ite ?_ ?_
   | refine LeO.bind ?_ (fun _ => ?_)
set_option maxHeartbeats 8000000 in
set_option maxRecDepth 100000 in
theorem tickingref01_gcd.calls (k : Nat) (a0 : Int) (a1 : Int) (r : Int) (w : World) (h : tickingref01_gcd.f k a0 a1 = some r) :
  Calls Try.prog 55 #[.int .i64 a0, .int .i64 a1] w fun e w' => e = .returned (.int .i64 r) ∧ Drawn0 w w' := by
 have H : (tickingref01_gcd.l0 k a0 a1) = some r := h
 clear h
 have H' := Aside0.mk H
 clear H
 go_enter Try.func55, Try.ntmps55
 go_wp2
 go_loopg [0, 1] k (fun kq v0 v1 w' => ∃ (x0_1 : Int) (x1_1 : Int), v0 = .int .i64 x0_1 ∧ v1 = .int .i64 x1_1 ∧ Aside0 (tickingref01_gcd.l0 kq x0_1 x1_1 = some r) ∧ Aside0 (kq ≤ k) ∧ Drawn0 w w')
 case atStart => exact ⟨(a0), (a1), (by first | rfl | (simp; done) | (simp [*]; done)), (by first | rfl | (simp; done) | (simp [*]; done)), H', ⟨Nat.le_refl _⟩, by repeat (first | exact Drawn0.refl _ | apply Drawn0.step)⟩
 case round =>
  clear H'
  try clear p2
  obtain ⟨x0_1, x1_1, rfl, rfl, HA, HK1, ⟨m1, rfl⟩⟩ := hrel
  cases gk with
  | zero => exact absurd HA.out (by simp [tickingref01_gcd.l0])
  | succ k1 =>
   have H := HA.out
   clear HA
   simp only [tickingref01_gcd.l0] at H
   by_cases c3 : x1_1 > 0
   ·rw [if_pos c3] at H
    have c3b0 : decide (0 < x1_1) = true := decide_eq_true c3
    clear c3
    by_cases c4 : x1_1 = 0
    ·rw [if_pos c4] at H
     exact absurd H (by simp)
    ·rw [if_neg c4] at H
     have c4b0 : (x1_1 == 0) = false := beq_eq_false_iff_ne.mpr c4
     have c4b1 : (x1_1 != 0) = true := bne_iff_ne.mpr c4
     have H' := Aside0.mk H
     clear H
     go_wp2
     go_roundg k1
     case measure => have := HK1.out; omega
     case rel => exact ⟨(x1_1), (Int.tmod x0_1 x1_1), (by first | rfl | (simp; done) | (simp [*]; done)), (by first | rfl | (simp; done) | (simp [*]; done)), H', ⟨by have := HK1.out; omega⟩, by repeat (first | exact Drawn0.refl _ | apply Drawn0.step)⟩
   ·rw [if_neg c3] at H
    have c3b0 : decide (0 < x1_1) = false := decide_eq_false c3
    clear c3
    obtain rfl := Option.some.inj H
    go_wp2
    go_ret
    exact ⟨by first | rfl | (simp; done) | (simp [*]; done), by repeat (first | exact Drawn0.refl _ | apply Drawn0.step)⟩
def tickingref01_absolute.f (a0 : Int) : Option (Int) := some (mx a0 (wrap64 (-a0)))
set_option maxHeartbeats 8000000 in
set_option maxRecDepth 100000 in
theorem tickingref01_absolute.calls (a0 : Int) (r : Int) (w : World) (h : tickingref01_absolute.f a0 = some r) :
  Calls Try.prog 56 #[.int .i64 a0] w fun e w' => e = .returned (.int .i64 r) ∧ Below w.heap.size w w' := by
 have HB := Aside0.mk (Below.refl w.heap.size w)
 have H : (some (mx a0 (wrap64 (-a0)))) = some r := h
 clear h
 obtain ⟨ji2, hji2⟩ : ∃ j_ : Int, (mx a0 (wrap64 (-a0))) = j_ := ⟨_, rfl⟩
 replace H : (some ji2) = some r := by first | (rw [hji2] at H; exact H) | (simp only [hji2] at H ⊢; exact H)
 have hji2_ : (if a0 < (wrap64 (-a0)) then (wrap64 (-a0)) else a0) = ji2 := hji2
 obtain rfl := Option.some.inj H
 go_enter Try.func56, Try.ntmps56
 go_wp2
 go_ret
 exact ⟨by first | rfl | (simp [errW_none, errW_some] <;> rfl) | (simp only [← hji2]; first | rfl | (simp [errW_none, errW_some] <;> rfl)) | (simp [*, errW_none, errW_some] <;> rfl), HBz⟩
def tickingref01_Valid.j0 : Nat → Bool → Int → Int → Int → Int → Option (Bool)
 | 0, _, _, _, _, _ => none
 | k + 1, x40, x355000, x355001, x355002, x355003 => if x40 = true then (some false) else ((tickingref01_absolute.f x355000).bind fun t355 => ((tickingref01_absolute.f x355001).bind fun t356 => ((tickingref01_gcd.f k t355 t356).bind fun t357 => ((tickingref01_gcd.f k t357 x355002).bind fun t358 => (some (t358 == 1))))))
def tickingref01_Valid.f (k : Nat) (a0_0 : Int) (a0_1 : Int) (a0_2 : Int) (a0_3 : Int) : Option (Bool) := if a0_2 < 1 then (tickingref01_Valid.j0 k true a0_0 a0_1 a0_2 a0_3) else (if a0_2 > 1048576 then (tickingref01_Valid.j0 k true a0_0 a0_1 a0_2 a0_3) else (if a0_0 < (-536870912) then (tickingref01_Valid.j0 k true a0_0 a0_1 a0_2 a0_3) else (if a0_0 > 536870912 then (tickingref01_Valid.j0 k true a0_0 a0_1 a0_2 a0_3) else (if a0_1 < (-536870912) then (tickingref01_Valid.j0 k true a0_0 a0_1 a0_2 a0_3) else (if a0_1 > 536870912 then (tickingref01_Valid.j0 k true a0_0 a0_1 a0_2 a0_3) else (if a0_3 < 0 then (tickingref01_Valid.j0 k true a0_0 a0_1 a0_2 a0_3) else (tickingref01_Valid.j0 k (decide (a0_3 > 1152921504606846976)) a0_0 a0_1 a0_2 a0_3)))))))
theorem tickingref01_Valid.mono_l : ∀ k, (∀ y0 y1 y2 y3 y4, LeO (tickingref01_Valid.j0 k y0 y1 y2 y3 y4) (tickingref01_Valid.j0 (k + 1) y0 y1 y2 y3 y4))
 | 0 => fun _ _ _ _ _ r h => by simp [tickingref01_Valid.j0] at h
 | k + 1 => by
  have ih0 := tickingref01_Valid.mono_l k
  ·intro y0 y1 y2 y3 y4
   unfold tickingref01_Valid.j0
   repeat' first
   | (with_reducible exact ih0 _ _ _ _ _)
   | (with_reducible exact tickingref01_gcd.mono _ _ _)
   | (with_reducible exact LeO.refl _)
   | (with_reducible exact LeO.none _)
   | (with_reducible refine LeO.ite ?_ ?_)
   | (with_reducible refine LeO.bind ?_ (fun _ => ?_))
   | exact ih0 _ _ _ _ _
   | exact tickingref01_gcd.mono _ _ _
   | exact LeO.none _
   | refine LeO.ite ?_ ?_
   | refine LeO.bind ?_ (fun _ => ?_)
theorem tickingref01_Valid.mono : ∀ a0 a1 a2 a3 k, LeO (tickingref01_Valid.f k a0 a1 a2 a3) (tickingref01_Valid.f (k + 1) a0 a1 a2 a3) := by
 intro a0 a1 a2 a3 k
 have ih0 := tickingref01_Valid.mono_l k
 unfold tickingref01_Valid.f
 repeat' first
   | (with_reducible exact ih0 _ _ _ _ _)
   | (with_reducible exact tickingref01_gcd.mono _ _ _)
   | (with_reducible exact LeO.refl _)
   | (with_reducible exact LeO.none _)
   | (with_reducible refine LeO.ite ?_ ?_)
   | (with_reducible refine LeO.bind ?_ (fun _ => ?_))
   | exact ih0 _ _ _ _ _
   | exact tickingref01_gcd.mono _ _ _
   | exact LeO.none _
   | refine LeO.ite ?_ ?_
   | refine LeO.bind ?_ (fun _ => ?_)
def tickingref01_Valid.T3 : Bool × List (List Nat × List Nat) := (true, [([], []), ([0], [0]), ([1], [1]), ([], []), ([3], [3]), ([4, 2], [4]), ([2, 5, 5], [2, 5]), ([], []), ([7], [7]), ([6, 8, 6], [6, 8]), ([9], [9]), ([10, 9, 0, 1, 2, 3, 4, 5, 6, 7, 8, 9, 10], [10])])
def tickingref01_Valid.B3 : List Nat := [0, 1, 3, 0, 8, 31, 63, 0, 128, 511, 1023, 2047]
theorem tickingref01_Valid.tab3 : rtab .any (opsOf Try.f27 3) = tickingref01_Valid.T3 := by kernel_rfl
theorem tickingref01_Valid.bits3 : waitsOk tickingref01_Valid.T3.2 tickingref01_Valid.B3 = true := by kernel_rfl
set_option maxHeartbeats 8000000 in
set_option maxRecDepth 100000 in
theorem tickingref01_Valid.calls (k : Nat) (a0_0 : Int) (a0_1 : Int) (a0_2 : Int) (a0_3 : Int) (r : Bool) (w : World) (h : tickingref01_Valid.f k a0_0 a0_1 a0_2 a0_3 = some r) :
  Calls Try.prog 27 #[.agg #[.int .i64 a0_0, .int .i64 a0_1, .int .i64 a0_2, .int .i64 a0_3]] w fun e w' => e = .returned (.bool r) ∧ Below w.heap.size w w' := by
 have hu40 := Try.underlying40
 have HB := Aside0.mk (Below.refl w.heap.size w)
 have H : (if a0_2 < 1 then (tickingref01_Valid.j0 k true a0_0 a0_1 a0_2 a0_3) else (if a0_2 > 1048576 then (tickingref01_Valid.j0 k true a0_0 a0_1 a0_2 a0_3) else (if a0_0 < (-536870912) then (tickingref01_Valid.j0 k true a0_0 a0_1 a0_2 a0_3) else (if a0_0 > 536870912 then (tickingref01_Valid.j0 k true a0_0 a0_1 a0_2 a0_3) else (if a0_1 < (-536870912) then (tickingref01_Valid.j0 k true a0_0 a0_1 a0_2 a0_3) else (if a0_1 > 536870912 then (tickingref01_Valid.j0 k true a0_0 a0_1 a0_2 a0_3) else (if a0_3 < 0 then (tickingref01_Valid.j0 k true a0_0 a0_1 a0_2 a0_3) else (tickingref01_Valid.j0 k (decide (a0_3 > 1152921504606846976)) a0_0 a0_1 a0_2 a0_3)))))))) = some r := h
 clear h
 have HC2 := Aside0.mk H
 clear H
 go_enter Try.func27, Try.ntmps27
 go_upto_region 1 with (first | ((with_reducible refine gate_dst (N := 1) rfl ?_); refine bxE 1 #[.int .i64 a0_0, .int .i64 a0_1, .int .i64 a0_2, .int .i64 a0_3] 40 ?_; intro gb354 hg w3 hbox hb; have n0_ := Aside0.mk (below_step HBz hb); have n1_ := Aside0.mk (hbox); have n2_ := Aside0.mk ((by rw [hg]; exact (below_size HBz) : w.heap.size ≤ gb354)); have n3_ := Aside0.mk ((by rw [hg]; exact (below_size HBz) : w.heap.size ≤ gb354)); clear HB; have HB := n0_; have BK354 := n1_; have GW354 := n2_; have GE354 := n3_; clear n0_ n1_ n2_ n3_; clear hb hbox hg))
 (try simp only [Act.put, List.setIfInBounds_toArray, List.set_cons_zero, List.set_cons_succ])
 go_cut [40] (fun v40 wc => ∃ (kq : Nat) (x40_1 : Bool), v40 = .bool x40_1 ∧ Aside0 (tickingref01_Valid.j0 kq x40_1 a0_0 a0_1 a0_2 a0_3 = some r) ∧ Aside0 (kq ≤ k) ∧ Aside0 (wc.heap[gb354]? = some (.cells #[.int .i64 a0_0, .int .i64 a0_1, .int .i64 a0_2, .int .i64 a0_3] 40 (0, 0))) ∧ Aside0 (Below w.heap.size w wc))
 case first =>
  have H := HC2.out
  clear HC2
  by_cases c4 : a0_2 < 1
  ·rw [if_pos c4] at H
   have c4b0 : decide (a0_2 < 1) = true := decide_eq_true c4
   clear c4
   (first | rw [c4b0] | (simp only [i64_w, i32_w]; rw [c4b0]) | skip)
   have H' := Aside0.mk H
   clear H
   have hcz5_0 : w3.cell? ⟨gb354, 0, none⟩ = some (.int .i64 a0_0) := (blk_cell BK354.out 0).trans rfl
   have hcz5_1 : w3.cell? ⟨gb354, 1, none⟩ = some (.int .i64 a0_1) := (blk_cell BK354.out 1).trans rfl
   have hcz5_2 : w3.cell? ⟨gb354, 2, none⟩ = some (.int .i64 a0_2) := (blk_cell BK354.out 2).trans rfl
   have hcz5_3 : w3.cell? ⟨gb354, 3, none⟩ = some (.int .i64 a0_3) := (blk_cell BK354.out 3).trans rfl
   have hfz5_0 := blk_frozen BK354.out 0
   have hfz5_1 := blk_frozen BK354.out 1
   have hfz5_2 := blk_frozen BK354.out 2
   have hfz5_3 := blk_frozen BK354.out 3
   go_wp2
   go_meet
   case rel => exact ⟨_, (true), (by first | rfl | (simp; done) | (simp [*]; done)), H', ⟨by first | omega | exact Nat.le_refl _⟩, ⟨by (with_reducible repeat (first | refine blk_drewN ?_ _ | refine blk_drew ?_ | refine blk_alloc ?_ _)); exact BK354.out⟩, ⟨HBz⟩⟩
  ·rw [if_neg c4] at H
   have c4b0 : decide (a0_2 < 1) = false := decide_eq_false c4
   clear c4
   (first | rw [c4b0] | (simp only [i64_w, i32_w]; rw [c4b0]) | skip)
   by_cases c6 : a0_2 > 1048576
   ·rw [if_pos c6] at H
    have c6b0 : decide (1048576 < a0_2) = true := decide_eq_true c6
    clear c6
    have H' := Aside0.mk H
    clear H
    have hcz7_0 : w3.cell? ⟨gb354, 0, none⟩ = some (.int .i64 a0_0) := (blk_cell BK354.out 0).trans rfl
    have hcz7_1 : w3.cell? ⟨gb354, 1, none⟩ = some (.int .i64 a0_1) := (blk_cell BK354.out 1).trans rfl
    have hcz7_2 : w3.cell? ⟨gb354, 2, none⟩ = some (.int .i64 a0_2) := (blk_cell BK354.out 2).trans rfl
    have hcz7_3 : w3.cell? ⟨gb354, 3, none⟩ = some (.int .i64 a0_3) := (blk_cell BK354.out 3).trans rfl
    have hfz7_0 := blk_frozen BK354.out 0
    have hfz7_1 := blk_frozen BK354.out 1
    have hfz7_2 := blk_frozen BK354.out 2
    have hfz7_3 := blk_frozen BK354.out 3
    go_wp2
    go_meet
    case rel => exact ⟨_, (true), (by first | rfl | (simp; done) | (simp [*]; done)), H', ⟨by first | omega | exact Nat.le_refl _⟩, ⟨by (with_reducible repeat (first | refine blk_drewN ?_ _ | refine blk_drew ?_ | refine blk_alloc ?_ _)); exact BK354.out⟩, ⟨HBz⟩⟩
   ·rw [if_neg c6] at H
    have c6b0 : decide (1048576 < a0_2) = false := decide_eq_false c6
    clear c6
    by_cases c8 : a0_0 < (-536870912)
    ·rw [if_pos c8] at H
     have c8b0 : decide (a0_0 < (-536870912)) = true := decide_eq_true c8
     clear c8
     have H' := Aside0.mk H
     clear H
     have hcz9_0 : w3.cell? ⟨gb354, 0, none⟩ = some (.int .i64 a0_0) := (blk_cell BK354.out 0).trans rfl
     have hcz9_1 : w3.cell? ⟨gb354, 1, none⟩ = some (.int .i64 a0_1) := (blk_cell BK354.out 1).trans rfl
     have hcz9_2 : w3.cell? ⟨gb354, 2, none⟩ = some (.int .i64 a0_2) := (blk_cell BK354.out 2).trans rfl
     have hcz9_3 : w3.cell? ⟨gb354, 3, none⟩ = some (.int .i64 a0_3) := (blk_cell BK354.out 3).trans rfl
     have hfz9_0 := blk_frozen BK354.out 0
     have hfz9_1 := blk_frozen BK354.out 1
     have hfz9_2 := blk_frozen BK354.out 2
     have hfz9_3 := blk_frozen BK354.out 3
     go_wp2
     go_meet
     case rel => exact ⟨_, (true), (by first | rfl | (simp; done) | (simp [*]; done)), H', ⟨by first | omega | exact Nat.le_refl _⟩, ⟨by (with_reducible repeat (first | refine blk_drewN ?_ _ | refine blk_drew ?_ | refine blk_alloc ?_ _)); exact BK354.out⟩, ⟨HBz⟩⟩
    ·rw [if_neg c8] at H
     have c8b0 : decide (a0_0 < (-536870912)) = false := decide_eq_false c8
     clear c8
     by_cases c10 : a0_0 > 536870912
     ·rw [if_pos c10] at H
      have c10b0 : decide (536870912 < a0_0) = true := decide_eq_true c10
      clear c10
      have H' := Aside0.mk H
      clear H
      have hcz11_0 : w3.cell? ⟨gb354, 0, none⟩ = some (.int .i64 a0_0) := (blk_cell BK354.out 0).trans rfl
      have hcz11_1 : w3.cell? ⟨gb354, 1, none⟩ = some (.int .i64 a0_1) := (blk_cell BK354.out 1).trans rfl
      have hcz11_2 : w3.cell? ⟨gb354, 2, none⟩ = some (.int .i64 a0_2) := (blk_cell BK354.out 2).trans rfl
      have hcz11_3 : w3.cell? ⟨gb354, 3, none⟩ = some (.int .i64 a0_3) := (blk_cell BK354.out 3).trans rfl
      have hfz11_0 := blk_frozen BK354.out 0
      have hfz11_1 := blk_frozen BK354.out 1
      have hfz11_2 := blk_frozen BK354.out 2
      have hfz11_3 := blk_frozen BK354.out 3
      go_wp2
      go_meet
      case rel => exact ⟨_, (true), (by first | rfl | (simp; done) | (simp [*]; done)), H', ⟨by first | omega | exact Nat.le_refl _⟩, ⟨by (with_reducible repeat (first | refine blk_drewN ?_ _ | refine blk_drew ?_ | refine blk_alloc ?_ _)); exact BK354.out⟩, ⟨HBz⟩⟩
     ·rw [if_neg c10] at H
      have c10b0 : decide (536870912 < a0_0) = false := decide_eq_false c10
      clear c10
      by_cases c12 : a0_1 < (-536870912)
      ·rw [if_pos c12] at H
       have c12b0 : decide (a0_1 < (-536870912)) = true := decide_eq_true c12
       clear c12
       have H' := Aside0.mk H
       clear H
       have hcz13_0 : w3.cell? ⟨gb354, 0, none⟩ = some (.int .i64 a0_0) := (blk_cell BK354.out 0).trans rfl
       have hcz13_1 : w3.cell? ⟨gb354, 1, none⟩ = some (.int .i64 a0_1) := (blk_cell BK354.out 1).trans rfl
       have hcz13_2 : w3.cell? ⟨gb354, 2, none⟩ = some (.int .i64 a0_2) := (blk_cell BK354.out 2).trans rfl
       have hcz13_3 : w3.cell? ⟨gb354, 3, none⟩ = some (.int .i64 a0_3) := (blk_cell BK354.out 3).trans rfl
       have hfz13_0 := blk_frozen BK354.out 0
       have hfz13_1 := blk_frozen BK354.out 1
       have hfz13_2 := blk_frozen BK354.out 2
       have hfz13_3 := blk_frozen BK354.out 3
       go_wp2
       go_meet
       case rel => exact ⟨_, (true), (by first | rfl | (simp; done) | (simp [*]; done)), H', ⟨by first | omega | exact Nat.le_refl _⟩, ⟨by (with_reducible repeat (first | refine blk_drewN ?_ _ | refine blk_drew ?_ | refine blk_alloc ?_ _)); exact BK354.out⟩, ⟨HBz⟩⟩
      ·rw [if_neg c12] at H
       have c12b0 : decide (a0_1 < (-536870912)) = false := decide_eq_false c12
       clear c12
       by_cases c14 : a0_1 > 536870912
       ·rw [if_pos c14] at H
        have c14b0 : decide (536870912 < a0_1) = true := decide_eq_true c14
        clear c14
        have H' := Aside0.mk H
        clear H
        have hcz15_0 : w3.cell? ⟨gb354, 0, none⟩ = some (.int .i64 a0_0) := (blk_cell BK354.out 0).trans rfl
        have hcz15_1 : w3.cell? ⟨gb354, 1, none⟩ = some (.int .i64 a0_1) := (blk_cell BK354.out 1).trans rfl
        have hcz15_2 : w3.cell? ⟨gb354, 2, none⟩ = some (.int .i64 a0_2) := (blk_cell BK354.out 2).trans rfl
        have hcz15_3 : w3.cell? ⟨gb354, 3, none⟩ = some (.int .i64 a0_3) := (blk_cell BK354.out 3).trans rfl
        have hfz15_0 := blk_frozen BK354.out 0
        have hfz15_1 := blk_frozen BK354.out 1
        have hfz15_2 := blk_frozen BK354.out 2
        have hfz15_3 := blk_frozen BK354.out 3
        go_wp2
        go_meet
        case rel => exact ⟨_, (true), (by first | rfl | (simp; done) | (simp [*]; done)), H', ⟨by first | omega | exact Nat.le_refl _⟩, ⟨by (with_reducible repeat (first | refine blk_drewN ?_ _ | refine blk_drew ?_ | refine blk_alloc ?_ _)); exact BK354.out⟩, ⟨HBz⟩⟩
       ·rw [if_neg c14] at H
        have c14b0 : decide (536870912 < a0_1) = false := decide_eq_false c14
        clear c14
        by_cases c16 : a0_3 < 0
        ·rw [if_pos c16] at H
         have c16b0 : decide (a0_3 < 0) = true := decide_eq_true c16
         clear c16
         have H' := Aside0.mk H
         clear H
         have hcz17_0 : w3.cell? ⟨gb354, 0, none⟩ = some (.int .i64 a0_0) := (blk_cell BK354.out 0).trans rfl
         have hcz17_1 : w3.cell? ⟨gb354, 1, none⟩ = some (.int .i64 a0_1) := (blk_cell BK354.out 1).trans rfl
         have hcz17_2 : w3.cell? ⟨gb354, 2, none⟩ = some (.int .i64 a0_2) := (blk_cell BK354.out 2).trans rfl
         have hcz17_3 : w3.cell? ⟨gb354, 3, none⟩ = some (.int .i64 a0_3) := (blk_cell BK354.out 3).trans rfl
         have hfz17_0 := blk_frozen BK354.out 0
         have hfz17_1 := blk_frozen BK354.out 1
         have hfz17_2 := blk_frozen BK354.out 2
         have hfz17_3 := blk_frozen BK354.out 3
         go_wp2
         go_meet
         case rel => exact ⟨_, (true), (by first | rfl | (simp; done) | (simp [*]; done)), H', ⟨by first | omega | exact Nat.le_refl _⟩, ⟨by (with_reducible repeat (first | refine blk_drewN ?_ _ | refine blk_drew ?_ | refine blk_alloc ?_ _)); exact BK354.out⟩, ⟨HBz⟩⟩
        ·rw [if_neg c16] at H
         have c16b0 : decide (a0_3 < 0) = false := decide_eq_false c16
         clear c16
         have H' := Aside0.mk H
         clear H
         have hcz18_0 : w3.cell? ⟨gb354, 0, none⟩ = some (.int .i64 a0_0) := (blk_cell BK354.out 0).trans rfl
         have hcz18_1 : w3.cell? ⟨gb354, 1, none⟩ = some (.int .i64 a0_1) := (blk_cell BK354.out 1).trans rfl
         have hcz18_2 : w3.cell? ⟨gb354, 2, none⟩ = some (.int .i64 a0_2) := (blk_cell BK354.out 2).trans rfl
         have hcz18_3 : w3.cell? ⟨gb354, 3, none⟩ = some (.int .i64 a0_3) := (blk_cell BK354.out 3).trans rfl
         have hfz18_0 := blk_frozen BK354.out 0
         have hfz18_1 := blk_frozen BK354.out 1
         have hfz18_2 := blk_frozen BK354.out 2
         have hfz18_3 := blk_frozen BK354.out 3
         go_wp2
         go_meet
         case rel => exact ⟨_, (decide (a0_3 > 1152921504606846976)), (by first | rfl | (simp; done) | (simp [*]; done)), H', ⟨by first | omega | exact Nat.le_refl _⟩, ⟨by (with_reducible repeat (first | refine blk_drewN ?_ _ | refine blk_drew ?_ | refine blk_alloc ?_ _)); exact BK354.out⟩, ⟨HBz⟩⟩
 case rest =>
  clear HC2
  try clear c1
  try clear c2
  try clear p2
  try clear c4
  try clear c4b0
  try clear c6
  try clear c6b0
  try clear c8
  try clear c8b0
  try clear c10
  try clear c10b0
  try clear c12
  try clear c12b0
  try clear c14
  try clear c14b0
  try clear c16
  try clear c16b0
  try clear hcz11_0
  try clear hcz11_1
  try clear hcz11_2
  try clear hcz11_3
  try clear hcz13_0
  try clear hcz13_1
  try clear hcz13_2
  try clear hcz13_3
  try clear hcz15_0
  try clear hcz15_1
  try clear hcz15_2
  try clear hcz15_3
  try clear hcz17_0
  try clear hcz17_1
  try clear hcz17_2
  try clear hcz17_3
  try clear hcz18_0
  try clear hcz18_1
  try clear hcz18_2
  try clear hcz18_3
  try clear hcz5_0
  try clear hcz5_1
  try clear hcz5_2
  try clear hcz5_3
  try clear hcz7_0
  try clear hcz7_1
  try clear hcz7_2
  try clear hcz7_3
  try clear hcz9_0
  try clear hcz9_1
  try clear hcz9_2
  try clear hcz9_3
  try clear hfz11_0
  try clear hfz11_1
  try clear hfz11_2
  try clear hfz11_3
  try clear hfz13_0
  try clear hfz13_1
  try clear hfz13_2
  try clear hfz13_3
  try clear hfz15_0
  try clear hfz15_1
  try clear hfz15_2
  try clear hfz15_3
  try clear hfz17_0
  try clear hfz17_1
  try clear hfz17_2
  try clear hfz17_3
  try clear hfz18_0
  try clear hfz18_1
  try clear hfz18_2
  try clear hfz18_3
  try clear hfz5_0
  try clear hfz5_1
  try clear hfz5_2
  try clear hfz5_3
  try clear hfz7_0
  try clear hfz7_1
  try clear hfz7_2
  try clear hfz7_3
  try clear hfz9_0
  try clear hfz9_1
  try clear hfz9_2
  try clear hfz9_3
  obtain ⟨kq, x40_1, rfl, HA, HJ1, BK354, HB⟩ := hcut
  cases kq with
  | zero => exact absurd HA.out (by simp [tickingref01_Valid.j0])
  | succ kj1 =>
   have H := HA.out
   clear HA
   simp only [tickingref01_Valid.j0] at H
   by_cases c19 : x40_1 = true
   ·subst c19
    have H1 : (some false) = some r := by rw [if_pos rfl] at H; exact H
    clear H
    have H := H1
    clear H1
    obtain rfl := Option.some.inj H
    go_wp2
    go_ret
    exact ⟨by first | rfl | (simp [errW_none, errW_some] <;> rfl) | (simp [*, errW_none, errW_some] <;> rfl), HBz⟩
   ·replace c19 := Bool.eq_false_iff.mpr c19
    subst c19
    have H1 : ((tickingref01_absolute.f a0_0).bind fun t355 => ((tickingref01_absolute.f a0_1).bind fun t356 => ((tickingref01_gcd.f kj1 t355 t356).bind fun t357 => ((tickingref01_gcd.f kj1 t357 a0_2).bind fun t358 => (some (t358 == 1)))))) = some r := by rw [if_neg (show ¬ (false = true) by decide)] at H; exact H
    clear H
    have H := H1
    clear H1
    replace H := Option.bind_eq_some_iff.mp H
    obtain ⟨t355, A200, H⟩ := H
    replace H : ((tickingref01_absolute.f a0_1).bind fun t356 => ((tickingref01_gcd.f kj1 t355 t356).bind fun t357 => ((tickingref01_gcd.f kj1 t357 a0_2).bind fun t358 => (some (t358 == 1))))) = some r := H
    have A20 := Aside0.mk A200
    clear A200
    replace H := Option.bind_eq_some_iff.mp H
    obtain ⟨t356, A210, H⟩ := H
    replace H : ((tickingref01_gcd.f kj1 t355 t356).bind fun t357 => ((tickingref01_gcd.f kj1 t357 a0_2).bind fun t358 => (some (t358 == 1)))) = some r := H
    have A21 := Aside0.mk A210
    clear A210
    replace H := Option.bind_eq_some_iff.mp H
    obtain ⟨t357, A220, H⟩ := H
    replace H : ((tickingref01_gcd.f kj1 t357 a0_2).bind fun t358 => (some (t358 == 1))) = some r := H
    have A22 := Aside0.mk A220
    clear A220
    replace H := Option.bind_eq_some_iff.mp H
    obtain ⟨t358, A230, H⟩ := H
    replace H : (some (t358 == 1)) = some r := H
    have A23 := Aside0.mk A230
    clear A230
    obtain rfl := Option.some.inj H
    try go_wp2
    have n0_ := Aside0.mk (blk_drew BK354.out)
    have n1_ := Aside0.mk (below_drew1 HB.out)
    clear BK354
    clear HB
    have BK354 := n0_
    have HB := n1_
    clear n0_ n1_
    refine stz (fun w' => w'.cell? ⟨gb354, 0, none⟩ = some (.int .i64 a0_0) ∧ w'.cell? ⟨gb354, 1, none⟩ = some (.int .i64 a0_1) ∧ w'.cell? ⟨gb354, 2, none⟩ = some (.int .i64 a0_2) ∧ w'.cell? ⟨gb354, 3, none⟩ = some (.int .i64 a0_3)) [] (bn 12 0) ⟨(blk_cell BK354.out 0).trans rfl, (blk_cell BK354.out 1).trans rfl, (blk_cell BK354.out 2).trans rfl, (blk_cell BK354.out 3).trans rfl⟩ (fun hHeld => ?_); refine with_tabW tickingref01_Valid.tab3 tickingref01_Valid.bits3 (fun HT_ HW_ => ?_)
    generalize wc.drew = w24 at BK354 HB hHeld ⊢
    refine pT HT_.out 0 (some 41) (bn 12 1) ?_
    refine pT HT_.out 3 (some 44) (bn 12 9) ?_
    refine pT HT_.out 7 (some 48) (bn 12 137) ?_
    refine tT HT_.out HW_.out 1 (some 42) (bn 12 139) hHeld ?_
    refine tT HT_.out HW_.out 4 (some 45) (bn 12 155) hHeld ?_
    refine tT HT_.out HW_.out 8 (some 49) (bn 12 411) hHeld ?_
    refine oT HT_.out 2 (some 43) (bn 12 415) (fun K hK => ?_)
    refine gz Try.func56 #[.int .i64 a0_0] ?_
    with_reducible refine (tickingref01_absolute.calls a0_0 t355 _ A20.out).mono ?_
    rintro e w25 ⟨rfl, hb⟩
    refine ⟨_, rfl, ?_⟩
    have n0_ := Aside0.mk (blk_below (g := gb354) BKz hb)
    have n1_ := Aside0.mk (below_step HBz hb)
    clear BK354
    clear HB
    have BK354 := n0_
    have HB := n1_
    clear n0_ n1_
    (try clear hb)
    (try clear hb2)
    (try clear hk)
    (try clear hi)
    refine hK.out _ _ ⟨(blk_cell BK354.out 0).trans rfl, (blk_cell BK354.out 1).trans rfl, (blk_cell BK354.out 2).trans rfl, (blk_cell BK354.out 3).trans rfl⟩ (fun hHeld => ?_)
    clear hK K
    refine nz (some 43) ?_
    refine oT HT_.out 5 (some 46) (bn 12 447) (fun K hK => ?_)
    refine gz Try.func56 #[.int .i64 a0_1] ?_
    with_reducible refine (tickingref01_absolute.calls a0_1 t356 _ A21.out).mono ?_
    rintro e w26 ⟨rfl, hb⟩
    refine ⟨_, rfl, ?_⟩
    have n0_ := Aside0.mk (blk_below (g := gb354) BKz hb)
    have n1_ := Aside0.mk (below_step HBz hb)
    clear BK354
    clear HB
    have BK354 := n0_
    have HB := n1_
    clear n0_ n1_
    (try clear hb)
    (try clear hb2)
    (try clear hk)
    (try clear hi)
    refine hK.out _ _ ⟨(blk_cell BK354.out 0).trans rfl, (blk_cell BK354.out 1).trans rfl, (blk_cell BK354.out 2).trans rfl, (blk_cell BK354.out 3).trans rfl⟩ (fun hHeld => ?_)
    clear hK K
    refine nz (some 46) ?_
    refine oT HT_.out 6 (some 47) (bn 12 511) (fun K hK => ?_)
    refine gz Try.func55 #[.int .i64 t355, .int .i64 t356] ?_
    with_reducible refine (tickingref01_gcd.calls kj1 t355 t356 t357 _ A22.out).mono ?_
    rintro e w' ⟨rfl, ⟨nd, rfl⟩⟩
    refine ⟨_, rfl, ?_⟩
    refine hK.out _ _ ⟨(blk_cell BK354.out 0).trans rfl, (blk_cell BK354.out 1).trans rfl, (blk_cell BK354.out 2).trans rfl, (blk_cell BK354.out 3).trans rfl⟩ (fun hHeld => ?_)
    clear hK K
    refine nz (some 47) ?_
    refine oT HT_.out 9 (some 50) (bn 12 1023) (fun K hK => ?_)
    refine gz Try.func55 #[.int .i64 t357, .int .i64 a0_2] ?_
    with_reducible refine (tickingref01_gcd.calls kj1 t357 a0_2 t358 _ A23.out).mono ?_
    rintro e w' ⟨rfl, ⟨nd, rfl⟩⟩
    refine ⟨_, rfl, ?_⟩
    refine hK.out _ _ ⟨(blk_cell BK354.out 0).trans rfl, (blk_cell BK354.out 1).trans rfl, (blk_cell BK354.out 2).trans rfl, (blk_cell BK354.out 3).trans rfl⟩ (fun hHeld => ?_)
    clear hK K
    refine nz (some 50) ?_
    refine pT HT_.out 10 (some 51) (bn 12 2047) ?_
    refine pT HT_.out 11 (some 2) (bn 12 4095) ?_
    refine done_ (done_of HT_.out (by kernel_rfl)) ?_
    try go_wp2
    go_ret
    exact ⟨by first | rfl | (simp [errW_none, errW_some] <;> rfl) | (simp [*, errW_none, errW_some] <;> rfl), HBz⟩
end Go.Proofs.Ytplhfbkejngioaa.X
namespace Go.Proofs.Ytplhfbkejngioaa.X
open Go.RowKit Go.Proofs.YtplhfbkejngioaaW.PrintWords Go.Proofs.YtplhfbkejngioaaW.PrintLast Go.Proofs.Ytplhfbkejngioaa.S Go.Proofs.Ytplhfbkejngioaa.Geo
set_option linter.unusedVariables false
abbrev BalC (c : Ci) (l1 l2 l3 : Int) (p q r : S28) : Prop := Bal l1 l2 l3 c.X c.Y c.D p.f0 p.f1 q.f0 q.f1 r.f0 r.f1
structure Red (c c' : Ci) (g : Int) : Prop where
 g0 : g ≠ 0
 X : c.X = g * c'.X
 Y : c.Y = g * c'.Y
 D : c.D = g * c'.D
 R : c.R = g * g * c'.R
 pos : 0 < c'.D
 one : gcd3 c' = 1
theorem red_of (c : Ci) {p : S28} (hD : c.D ≠ 0) (hp : farC c p = c.R) : ∃ g, Red c (redC c) g := by
 have core : ∀ X Y D R : Int, 0 < D → (D * p.f0 - X) * (D * p.f0 - X) + (D * p.f1 - Y) * (D * p.f1 - Y) = R →
   Red ⟨X, Y, D, R⟩ ⟨X / gcd3 ⟨X, Y, D, R⟩, Y / gcd3 ⟨X, Y, D, R⟩, D / gcd3 ⟨X, Y, D, R⟩, R / (gcd3 ⟨X, Y, D, R⟩ * gcd3 ⟨X, Y, D, R⟩)⟩ (gcd3 ⟨X, Y, D, R⟩) := by
  intro X Y D R hD hR
  have hg0 := gcd3_pos X Y D R (by omega)
  obtain ⟨x, hx⟩ := gcd3_dX X Y D R
  obtain ⟨y, hy⟩ := gcd3_dY X Y D R
  obtain ⟨d, hd⟩ := gcd3_dD X Y D R
  have hgd : gcd3 ⟨X, Y, D, R⟩ = gcd3 ⟨X, Y, D, R⟩ * gcd3 ⟨x, y, d, R⟩ := by
   conv => lhs; unfold gcd3
   simp only
   have hx' : X.natAbs = (gcd3 ⟨X, Y, D, R⟩).natAbs * x.natAbs := by rw [← Int.natAbs_mul, ← hx]
   have hy' : Y.natAbs = (gcd3 ⟨X, Y, D, R⟩).natAbs * y.natAbs := by rw [← Int.natAbs_mul, ← hy]
   have hd' : D.natAbs = (gcd3 ⟨X, Y, D, R⟩).natAbs * d.natAbs := by rw [← Int.natAbs_mul, ← hd]
   have hz : (((gcd3 ⟨X, Y, D, R⟩).natAbs : Nat) : Int) = gcd3 ⟨X, Y, D, R⟩ := by omega
   rw [hx', hy', hd', Nat.gcd_mul_left, Nat.gcd_mul_left, Int.natCast_mul, hz]
   rfl
  have e1 : X / gcd3 ⟨X, Y, D, R⟩ = x := Int.ediv_eq_of_eq_mul_right (by omega) hx
  have e2 : Y / gcd3 ⟨X, Y, D, R⟩ = y := Int.ediv_eq_of_eq_mul_right (by omega) hy
  have e3 : D / gcd3 ⟨X, Y, D, R⟩ = d := Int.ediv_eq_of_eq_mul_right (by omega) hd
  rw [e1, e2, e3]
  generalize hgg : gcd3 ⟨X, Y, D, R⟩ = g at *
  have hR' : R = g * g * ((d * p.f0 - x) * (d * p.f0 - x) + (d * p.f1 - y) * (d * p.f1 - y)) := by
   rw [← hR, hx, hy, hd]; grind
  have e4 : R / (g * g) = (d * p.f0 - x) * (d * p.f0 - x) + (d * p.f1 - y) * (d * p.f1 - y) :=
   Int.ediv_eq_of_eq_mul_right (Int.ne_of_gt (Int.mul_pos hg0 hg0)) hR'
  have hdp : 0 < d := by
   rcases Int.lt_or_le 0 d with h | h
   ·exact h
   ·have := Int.mul_nonneg (Int.le_of_lt hg0) (Int.neg_nonneg.2 h)
    rw [Int.mul_neg] at this
    omega
  refine ⟨by simpa using Int.ne_of_gt hg0, hx, hy, hd, ?_, hdp, ?_⟩
  ·simp only; rw [e4]; exact hR'
  ·have h1 : g * 1 = g * gcd3 ⟨x, y, d, R⟩ := by rw [Int.mul_one]; exact hgd
   have h2 := Int.eq_of_mul_eq_mul_left (Int.ne_of_gt hg0) h1
   unfold gcd3 at h2 ⊢
   simp only at h2 ⊢
   exact h2.symm
 unfold farC at hp
 by_cases hn : c.D < 0
 ·have h := core (-c.X) (-c.Y) (-c.D) c.R (by omega) (by rw [← hp]; grind)
  have e : redC c = ⟨-c.X / gcd3 ⟨-c.X, -c.Y, -c.D, c.R⟩, -c.Y / gcd3 ⟨-c.X, -c.Y, -c.D, c.R⟩, -c.D / gcd3 ⟨-c.X, -c.Y, -c.D, c.R⟩, c.R / (gcd3 ⟨-c.X, -c.Y, -c.D, c.R⟩ * gcd3 ⟨-c.X, -c.Y, -c.D, c.R⟩)⟩ := by
   unfold redC; simp only [if_pos hn]
  rw [e]
  generalize gcd3 ⟨-c.X, -c.Y, -c.D, c.R⟩ = g at h
  refine ⟨-g, ⟨by have := h.g0; omega, ?_, ?_, ?_, ?_, h.pos, h.one⟩⟩
  ·have := h.X; simp only at this ⊢; rw [Int.neg_mul]; omega
  ·have := h.Y; simp only at this ⊢; rw [Int.neg_mul]; omega
  ·have := h.D; simp only at this ⊢; rw [Int.neg_mul]; omega
  ·have := h.R; simp only at this ⊢; rw [Int.neg_mul_neg]; exact this
 ·have h := core c.X c.Y c.D c.R (by omega) hp
  have e : redC c = ⟨c.X / gcd3 c, c.Y / gcd3 c, c.D / gcd3 c, c.R / (gcd3 c * gcd3 c)⟩ := by
   unfold redC; simp only [if_neg hn]
  rw [e]
  exact ⟨_, h⟩
theorem Red.far {c c' : Ci} {g : Int} (h : Red c c' g) (p : S28) : farC c p = g * g * farC c' p := by
 unfold farC; rw [h.X, h.Y, h.D]; grind
theorem Red.crs {c c' : Ci} {g : Int} (h : Red c c' g) (p q : S28) : crsC c p q = g * g * crsC c' p q := by
 unfold crsC; rw [h.X, h.Y, h.D]; grind
theorem Red.gg {c c' : Ci} {g : Int} (h : Red c c' g) : 0 < g * g := sq_pos h.g0
theorem Red.on {c c' : Ci} {g : Int} (h : Red c c' g) {p : S28} (hp : farC c p = c.R) : farC c' p = c'.R := by
 have := h.far p
 rw [hp, h.R] at this
 exact (Int.eq_of_mul_eq_mul_left (Int.ne_of_gt h.gg) this).symm
theorem Red.le {c c' : Ci} {g : Int} (h : Red c c' g) {p : S28} (hp : farC c p ≤ c.R) : farC c' p ≤ c'.R := by
 rw [h.far p, h.R] at hp
 exact Int.le_of_mul_le_mul_left hp h.gg
theorem mul_sum0 {g a b : Int} (hg : g ≠ 0) (h : g * a + g * b = 0) : a + b = 0 := by
 rw [← Int.mul_add] at h
 rcases Int.mul_eq_zero.1 h with h | h
 ·exact absurd h hg
 ·exact h
def betU (a b : S28) : Ci := ⟨a.f0 + b.f0, a.f1 + b.f1, 2, (a.f0 - b.f0) * (a.f0 - b.f0) + (a.f1 - b.f1) * (a.f1 - b.f1)⟩
theorem bet_a (a b : S28) : farC (betU a b) a = (betU a b).R := by unfold farC betU; simp only; grind
theorem bet_b (a b : S28) : farC (betU a b) b = (betU a b).R := by unfold farC betU; simp only; grind
theorem bet_c (a b c : S28) : farC (betU a b) c = (betU a b).R + 4 * ((a.f0 - c.f0) * (b.f0 - c.f0) + (a.f1 - c.f1) * (b.f1 - c.f1)) := by unfold farC betU; simp only; grind
theorem bet_red (a b : S28) : ∃ g, Red (betU a b) (betC a b) g := red_of (betU a b) (p := a) (by unfold betU; simp) (bet_a a b)
theorem bet_bal (a b c : S28) : BalC (betC a b) 1 1 0 a b c := by
 obtain ⟨g, h⟩ := bet_red a b
 have hX : a.f0 + b.f0 = g * (betC a b).X := h.X
 have hY : a.f1 + b.f1 = g * (betC a b).Y := h.Y
 have hD : 2 = g * (betC a b).D := h.D
 refine ⟨by omega, by omega, by omega, by omega, ?_, ?_⟩
 ·rw [Int.one_mul, Int.one_mul, Int.zero_mul, Int.add_zero]
  refine mul_sum0 h.g0 ?_
  grind
 ·rw [Int.one_mul, Int.one_mul, Int.zero_mul, Int.add_zero]
  refine mul_sum0 h.g0 ?_
  grind
theorem bet_three (a b c : S28) (h : (a.f0 - c.f0) * (b.f0 - c.f0) + (a.f1 - c.f1) * (b.f1 - c.f1) ≤ 0) :
  farC (betC a b) a ≤ (betC a b).R ∧ farC (betC a b) b ≤ (betC a b).R ∧ farC (betC a b) c ≤ (betC a b).R := by
 obtain ⟨g, hr⟩ := bet_red a b
 refine ⟨hr.le (Int.le_of_eq (bet_a a b)), hr.le (Int.le_of_eq (bet_b a b)), hr.le ?_⟩
 rw [bet_c]; omega
theorem thr_core (ux uy vx vy d p q s wx wy : Int) (hd : d = 2 * (ux * vy - uy * vx)) (hp : p = ux * ux + uy * uy) (hq : q = vx * vx + vy * vy) (hs : s = ux * vx + uy * vy)
  (hwx : wx = vy * p - uy * q) (hwy : wy = ux * q - vx * p) :
  d * p = 2 * (ux * wx + uy * wy) ∧ d * q = 2 * (vx * wx + vy * wy) ∧ wy * ux - wx * uy = p * (q - s) ∧ vy * wx - vx * wy = q * (p - s) ∧ d * d = 4 * (p * q - s * s) := by
 subst hd hwx hwy
 refine ⟨?_, ?_, ?_, ?_, ?_⟩
 ·grind
 ·grind
 ·grind
 ·grind
 ·grind
structure ThrFacts (a b c : S28) : Prop where
 fa : farC (thrU a b c) a = (thrU a b c).R
 fb : farC (thrU a b c) b = (thrU a b c).R
 fc : farC (thrU a b c) c = (thrU a b c).R
 ab : crsC (thrU a b c) a b = crossD a b c * (((a.f0 - b.f0) * (a.f0 - b.f0) + (a.f1 - b.f1) * (a.f1 - b.f1)) * ((a.f0 - c.f0) * (b.f0 - c.f0) + (a.f1 - c.f1) * (b.f1 - c.f1)))
 bc : crsC (thrU a b c) b c = crossD a b c * (((b.f0 - c.f0) * (b.f0 - c.f0) + (b.f1 - c.f1) * (b.f1 - c.f1)) * ((b.f0 - a.f0) * (c.f0 - a.f0) + (b.f1 - a.f1) * (c.f1 - a.f1)))
 ca : crsC (thrU a b c) c a = crossD a b c * (((a.f0 - c.f0) * (a.f0 - c.f0) + (a.f1 - c.f1) * (a.f1 - c.f1)) * ((a.f0 - b.f0) * (c.f0 - b.f0) + (a.f1 - b.f1) * (c.f1 - b.f1)))
 dd : crossD a b c * crossD a b c = 4 * (((a.f0 - b.f0) * (a.f0 - b.f0) + (a.f1 - b.f1) * (a.f1 - b.f1)) * ((a.f0 - c.f0) * (a.f0 - c.f0) + (a.f1 - c.f1) * (a.f1 - c.f1)) -
   ((b.f0 - a.f0) * (c.f0 - a.f0) + (b.f1 - a.f1) * (c.f1 - a.f1)) * ((b.f0 - a.f0) * (c.f0 - a.f0) + (b.f1 - a.f1) * (c.f1 - a.f1)))
theorem thr_facts (a b c : S28) : ThrFacts a b c := by
 obtain ⟨ax, ay⟩ := a
 obtain ⟨bx, by'⟩ := b
 obtain ⟨cx, cy⟩ := c
 obtain ⟨ux, rfl⟩ : ∃ u, bx = ax + u := ⟨bx - ax, by omega⟩
 obtain ⟨uy, rfl⟩ : ∃ u, by' = ay + u := ⟨by' - ay, by omega⟩
 obtain ⟨vx, rfl⟩ : ∃ u, cx = ax + u := ⟨cx - ax, by omega⟩
 obtain ⟨vy, rfl⟩ : ∃ u, cy = ay + u := ⟨cy - ay, by omega⟩
 have s0 : ∀ x y : Int, x + y - x = y := fun x y => by omega
 have s1 : ∀ x y : Int, x - (x + y) = -y := fun x y => by omega
 have s2 : ∀ x y z : Int, x + y - (x + z) = y - z := fun x y z => by omega
 obtain ⟨k1, k2, k3, k4, k5⟩ := thr_core ux uy vx vy _ _ _ _ _ _ rfl rfl rfl rfl rfl rfl
 have hU : thrU ⟨ax, ay⟩ ⟨ax + ux, ay + uy⟩ ⟨ax + vx, ay + vy⟩ = ⟨ax * (2 * (ux * vy - uy * vx)) + (vy * (ux * ux + uy * uy) - uy * (vx * vx + vy * vy)), ay * (2 * (ux * vy - uy * vx)) + (ux * (vx * vx + vy * vy) - vx * (ux * ux + uy * uy)), 2 * (ux * vy - uy * vx),
   (vy * (ux * ux + uy * uy) - uy * (vx * vx + vy * vy)) * (vy * (ux * ux + uy * uy) - uy * (vx * vx + vy * vy)) + (ux * (vx * vx + vy * vy) - vx * (ux * ux + uy * uy)) * (ux * (vx * vx + vy * vy) - vx * (ux * ux + uy * uy))⟩ := by
  unfold thrU crossD; simp only [s0]
 have hC : crossD ⟨ax, ay⟩ ⟨ax + ux, ay + uy⟩ ⟨ax + vx, ay + vy⟩ = 2 * (ux * vy - uy * vx) := by unfold crossD; simp only [s0]
 generalize hd : 2 * (ux * vy - uy * vx) = d at *
 generalize hp : ux * ux + uy * uy = p at *
 generalize hq : vx * vx + vy * vy = q at *
 generalize hwx : vy * p - uy * q = wx at *
 generalize hwy : ux * q - vx * p = wy at *
 have t1 : ∀ x u w : Int, d * (x + u) - (x * d + w) = d * u - w := fun x u w => by grind
 have t0 : ∀ x w : Int, d * x - (x * d + w) = -w := fun x w => by grind
 refine ⟨?_, ?_, ?_, ?_, ?_, ?_, ?_⟩
 ·rw [hU]; unfold farC; simp only [t0]; grind
 ·rw [hU]; unfold farC; simp only [t1]; grind
 ·rw [hU]; unfold farC; simp only [t1]; grind
 ·rw [hU, hC]; unfold crsC; simp only [t0, t1, s1, s2]; grind
 ·rw [hU, hC]; unfold crsC; simp only [t1, s0, s2]; grind
 ·rw [hU, hC]; unfold crsC; simp only [t0, t1, s1, s2]; grind
 ·rw [hC]; simp only [s0, s1]; grind
end Go.Proofs.Ytplhfbkejngioaa.X
namespace Go.Proofs.Ytplhfbkejngioaa.X
open Go.RowKit Go.Proofs.YtplhfbkejngioaaW.PrintWords Go.Proofs.YtplhfbkejngioaaW.PrintLast Go.Proofs.Ytplhfbkejngioaa.S Go.Proofs.Ytplhfbkejngioaa.Geo
set_option linter.unusedVariables false
theorem thr_Red {a b c : S28} (h : crossD a b c ≠ 0) : ∃ g, Red (thrU a b c) (thrC a b c) g :=
 red_of (thrU a b c) (p := a) h (thr_facts a b c).fa
theorem cross_bal (c : Ci) (p q r : S28) :
  crsC c q r * (c.D * p.f0 - c.X) + crsC c r p * (c.D * q.f0 - c.X) + crsC c p q * (c.D * r.f0 - c.X) = 0 ∧
  crsC c q r * (c.D * p.f1 - c.Y) + crsC c r p * (c.D * q.f1 - c.Y) + crsC c p q * (c.D * r.f1 - c.Y) = 0 := by
 unfold crsC
 constructor <;> grind
theorem crs_swap (c : Ci) (p q : S28) : crsC c q p = -crsC c p q := by unfold crsC; grind
theorem ins3_cases {c : Ci} {p q r : S28} (h : insC3 c p q r = true) :
  (0 ≤ crsC c p q ∧ 0 ≤ crsC c q r ∧ 0 ≤ crsC c r p ∧ 0 < crsC c p q + crsC c q r + crsC c r p) ∨
  (crsC c p q ≤ 0 ∧ crsC c q r ≤ 0 ∧ crsC c r p ≤ 0 ∧ crsC c p q + crsC c q r + crsC c r p < 0) := by
 unfold insC3 at h
 rw [bne_iff_ne, ne_eq, Bool.eq_iff_iff] at h
 simp only [Bool.or_eq_true, decide_eq_true_eq] at h
 omega
structure Sup (c : Ci) (p q r : S28) : Prop where
 pos : 0 < c.D
 one : gcd3 c = 1
 fp : farC c p = c.R
 fq : farC c q = c.R
 fr : farC c r = c.R
 bal : ∃ l1 l2 l3, BalC c l1 l2 l3 p q r
theorem one_sup (p : S28) : Sup ⟨p.f0, p.f1, 1, 0⟩ p p p := by
 refine ⟨by simp, ?_, ?_, ?_, ?_, ⟨1, 0, 0, ?_⟩⟩
 ·unfold gcd3; simp
 ·unfold farC; simp only; grind
 ·unfold farC; simp only; grind
 ·unfold farC; simp only; grind
 ·refine ⟨by omega, by omega, by omega, by omega, ?_, ?_⟩ <;> simp only <;> grind
theorem two_sup (a b : S28) : Sup (betC a b) a b b := by
 obtain ⟨g, h⟩ := bet_red a b
 exact ⟨h.pos, h.one, h.on (bet_a a b), h.on (bet_b a b), h.on (bet_b a b), ⟨1, 1, 0, bet_bal a b b⟩⟩
theorem three_bal {c : Ci} {p q r : S28} (h : insC3 c p q r = true) : ∃ s : Int, (s = 1 ∨ s = -1) ∧ 0 ≤ s * crsC c q r ∧ 0 ≤ s * crsC c r p ∧ 0 ≤ s * crsC c p q ∧ 0 < s * crsC c q r + s * crsC c r p + s * crsC c p q ∧
  BalC c (s * crsC c q r) (s * crsC c r p) (s * crsC c p q) p q r := by
 obtain ⟨hx, hy⟩ := cross_bal c p q r
 rcases ins3_cases h with ⟨h1, h2, h3, h4⟩ | ⟨h1, h2, h3, h4⟩
 ·refine ⟨1, Or.inl rfl, by omega, by omega, by omega, by omega, by omega, by omega, by omega, by omega, ?_, ?_⟩ <;> grind
 ·refine ⟨-1, Or.inr rfl, by omega, by omega, by omega, by omega, by omega, by omega, by omega, by omega, ?_, ?_⟩ <;> grind
theorem three_sup {a b c : S28} (h : crossD a b c ≠ 0) (hi : insC3 (thrC a b c) a b c = true) : Sup (thrC a b c) a b c := by
 obtain ⟨g, hr⟩ := thr_Red h
 have f := thr_facts a b c
 obtain ⟨s, _, _, _, _, _, hb⟩ := three_bal hi
 exact ⟨hr.pos, hr.one, hr.on f.fa, hr.on f.fb, hr.on f.fc, ⟨_, _, _, hb⟩⟩
theorem mem_two {l : List S28} {i j : Nat} (hij : i < j) (hj : j < l.length) : (⟨betC (pt l i) (pt l j), [(i : Int), (j : Int)]⟩ : Cand) ∈ cands l := by
 refine List.mem_cons_of_mem _ (List.mem_append_left _ ?_)
 unfold cands2
 rw [List.mem_flatMap]
 refine ⟨j, List.mem_range.2 hj, ?_⟩
 rw [List.mem_map]
 exact ⟨i, List.mem_range.2 hij, rfl⟩
theorem mem_three {l : List S28} {i j k : Nat} (hij : i < j) (hjk : j < k) (hk : k < l.length) (h : crossD (pt l i) (pt l j) (pt l k) ≠ 0)
  (hi : insC3 (thrC (pt l i) (pt l j) (pt l k)) (pt l i) (pt l j) (pt l k) = true) : (⟨thrC (pt l i) (pt l j) (pt l k), [(i : Int), (j : Int), (k : Int)]⟩ : Cand) ∈ cands l := by
 refine List.mem_cons_of_mem _ (List.mem_append_right _ ?_)
 unfold cands3
 rw [List.mem_flatMap]
 refine ⟨k, List.mem_range.2 hk, ?_⟩
 rw [List.mem_flatMap]
 refine ⟨j, List.mem_range.2 hjk, ?_⟩
 rw [List.mem_flatMap]
 refine ⟨i, List.mem_range.2 hij, ?_⟩
 unfold cand3
 rw [if_neg h, if_pos hi]
 exact List.mem_cons_self ..
theorem cands_cases {l : List S28} {x : Cand} (h : x ∈ cands l) :
  x = ⟨⟨(pt l 0).f0, (pt l 0).f1, 1, 0⟩, [0]⟩ ∨ (∃ i j : Nat, i < j ∧ j < l.length ∧ x = ⟨betC (pt l i) (pt l j), [(i : Int), (j : Int)]⟩) ∨
  ∃ i j k : Nat, i < j ∧ j < k ∧ k < l.length ∧ crossD (pt l i) (pt l j) (pt l k) ≠ 0 ∧ insC3 (thrC (pt l i) (pt l j) (pt l k)) (pt l i) (pt l j) (pt l k) = true ∧
   x = ⟨thrC (pt l i) (pt l j) (pt l k), [(i : Int), (j : Int), (k : Int)]⟩ := by
 unfold cands at h
 rw [List.mem_cons, List.mem_append] at h
 rcases h with h | h | h
 ·exact Or.inl h
 ·right; left
  unfold cands2 at h
  rw [List.mem_flatMap] at h
  obtain ⟨j, hj, h⟩ := h
  rw [List.mem_map] at h
  obtain ⟨i, hi, h⟩ := h
  exact ⟨i, j, List.mem_range.1 hi, List.mem_range.1 hj, h.symm⟩
 ·right; right
  unfold cands3 at h
  rw [List.mem_flatMap] at h
  obtain ⟨k, hk, h⟩ := h
  rw [List.mem_flatMap] at h
  obtain ⟨j, hj, h⟩ := h
  rw [List.mem_flatMap] at h
  obtain ⟨i, hi, h⟩ := h
  unfold cand3 at h
  split at h
  ·cases h
  ·rename_i hc
   split at h
   ·rename_i hin
    rw [List.mem_singleton] at h
    exact ⟨i, j, k, List.mem_range.1 hi, List.mem_range.1 hj, List.mem_range.1 hk, hc, hin, h⟩
   ·cases h
theorem cands_sup {l : List S28} (hl : 0 < l.length) {x : Cand} (h : x ∈ cands l) : ∃ p q r, p ∈ l ∧ q ∈ l ∧ r ∈ l ∧ Sup x.c p q r := by
 have hm : ∀ i : Nat, i < l.length → pt l i ∈ l := fun i hi => by
  unfold pt
  rw [List.getD_eq_getElem?_getD, List.getElem?_eq_getElem hi]
  exact List.getElem_mem hi
 rcases cands_cases h with rfl | ⟨i, j, hij, hj, rfl⟩ | ⟨i, j, k, hij, hjk, hk, hc, hin, rfl⟩
 ·exact ⟨_, _, _, hm 0 hl, hm 0 hl, hm 0 hl, one_sup _⟩
 ·exact ⟨_, _, _, hm i (by omega), hm j hj, hm j hj, two_sup _ _⟩
 ·exact ⟨_, _, _, hm i (by omega), hm j (by omega), hm k hk, three_sup hc hin⟩
def enc3 (l : List S28) (i j k : Nat) : Prop := ∃ x ∈ cands l, farC x.c (pt l i) ≤ x.c.R ∧ farC x.c (pt l j) ≤ x.c.R ∧ farC x.c (pt l k) ≤ x.c.R
theorem enc3_asc {l : List S28} {i j k : Nat} (hij : i < j) (hjk : j < k) (hk : k < l.length) : enc3 l i j k := by
 by_cases hc : ((pt l i).f0 - (pt l k).f0) * ((pt l j).f0 - (pt l k).f0) + ((pt l i).f1 - (pt l k).f1) * ((pt l j).f1 - (pt l k).f1) ≤ 0
 ·obtain ⟨h1, h2, h3⟩ := bet_three _ _ _ hc
  exact ⟨_, mem_two hij (by omega), h1, h2, h3⟩
 by_cases hb : ((pt l i).f0 - (pt l j).f0) * ((pt l k).f0 - (pt l j).f0) + ((pt l i).f1 - (pt l j).f1) * ((pt l k).f1 - (pt l j).f1) ≤ 0
 ·obtain ⟨h1, h2, h3⟩ := bet_three _ _ _ hb
  exact ⟨_, mem_two (by omega : i < k) hk, h1, h3, h2⟩
 by_cases ha : ((pt l j).f0 - (pt l i).f0) * ((pt l k).f0 - (pt l i).f0) + ((pt l j).f1 - (pt l i).f1) * ((pt l k).f1 - (pt l i).f1) ≤ 0
 ·obtain ⟨h1, h2, h3⟩ := bet_three _ _ _ ha
  exact ⟨_, mem_two hjk hk, h3, h1, h2⟩
 generalize hA : pt l i = a at *
 generalize hB : pt l j = b at *
 generalize hC : pt l k = c at *
 have f := thr_facts a b c
 have hd0 : crossD a b c ≠ 0 := by
  intro h0
  have h := f.dd
  rw [h0] at h
  have e1 : (a.f0 - b.f0) * (a.f0 - b.f0) + (a.f1 - b.f1) * (a.f1 - b.f1) = ((a.f0 - b.f0) * (c.f0 - b.f0) + (a.f1 - b.f1) * (c.f1 - b.f1)) + ((b.f0 - a.f0) * (c.f0 - a.f0) + (b.f1 - a.f1) * (c.f1 - a.f1)) := by grind
  have e2 : (a.f0 - c.f0) * (a.f0 - c.f0) + (a.f1 - c.f1) * (a.f1 - c.f1) = ((a.f0 - c.f0) * (b.f0 - c.f0) + (a.f1 - c.f1) * (b.f1 - c.f1)) + ((b.f0 - a.f0) * (c.f0 - a.f0) + (b.f1 - a.f1) * (c.f1 - a.f1)) := by grind
  rw [e1, e2] at h
  generalize (b.f0 - a.f0) * (c.f0 - a.f0) + (b.f1 - a.f1) * (c.f1 - a.f1) = s at *
  generalize (a.f0 - b.f0) * (c.f0 - b.f0) + (a.f1 - b.f1) * (c.f1 - b.f1) = t at *
  generalize (a.f0 - c.f0) * (b.f0 - c.f0) + (a.f1 - c.f1) * (b.f1 - c.f1) = u at *
  have p1 := Int.mul_pos (by omega : 0 < t) (by omega : 0 < u)
  have p2 := Int.mul_pos (by omega : 0 < t) (by omega : 0 < s)
  have p3 := Int.mul_pos (by omega : 0 < s) (by omega : 0 < u)
  have e : (t + s) * (u + s) - s * s = t * u + t * s + s * u := by grind
  rw [e] at h
  omega
 obtain ⟨g, hr⟩ := thr_Red hd0
 have sq : ∀ p q : S28, 0 ≤ (p.f0 - q.f0) * (p.f0 - q.f0) + (p.f1 - q.f1) * (p.f1 - q.f1) := fun p q => ssq_nonneg _ _
 have nz : ∀ p q : S28, (p.f0 - q.f0) * (p.f0 - q.f0) + (p.f1 - q.f1) * (p.f1 - q.f1) ≤ 0 → p = q := by
  intro p q h
  obtain ⟨h1, h2⟩ := ssq_zero h
  obtain ⟨p0, p1⟩ := p
  obtain ⟨q0, q1⟩ := q
  simp only at h1 h2
  obtain rfl : p0 = q0 := by omega
  obtain rfl : p1 = q1 := by omega
  rfl
 have nab : 0 < (a.f0 - b.f0) * (a.f0 - b.f0) + (a.f1 - b.f1) * (a.f1 - b.f1) := by
  refine Int.not_le.1 fun h => hd0 ?_
  rw [nz a b h]; unfold crossD; grind
 have nbc : 0 < (b.f0 - c.f0) * (b.f0 - c.f0) + (b.f1 - c.f1) * (b.f1 - c.f1) := by
  refine Int.not_le.1 fun h => hd0 ?_
  rw [nz b c h]; unfold crossD; grind
 have nac : 0 < (a.f0 - c.f0) * (a.f0 - c.f0) + (a.f1 - c.f1) * (a.f1 - c.f1) := by
  refine Int.not_le.1 fun h => hd0 ?_
  rw [nz a c h]; unfold crossD; grind
 have v1 := Int.mul_pos nab (by omega : 0 < (a.f0 - c.f0) * (b.f0 - c.f0) + (a.f1 - c.f1) * (b.f1 - c.f1))
 have v2 := Int.mul_pos nbc (by omega : 0 < (b.f0 - a.f0) * (c.f0 - a.f0) + (b.f1 - a.f1) * (c.f1 - a.f1))
 have v3 := Int.mul_pos nac (by omega : 0 < (a.f0 - b.f0) * (c.f0 - b.f0) + (a.f1 - b.f1) * (c.f1 - b.f1))
 have hin : insC3 (thrC a b c) a b c = true := by
  have w1 := f.ab; have w2 := f.bc; have w3 := f.ca
  rw [hr.crs] at w1 w2 w3
  generalize ((a.f0 - b.f0) * (a.f0 - b.f0) + (a.f1 - b.f1) * (a.f1 - b.f1)) * ((a.f0 - c.f0) * (b.f0 - c.f0) + (a.f1 - c.f1) * (b.f1 - c.f1)) = m1 at *
  generalize ((b.f0 - c.f0) * (b.f0 - c.f0) + (b.f1 - c.f1) * (b.f1 - c.f1)) * ((b.f0 - a.f0) * (c.f0 - a.f0) + (b.f1 - a.f1) * (c.f1 - a.f1)) = m2 at *
  generalize ((a.f0 - c.f0) * (a.f0 - c.f0) + (a.f1 - c.f1) * (a.f1 - c.f1)) * ((a.f0 - b.f0) * (c.f0 - b.f0) + (a.f1 - b.f1) * (c.f1 - b.f1)) = m3 at *
  have gg := hr.gg
  unfold insC3
  rcases Int.lt_or_gt_of_ne hd0 with hn | hn
  ·have sg : ∀ x m : Int, 0 < m → g * g * x = crossD a b c * m → x < 0 := by
    intro x m hm h
    refine Int.not_le.1 fun hx => ?_
    have y1 := Int.mul_nonneg (Int.le_of_lt gg) hx
    have y2 := Int.mul_pos (Int.neg_pos.2 hn) hm
    rw [Int.neg_mul] at y2
    omega
   have x1 := sg _ _ v1 w1
   have x2 := sg _ _ v2 w2
   have x3 := sg _ _ v3 w3
   have y1 : ¬ 0 < crsC (thrC a b c) a b := by omega
   have y2 : ¬ 0 < crsC (thrC a b c) b c := by omega
   have y3 : ¬ 0 < crsC (thrC a b c) c a := by omega
   simp [x1, x2, x3, y1, y2, y3]
  ·have sg : ∀ x m : Int, 0 < m → g * g * x = crossD a b c * m → 0 < x := by
    intro x m hm h
    refine Int.not_le.1 fun hx => ?_
    have y1 := Int.mul_nonneg (Int.le_of_lt gg) (Int.neg_nonneg.2 hx)
    have y2 := Int.mul_pos hn hm
    rw [Int.mul_neg] at y1
    omega
   have x1 := sg _ _ v1 w1
   have x2 := sg _ _ v2 w2
   have x3 := sg _ _ v3 w3
   have y1 : ¬ crsC (thrC a b c) a b < 0 := by omega
   have y2 : ¬ crsC (thrC a b c) b c < 0 := by omega
   have y3 : ¬ crsC (thrC a b c) c a < 0 := by omega
   simp [x1, x2, x3, y1, y2, y3]
 subst hA hB hC
 have S := three_sup hd0 hin
 exact ⟨_, mem_three hij hjk hk hd0 hin, Int.le_of_eq S.fp, Int.le_of_eq S.fq, Int.le_of_eq S.fr⟩
theorem enc3_any {l : List S28} {i j k : Nat} (hi : i < l.length) (hj : j < l.length) (hk : k < l.length) (hij : i ≠ j) (hik : i ≠ k) (hjk : j ≠ k) : enc3 l i j k := by
 have sw : ∀ i j k, enc3 l i j k → enc3 l j i k := fun i j k ⟨x, hx, h1, h2, h3⟩ => ⟨x, hx, h2, h1, h3⟩
 have sw' : ∀ i j k, enc3 l i j k → enc3 l i k j := fun i j k ⟨x, hx, h1, h2, h3⟩ => ⟨x, hx, h1, h3, h2⟩
 rcases Nat.lt_or_gt_of_ne hij with h1 | h1 <;> rcases Nat.lt_or_gt_of_ne hik with h2 | h2 <;> rcases Nat.lt_or_gt_of_ne hjk with h3 | h3
 ·exact enc3_asc h1 h3 hk
 ·exact sw' _ _ _ (enc3_asc h2 h3 hj)
 ·omega
 ·exact sw' _ _ _ (sw _ _ _ (enc3_asc h2 h1 hj))
 ·exact sw _ _ _ (enc3_asc h1 h2 hk)
 ·omega
 ·exact sw _ _ _ (sw' _ _ _ (enc3_asc h3 h2 hi))
 ·exact sw' _ _ _ (sw _ _ _ (sw' _ _ _ (enc3_asc h3 h1 hi)))
end Go.Proofs.Ytplhfbkejngioaa.X
namespace Go.Proofs.Ytplhfbkejngioaa.X
open Go.RowKit Go.Proofs.YtplhfbkejngioaaW.PrintWords Go.Proofs.YtplhfbkejngioaaW.PrintLast Go.Proofs.Ytplhfbkejngioaa.S Go.Proofs.Ytplhfbkejngioaa.Geo
set_option linter.unusedVariables false
def ltC (c c' : Ci) : Prop := c'.D * c'.D * c.R < c.D * c.D * c'.R
theorem greater3 {l : List S28} {c : Ci} {i j k : Nat} (hl : 0 < l.length) {l1 l2 l3 : Int} (b : BalC c l1 l2 l3 (pt l i) (pt l j) (pt l k)) (fi : farC c (pt l i) = c.R) (fj : farC c (pt l j) = c.R) (fk : c.R < farC c (pt l k))
  (he : enc3 l i j k) : ∃ y ∈ cands l, ltC c y.c := by
 obtain ⟨y, hy, h1, h2, h3⟩ := he
 obtain ⟨p, q, r, _, _, _, S⟩ := cands_sup hl hy
 exact ⟨y, hy, greater b S.pos fi fj fk h1 h2 h3⟩
theorem sign_pick {A B C α β γ : Int} (hA : 0 < A) (hB : 0 < B) (hC : 0 < C) (h : A * α + B * β + C * γ = 0) : (α ≤ 0 ∧ 0 ≤ β) ∨ (β ≤ 0 ∧ 0 ≤ γ) ∨ (γ ≤ 0 ∧ 0 ≤ α) := by
 have pos : ∀ {A a : Int}, 0 < A → 0 < a → 0 < A * a := fun h1 h2 => Int.mul_pos h1 h2
 by_cases h1 : 0 < α ∧ 0 < β ∧ 0 < γ
 ·have := pos hA h1.1; have := pos hB h1.2.1; have := pos hC h1.2.2; omega
 ·by_cases h2 : 0 < -α ∧ 0 < -β ∧ 0 < -γ
  ·have := pos hA h2.1; have := pos hB h2.2.1; have := pos hC h2.2.2
   simp only [Int.mul_neg] at *
   omega
  ·omega
theorem cone_eq (s : Int) {a b d x y z : Int} (h : a * x + b * y + d * z = 0) : s * a * x + s * b * y + s * d * z = 0 := by
 have e : s * a * x + s * b * y + s * d * z = s * (a * x + b * y + d * z) := by grind
 rw [e, h, Int.mul_zero]
theorem improve {l : List S28} {x : Cand} (hx : x ∈ cands l) {m : Nat} (hm : m < l.length) (ho : x.c.R < farC x.c (pt l m)) : ∃ y ∈ cands l, ltC x.c y.c := by
 have hl : 0 < l.length := by omega
 rcases cands_cases hx with rfl | ⟨i, j, hij, hj, rfl⟩ | ⟨i, j, k, hij, hjk, hk, hc, hin, rfl⟩
 ·have S := one_sup (pt l 0)
  have h0 : 0 < m := by
   rcases Nat.eq_zero_or_pos m with h | h
   ·subst h; have := S.fp; simp only at ho this; omega
   ·exact h
  have S2 := two_sup (pt l 0) (pt l m)
  have b : BalC ⟨(pt l 0).f0, (pt l 0).f1, 1, 0⟩ 1 0 0 (pt l 0) (pt l 0) (pt l m) := by
   refine ⟨by omega, by omega, by omega, by omega, ?_, ?_⟩ <;> simp only <;> grind
  exact ⟨_, mem_two h0 hm, greater b S2.pos S.fp S.fp ho (Int.le_of_eq S2.fp) (Int.le_of_eq S2.fp) (Int.le_of_eq S2.fq)⟩
 ·have S := two_sup (pt l i) (pt l j)
  have n1 : i ≠ m := by rintro rfl; have := S.fp; simp only at ho this; omega
  have n2 : j ≠ m := by rintro rfl; have := S.fq; simp only at ho this; omega
  exact greater3 hl (bet_bal (pt l i) (pt l j) (pt l m)) S.fp S.fq ho (enc3_any (by omega) hj hm (by omega) n1 n2)
 ·have S := three_sup hc hin
  obtain ⟨s, hs, hA, hB, hC, hsum, b⟩ := three_bal hin
  simp only at ho ⊢
  generalize thrC (pt l i) (pt l j) (pt l k) = c at *
  have n1 : i ≠ m := by rintro rfl; have := S.fp; omega
  have n2 : j ≠ m := by rintro rfl; have := S.fq; omega
  have n3 : k ≠ m := by rintro rfl; have := S.fr; omega
  have bx := b.hx
  have by' := b.hy
  have eij := enc3_any (l := l) (by omega : i < l.length) (by omega : j < l.length) hm (by omega) n1 n2
  have ejk := enc3_any (l := l) (by omega : j < l.length) hk hm (by omega) n2 n3
  have eki := enc3_any (l := l) hk (by omega : i < l.length) hm (by omega) n3 n1
  have hpq : crsC c (pt l i) (pt l j) = crsC c (pt l i) (pt l j) := rfl
  generalize hP : pt l i = p at *
  generalize hQ : pt l j = q at *
  generalize hR : pt l k = r at *
  generalize hV : pt l m = v at *
  have use2 : ∀ (i j : Nat) (A B C : Int), 0 ≤ A → 0 ≤ B → 0 ≤ C → 0 < A + B + C →
    A * (c.D * (pt l i).f0 - c.X) + B * (c.D * (pt l j).f0 - c.X) + C * (c.D * (pt l m).f0 - c.X) = 0 → A * (c.D * (pt l i).f1 - c.Y) + B * (c.D * (pt l j).f1 - c.Y) + C * (c.D * (pt l m).f1 - c.Y) = 0 →
    farC c (pt l i) = c.R → farC c (pt l j) = c.R → enc3 l i j m → ∃ y ∈ cands l, ltC c y.c := by
   intro i j A B C h1 h2 h3 h4 h5 h6 h7 h8 h9
   exact greater3 hl ⟨h1, h2, h3, h4, h5, h6⟩ h7 h8 (by rw [hV]; exact ho) h9
  have z : ∀ x : Int, (0 : Int) * x = 0 := fun x => Int.zero_mul x
  by_cases hC0 : s * crsC c p q = 0
  ·refine use2 i j _ _ 0 hA hB (by omega) (by omega) ?_ ?_ (by rw [hP]; exact S.fp) (by rw [hQ]; exact S.fq) eij
   ·rw [hC0] at bx; rw [hP, hQ, z]; rw [z] at bx; exact bx
   ·rw [hC0] at by'; rw [hP, hQ, z]; rw [z] at by'; exact by'
  by_cases hA0 : s * crsC c q r = 0
  ·refine use2 j k _ _ 0 hB hC (by omega) (by omega) ?_ ?_ (by rw [hQ]; exact S.fq) (by rw [hR]; exact S.fr) ejk
   ·rw [hA0] at bx; rw [hQ, hR, z]; rw [z] at bx; omega
   ·rw [hA0] at by'; rw [hQ, hR, z]; rw [z] at by'; omega
  by_cases hB0 : s * crsC c r p = 0
  ·refine use2 k i _ _ 0 hC hA (by omega) (by omega) ?_ ?_ (by rw [hR]; exact S.fr) (by rw [hP]; exact S.fp) eki
   ·rw [hB0] at bx; rw [hR, hP, z]; rw [z] at bx; omega
   ·rw [hB0] at by'; rw [hR, hP, z]; rw [z] at by'; omega
  have rel : s * crsC c q r * (s * crsC c p v) + s * crsC c r p * (s * crsC c q v) + s * crsC c p q * (s * crsC c r v) = 0 := by
   have : crsC c q r * crsC c p v + crsC c r p * crsC c q v + crsC c p q * crsC c r v = 0 := by unfold crsC; grind
   grind
  have cone : ∀ (i j : Nat), farC c (pt l i) = c.R → farC c (pt l j) = c.R → enc3 l i j m → 0 < s * crsC c (pt l i) (pt l j) → s * crsC c (pt l i) v ≤ 0 → 0 ≤ s * crsC c (pt l j) v → ∃ y ∈ cands l, ltC c y.c := by
   intro i j f1 f2 e h1 h2 h3
   obtain ⟨cx, cy⟩ := cross_bal c (pt l i) (pt l j) v
   have sw := crs_swap c (pt l i) v
   refine use2 i j (s * crsC c (pt l j) v) (s * crsC c v (pt l i)) (s * crsC c (pt l i) (pt l j)) h3 (by rw [sw, Int.mul_neg]; omega) (by omega) (by rw [sw, Int.mul_neg]; omega) ?_ ?_ f1 f2 e
   ·rw [hV]; exact cone_eq s cx
   ·rw [hV]; exact cone_eq s cy
  rcases sign_pick (by omega : 0 < s * crsC c q r) (by omega : 0 < s * crsC c r p) (by omega : 0 < s * crsC c p q) rel with ⟨h1, h2⟩ | ⟨h1, h2⟩ | ⟨h1, h2⟩
  ·exact cone i j (by rw [hP]; exact S.fp) (by rw [hQ]; exact S.fq) eij (by rw [hP, hQ]; omega) (by rw [hP]; exact h1) (by rw [hQ]; exact h2)
  ·exact cone j k (by rw [hQ]; exact S.fq) (by rw [hR]; exact S.fr) ejk (by rw [hQ, hR]; omega) (by rw [hQ]; exact h1) (by rw [hR]; exact h2)
  ·exact cone k i (by rw [hR]; exact S.fr) (by rw [hP]; exact S.fp) eki (by rw [hR, hP]; omega) (by rw [hR]; exact h1) (by rw [hP]; exact h2)
theorem lt_trans3 {x y h : Ci} (hx : 0 < x.D) (hy : 0 < y.D) (hh : 0 < h.D) (h1 : ¬ ltC x y) (h2 : ltC x h) : ¬ ltC h y := by
 unfold ltC at *
 have xx := Int.mul_pos hx hx
 have yy := Int.mul_pos hy hy
 have hhh := Int.mul_pos hh hh
 generalize x.D * x.D = a at *
 generalize y.D * y.D = b at *
 generalize h.D * h.D = d at *
 have e1 : d * (a * y.R) ≤ d * (b * x.R) := Int.mul_le_mul_of_nonneg_left (by omega) (by omega)
 have e2 : b * (d * x.R) ≤ b * (a * h.R) := Int.mul_le_mul_of_nonneg_left (by omega) (by omega)
 have e3 : a * (d * y.R) ≤ a * (b * h.R) := by
  have f1 : a * (d * y.R) = d * (a * y.R) := by grind
  have f2 : d * (b * x.R) = b * (d * x.R) := by grind
  have f3 : b * (a * h.R) = a * (b * h.R) := by grind
  omega
 have := Int.le_of_mul_le_mul_left e3 xx
 omega
theorem greatest : ∀ (L : List Cand), L ≠ [] → (∀ x ∈ L, 0 < x.c.D) → ∃ x ∈ L, ∀ y ∈ L, ¬ ltC x.c y.c
 | [], h, _ => absurd rfl h
 | [x], _, _ => ⟨x, List.mem_cons_self .., fun y hy => by
   obtain rfl := List.mem_singleton.1 hy
   unfold ltC; omega⟩
 | h :: x :: t, _, hD => by
  obtain ⟨z, hz, hmax⟩ := greatest (x :: t) (by simp) (fun y hy => hD y (List.mem_cons_of_mem _ hy))
  by_cases hlt : ltC z.c h.c
  ·refine ⟨h, List.mem_cons_self .., fun y hy => ?_⟩
   rcases List.mem_cons.1 hy with rfl | hy
   ·unfold ltC; omega
   ·exact lt_trans3 (hD z (List.mem_cons_of_mem _ hz)) (hD y (List.mem_cons_of_mem _ hy)) (hD h (List.mem_cons_self ..)) (hmax y hy) hlt
  ·refine ⟨z, List.mem_cons_of_mem _ hz, fun y hy => ?_⟩
   rcases List.mem_cons.1 hy with rfl | hy
   ·exact hlt
   ·exact hmax y hy
theorem enc_exists {l : List S28} (hl : 0 < l.length) : ∃ x ∈ cands l, enclosesC x.c l = true := by
 obtain ⟨x, hx, hmax⟩ := greatest (cands l) (by unfold cands; simp) (fun x hx => by
  obtain ⟨_, _, _, _, _, _, S⟩ := cands_sup hl hx
  exact S.pos)
 refine ⟨x, hx, ?_⟩
 unfold enclosesC
 rw [Bool.not_eq_true', ← Bool.not_eq_true, List.any_eq_true]
 rintro ⟨p, hp, ho⟩
 obtain ⟨m, hm, rfl⟩ := List.getElem_of_mem hp
 have e : pt l m = l[m] := by unfold pt; simp [hm]
 unfold outC at ho
 rw [decide_eq_true_eq, ← e] at ho
 obtain ⟨y, hy, hlt⟩ := improve hx hm ho
 exact hmax y hy hlt
theorem enclose_some {l : List S28} (hl : 0 < l.length) : ∃ x, encloseL l = some x ∧ x ∈ cands l ∧ enclosesC x.c l = true := by
 obtain ⟨y, hy, he⟩ := enc_exists hl
 unfold encloseL
 cases h : (cands l).find? fun x => enclosesC x.c l with
 | none =>
  exfalso
  have := List.find?_eq_none.1 h y hy
  exact this he
 | some x => exact ⟨x, rfl, List.mem_of_find?_eq_some h, by simpa using List.find?_some h⟩
structure Best (l : List S28) (c : Ci) : Prop where
 enc : ∀ p ∈ l, farC c p ≤ c.R
 sup : ∃ p q r, p ∈ l ∧ q ∈ l ∧ r ∈ l ∧ Sup c p q r
theorem enc_all {l : List S28} {c : Ci} (h : enclosesC c l = true) : ∀ p ∈ l, farC c p ≤ c.R := by
 intro p hp
 unfold enclosesC at h
 rw [Bool.not_eq_true', ← Bool.not_eq_true, List.any_eq_true] at h
 refine Int.not_lt.1 fun hlt => h ⟨p, hp, ?_⟩
 unfold outC
 exact decide_eq_true hlt
theorem best_of {l : List S28} (hl : 0 < l.length) {x : Cand} (hx : x ∈ cands l) (h : enclosesC x.c l = true) : Best l x.c := ⟨enc_all h, cands_sup hl hx⟩
theorem Best.pos {l : List S28} {c : Ci} (h : Best l c) : 0 < c.D := by obtain ⟨_, _, _, _, _, _, S⟩ := h.sup; exact S.pos
theorem Best.one {l : List S28} {c : Ci} (h : Best l c) : gcd3 c = 1 := by obtain ⟨_, _, _, _, _, _, S⟩ := h.sup; exact S.one
theorem Best.le {l : List S28} {c c' : Ci} (h : Best l c) (h' : ∀ p ∈ l, farC c' p ≤ c'.R) :
  c'.D * c'.D * c.R + ((c.D * c'.X - c'.D * c.X) * (c.D * c'.X - c'.D * c.X) + (c.D * c'.Y - c'.D * c.Y) * (c.D * c'.Y - c'.D * c.Y)) ≤ c.D * c.D * c'.R := by
 obtain ⟨p, q, r, hp, hq, hr, S⟩ := h.sup
 obtain ⟨l1, l2, l3, b⟩ := S.bal
 exact least b S.fp S.fq S.fr (h' p hp) (h' q hq) (h' r hr)
theorem dvd_of_one {c c' : Ci} (h1 : gcd3 c' = 1) (hx : c.D * c'.X = c'.D * c.X) (hy : c.D * c'.Y = c'.D * c.Y) : c'.D.natAbs ∣ c.D.natAbs := by
 have h := h1
 unfold gcd3 at h
 have e : Nat.gcd (Nat.gcd c'.X.natAbs c'.Y.natAbs) c'.D.natAbs = 1 := by omega
 have d1 : c'.D.natAbs ∣ c.D.natAbs * c'.X.natAbs := by rw [← Int.natAbs_mul, hx, Int.natAbs_mul]; exact Nat.dvd_mul_right _ _
 have d2 : c'.D.natAbs ∣ c.D.natAbs * c'.Y.natAbs := by rw [← Int.natAbs_mul, hy, Int.natAbs_mul]; exact Nat.dvd_mul_right _ _
 have d3 : c'.D.natAbs ∣ c.D.natAbs * c'.D.natAbs := Nat.dvd_mul_left _ _
 have := Nat.dvd_gcd (Nat.dvd_gcd d1 d2) d3
 rw [Nat.gcd_mul_left, Nat.gcd_mul_left, e, Nat.mul_one] at this
 exact this
theorem best_unique {l : List S28} {c c' : Ci} (h : Best l c) (h' : Best l c') : c = c' := by
 have a := h.le h'.enc
 have b := h'.le h.enc
 have z1 := ssq_nonneg (c.D * c'.X - c'.D * c.X) (c.D * c'.Y - c'.D * c.Y)
 have z2 := ssq_nonneg (c'.D * c.X - c.D * c'.X) (c'.D * c.Y - c.D * c'.Y)
 obtain ⟨hx, hy⟩ := ssq_zero (a := c.D * c'.X - c'.D * c.X) (b := c.D * c'.Y - c'.D * c.Y) (by omega)
 have hx' : c.D * c'.X = c'.D * c.X := by omega
 have hy' : c.D * c'.Y = c'.D * c.Y := by omega
 have p := h.pos
 have p' := h'.pos
 have e1 := dvd_of_one h'.one hx' hy'
 have e2 := dvd_of_one h.one hx'.symm hy'.symm
 have e3 := Nat.dvd_antisymm e1 e2
 have eD : c.D = c'.D := by omega
 have eX : c.X = c'.X := by
  rw [eD] at hx'
  exact (Int.eq_of_mul_eq_mul_left (by omega) hx').symm
 have eY : c.Y = c'.Y := by
  rw [eD] at hy'
  exact (Int.eq_of_mul_eq_mul_left (by omega) hy').symm
 have eR : c.R = c'.R := by
  have hp := Int.mul_pos p' p'
  have r1 : c'.D * c'.D * c.R ≤ c.D * c.D * c'.R := by omega
  have r2 : c.D * c.D * c'.R ≤ c'.D * c'.D * c.R := by omega
  rw [eD] at r1 r2
  exact Int.le_antisymm (Int.le_of_mul_le_mul_left r1 hp) (Int.le_of_mul_le_mul_left r2 hp)
 obtain ⟨X, Y, D, R⟩ := c
 obtain ⟨X', Y', D', R'⟩ := c'
 simp only at eX eY eD eR
 rw [eX, eY, eD, eR]
end Go.Proofs.Ytplhfbkejngioaa.X
namespace Go.Proofs.Ytplhfbkejngioaa.X
open Go.RowKit Go.Proofs.YtplhfbkejngioaaW.PrintWords Go.Proofs.YtplhfbkejngioaaW.PrintLast Go.Proofs.Ytplhfbkejngioaa.S
attribute [local go_sem] max2_int min2_int max_two min_two
set_option linter.unusedVariables false
set_option linter.unusedSimpArgs false
def cover_isCircle.f (k : Nat) (a0_0 : Int) (a0_1 : Int) (a0_2 : Int) (a0_3 : Int) : Option (Bool) := (cover_within.f a0_2 1 1048576).bind fun t468 => (if t468 = true then ((cover_within.f a0_0 (-536870912) 536870912).bind fun t469 => (if t469 = true then ((cover_within.f a0_1 (-536870912) 536870912).bind fun t470 => (if t470 = true then ((cover_within.f a0_3 0 1152921504606846976).bind fun t471 => (if t471 = true then ((cover_gcd.f k a0_0 a0_1).bind fun t472 => ((cover_gcd.f k t472 a0_2).bind fun t473 => (some (t473 == 1)))) else (some false))) else (some false))) else (some false))) else (some false))
theorem cover_isCircle.mono : ∀ a0 a1 a2 a3 k, LeO (cover_isCircle.f k a0 a1 a2 a3) (cover_isCircle.f (k + 1) a0 a1 a2 a3) := by
 intro a0 a1 a2 a3 k
 unfold cover_isCircle.f
 repeat' first
   | (with_reducible exact cover_gcd.mono _ _ _)
   | (with_reducible exact LeO.refl _)
   | (with_reducible exact LeO.none _)
   | (with_reducible refine LeO.ite ?_ ?_)
   | (with_reducible refine LeO.bind ?_ (fun _ => ?_))
   | exact cover_gcd.mono _ _ _
   | exact LeO.none _
   | refine LeO.ite ?_ ?_
   | refine LeO.bind ?_ (fun _ => ?_)
def cover_isCircle.T1 : Bool × List (List Nat × List Nat) := (true, [([], []), ([0], [0]), ([1], [1]), ([2, 2], [2]), ([3], [3]), ([4, 3], [3, 4]), ([5, 3, 3], [3, 5]), ([3, 6], [3, 6]), ([7, 6], [7]), ([8], [8]), ([9, 8], [8, 9]), ([10, 8, 8], [8, 10]), ([8, 11], [8, 11]), ([12, 11], [12]), ([13], [13]), ([14, 13], [13, 14]), ([15, 13, 13], [13, 15]), ([13, 16], [13, 16]), ([17, 16], [17]), ([18], [18]), ([19, 18], [18, 19]), ([18], [18]), ([21, 18], [18, 21]), ([20, 22, 18, 18], [18, 20, 22]), ([18], [18]), ([24, 18], [18, 24]), ([23, 25, 23, 18], [18, 23, 25]), ([26, 18], [18, 26]), ([18, 27], [18, 27]), ([28, 26, 0, 1, 2, 3, 4, 5, 6, 7, 8, 9, 10, 11, 12, 13, 14, 15, 16, 17, 18, 19, 20, 21, 22, 23, 24, 25, 26, 27, 28], [28])])
def cover_isCircle.B1 : List Nat := [0, 1, 3, 7, 15, 31, 63, 127, 255, 511, 1023, 2047, 4095, 8191, 16383, 32767, 65535, 131071, 262143, 524287, 1048575, 524287, 2621439, 8388607, 524287, 17301503, 67108863, 134217727, 268435455, 536870911]
theorem cover_isCircle.tab1 : rtab .any (opsOf Try.f57 1) = cover_isCircle.T1 := by kernel_rfl
theorem cover_isCircle.bits1 : waitsOk cover_isCircle.T1.2 cover_isCircle.B1 = true := by kernel_rfl
set_option maxHeartbeats 8000000 in
set_option maxRecDepth 100000 in
theorem cover_isCircle.calls (k : Nat) (a0_0 : Int) (a0_1 : Int) (a0_2 : Int) (a0_3 : Int) (r : Bool) (w : World) (h : cover_isCircle.f k a0_0 a0_1 a0_2 a0_3 = some r) :
  Calls Try.prog 57 #[.agg #[.int .i64 a0_0, .int .i64 a0_1, .int .i64 a0_2, .int .i64 a0_3]] w fun e w' => e = .returned (.bool r) ∧ Below w.heap.size w w' := by
 have hu40 := Try.underlying40
 have HB := Aside0.mk (Below.refl w.heap.size w)
 have H : ((cover_within.f a0_2 1 1048576).bind fun t468 => (if t468 = true then ((cover_within.f a0_0 (-536870912) 536870912).bind fun t469 => (if t469 = true then ((cover_within.f a0_1 (-536870912) 536870912).bind fun t470 => (if t470 = true then ((cover_within.f a0_3 0 1152921504606846976).bind fun t471 => (if t471 = true then ((cover_gcd.f k a0_0 a0_1).bind fun t472 => ((cover_gcd.f k t472 a0_2).bind fun t473 => (some (t473 == 1)))) else (some false))) else (some false))) else (some false))) else (some false))) = some r := h
 clear h
 replace H := Option.bind_eq_some_iff.mp H
 obtain ⟨t468, A20, H⟩ := H
 replace H : (if t468 = true then ((cover_within.f a0_0 (-536870912) 536870912).bind fun t469 => (if t469 = true then ((cover_within.f a0_1 (-536870912) 536870912).bind fun t470 => (if t470 = true then ((cover_within.f a0_3 0 1152921504606846976).bind fun t471 => (if t471 = true then ((cover_gcd.f k a0_0 a0_1).bind fun t472 => ((cover_gcd.f k t472 a0_2).bind fun t473 => (some (t473 == 1)))) else (some false))) else (some false))) else (some false))) else (some false)) = some r := H
 have A2 := Aside0.mk A20
 clear A20
 by_cases c3 : t468 = true
 ·subst c3
  have H1 : ((cover_within.f a0_0 (-536870912) 536870912).bind fun t469 => (if t469 = true then ((cover_within.f a0_1 (-536870912) 536870912).bind fun t470 => (if t470 = true then ((cover_within.f a0_3 0 1152921504606846976).bind fun t471 => (if t471 = true then ((cover_gcd.f k a0_0 a0_1).bind fun t472 => ((cover_gcd.f k t472 a0_2).bind fun t473 => (some (t473 == 1)))) else (some false))) else (some false))) else (some false))) = some r := by rw [if_pos rfl] at H; exact H
  clear H
  have H := H1
  clear H1
  replace H := Option.bind_eq_some_iff.mp H
  obtain ⟨t469, A40, H⟩ := H
  replace H : (if t469 = true then ((cover_within.f a0_1 (-536870912) 536870912).bind fun t470 => (if t470 = true then ((cover_within.f a0_3 0 1152921504606846976).bind fun t471 => (if t471 = true then ((cover_gcd.f k a0_0 a0_1).bind fun t472 => ((cover_gcd.f k t472 a0_2).bind fun t473 => (some (t473 == 1)))) else (some false))) else (some false))) else (some false)) = some r := H
  have A4 := Aside0.mk A40
  clear A40
  by_cases c5 : t469 = true
  ·subst c5
   have H1 : ((cover_within.f a0_1 (-536870912) 536870912).bind fun t470 => (if t470 = true then ((cover_within.f a0_3 0 1152921504606846976).bind fun t471 => (if t471 = true then ((cover_gcd.f k a0_0 a0_1).bind fun t472 => ((cover_gcd.f k t472 a0_2).bind fun t473 => (some (t473 == 1)))) else (some false))) else (some false))) = some r := by rw [if_pos rfl] at H; exact H
   clear H
   have H := H1
   clear H1
   replace H := Option.bind_eq_some_iff.mp H
   obtain ⟨t470, A60, H⟩ := H
   replace H : (if t470 = true then ((cover_within.f a0_3 0 1152921504606846976).bind fun t471 => (if t471 = true then ((cover_gcd.f k a0_0 a0_1).bind fun t472 => ((cover_gcd.f k t472 a0_2).bind fun t473 => (some (t473 == 1)))) else (some false))) else (some false)) = some r := H
   have A6 := Aside0.mk A60
   clear A60
   by_cases c7 : t470 = true
   ·subst c7
    have H1 : ((cover_within.f a0_3 0 1152921504606846976).bind fun t471 => (if t471 = true then ((cover_gcd.f k a0_0 a0_1).bind fun t472 => ((cover_gcd.f k t472 a0_2).bind fun t473 => (some (t473 == 1)))) else (some false))) = some r := by rw [if_pos rfl] at H; exact H
    clear H
    have H := H1
    clear H1
    replace H := Option.bind_eq_some_iff.mp H
    obtain ⟨t471, A80, H⟩ := H
    replace H : (if t471 = true then ((cover_gcd.f k a0_0 a0_1).bind fun t472 => ((cover_gcd.f k t472 a0_2).bind fun t473 => (some (t473 == 1)))) else (some false)) = some r := H
    have A8 := Aside0.mk A80
    clear A80
    by_cases c9 : t471 = true
    ·subst c9
     have H1 : ((cover_gcd.f k a0_0 a0_1).bind fun t472 => ((cover_gcd.f k t472 a0_2).bind fun t473 => (some (t473 == 1)))) = some r := by rw [if_pos rfl] at H; exact H
     clear H
     have H := H1
     clear H1
     replace H := Option.bind_eq_some_iff.mp H
     obtain ⟨t472, A100, H⟩ := H
     replace H : ((cover_gcd.f k t472 a0_2).bind fun t473 => (some (t473 == 1))) = some r := H
     have A10 := Aside0.mk A100
     clear A100
     replace H := Option.bind_eq_some_iff.mp H
     obtain ⟨t473, A110, H⟩ := H
     replace H : (some (t473 == 1)) = some r := H
     have A11 := Aside0.mk A110
     clear A110
     obtain rfl := Option.some.inj H
     go_enter Try.func57, Try.ntmps57
     try go_wp2_with (first | ((with_reducible refine gate_dst (N := 1) rfl ?_); refine bxE 1 #[.int .i64 a0_0, .int .i64 a0_1, .int .i64 a0_2, .int .i64 a0_3] 40 ?_; intro gb467 hg w12 hbox hb; have n0_ := Aside0.mk (below_step HBz hb); have n1_ := Aside0.mk (hbox); have n2_ := Aside0.mk ((by rw [hg]; exact (below_size HBz) : w.heap.size ≤ gb467)); have n3_ := Aside0.mk ((by rw [hg]; exact (below_size HBz) : w.heap.size ≤ gb467)); clear HB; have HB := n0_; have BK467 := n1_; have GW467 := n2_; have GE467 := n3_; clear n0_ n1_ n2_ n3_; clear hb hbox hg))
     have n0_ := Aside0.mk (blk_drew BK467.out)
     have n1_ := Aside0.mk (below_drew1 HB.out)
     clear BK467
     clear HB
     have BK467 := n0_
     have HB := n1_
     clear n0_ n1_
     refine stz (fun w' => w'.cell? ⟨gb467, 0, none⟩ = some (.int .i64 a0_0) ∧ w'.cell? ⟨gb467, 1, none⟩ = some (.int .i64 a0_1) ∧ w'.cell? ⟨gb467, 2, none⟩ = some (.int .i64 a0_2) ∧ w'.cell? ⟨gb467, 3, none⟩ = some (.int .i64 a0_3)) [] (bn 30 0) ⟨(blk_cell BK467.out 0).trans rfl, (blk_cell BK467.out 1).trans rfl, (blk_cell BK467.out 2).trans rfl, (blk_cell BK467.out 3).trans rfl⟩ (fun hHeld => ?_); refine with_tabW cover_isCircle.tab1 cover_isCircle.bits1 (fun HT_ HW_ => ?_)
     generalize w12.drew = w13 at BK467 HB hHeld ⊢
     refine pT HT_.out 0 (some 3) (bn 30 1) ?_
     refine tT HT_.out HW_.out 1 (some 4) (bn 30 3) hHeld ?_
     refine oT HT_.out 2 (some 5) (bn 30 7) (fun K hK => ?_)
     refine gz Try.func61 #[.int .i64 a0_2, .int .i64 1, .int .i64 1048576] ?_
     with_reducible refine (cover_within.calls a0_2 1 1048576 true _ A2.out).mono ?_
     rintro e w' ⟨rfl, ⟨nd, rfl⟩⟩
     refine ⟨_, rfl, ?_⟩
     refine hK.out _ _ ⟨(blk_cell BK467.out 0).trans rfl, (blk_cell BK467.out 1).trans rfl, (blk_cell BK467.out 2).trans rfl, (blk_cell BK467.out 3).trans rfl⟩ (fun hHeld => ?_)
     clear hK K
     refine nz (some 5) ?_
     refine pT HT_.out 3 (some 6) (bn 30 15) ?_
     refine pT HT_.out 4 (some 7) (bn 30 31) ?_
     refine tT HT_.out HW_.out 5 (some 8) (bn 30 63) hHeld ?_
     refine oT HT_.out 6 (some 9) (bn 30 127) (fun K hK => ?_)
     refine gz Try.func61 #[.int .i64 a0_0, .int .i64 (-536870912), .int .i64 536870912] ?_
     with_reducible refine (cover_within.calls a0_0 (-536870912) 536870912 true _ A4.out).mono ?_
     rintro e w' ⟨rfl, ⟨nd, rfl⟩⟩
     refine ⟨_, rfl, ?_⟩
     refine hK.out _ _ ⟨(blk_cell BK467.out 0).trans rfl, (blk_cell BK467.out 1).trans rfl, (blk_cell BK467.out 2).trans rfl, (blk_cell BK467.out 3).trans rfl⟩ (fun hHeld => ?_)
     clear hK K
     refine nz (some 9) ?_
     refine pT HT_.out 7 (some 10) (bn 30 255) ?_
     refine pT HT_.out 8 (some 11) (bn 30 511) ?_
     refine pT HT_.out 9 (some 12) (bn 30 1023) ?_
     refine tT HT_.out HW_.out 10 (some 13) (bn 30 2047) hHeld ?_
     refine oT HT_.out 11 (some 14) (bn 30 4095) (fun K hK => ?_)
     refine gz Try.func61 #[.int .i64 a0_1, .int .i64 (-536870912), .int .i64 536870912] ?_
     with_reducible refine (cover_within.calls a0_1 (-536870912) 536870912 true _ A6.out).mono ?_
     rintro e w' ⟨rfl, ⟨nd, rfl⟩⟩
     refine ⟨_, rfl, ?_⟩
     refine hK.out _ _ ⟨(blk_cell BK467.out 0).trans rfl, (blk_cell BK467.out 1).trans rfl, (blk_cell BK467.out 2).trans rfl, (blk_cell BK467.out 3).trans rfl⟩ (fun hHeld => ?_)
     clear hK K
     refine nz (some 14) ?_
     refine pT HT_.out 12 (some 15) (bn 30 8191) ?_
     refine pT HT_.out 13 (some 16) (bn 30 16383) ?_
     refine pT HT_.out 14 (some 17) (bn 30 32767) ?_
     refine tT HT_.out HW_.out 15 (some 18) (bn 30 65535) hHeld ?_
     refine oT HT_.out 16 (some 19) (bn 30 131071) (fun K hK => ?_)
     refine gz Try.func61 #[.int .i64 a0_3, .int .i64 0, .int .i64 1152921504606846976] ?_
     with_reducible refine (cover_within.calls a0_3 0 1152921504606846976 true _ A8.out).mono ?_
     rintro e w' ⟨rfl, ⟨nd, rfl⟩⟩
     refine ⟨_, rfl, ?_⟩
     refine hK.out _ _ ⟨(blk_cell BK467.out 0).trans rfl, (blk_cell BK467.out 1).trans rfl, (blk_cell BK467.out 2).trans rfl, (blk_cell BK467.out 3).trans rfl⟩ (fun hHeld => ?_)
     clear hK K
     refine nz (some 19) ?_
     refine pT HT_.out 17 (some 20) (bn 30 262143) ?_
     refine pT HT_.out 18 (some 21) (bn 30 524287) ?_
     refine pT HT_.out 19 (some 22) (bn 30 1048575) ?_
     refine pT HT_.out 21 (some 24) (bn 30 3145727) ?_
     refine pT HT_.out 24 (some 27) (bn 30 19922943) ?_
     refine tT HT_.out HW_.out 20 (some 23) (bn 30 20971519) hHeld ?_
     refine tT HT_.out HW_.out 22 (some 25) (bn 30 25165823) hHeld ?_
     refine tT HT_.out HW_.out 25 (some 28) (bn 30 58720255) hHeld ?_
     refine oT HT_.out 23 (some 26) (bn 30 67108863) (fun K hK => ?_)
     refine gz Try.func84 #[.int .i64 a0_0, .int .i64 a0_1] ?_
     with_reducible refine (cover_gcd.calls k a0_0 a0_1 t472 _ A10.out).mono ?_
     rintro e w14 ⟨rfl, hb⟩
     refine ⟨_, rfl, ?_⟩
     have n0_ := Aside0.mk (blk_below (g := gb467) BKz hb)
     have n1_ := Aside0.mk (below_step HBz hb)
     clear BK467
     clear HB
     have BK467 := n0_
     have HB := n1_
     clear n0_ n1_
     (try clear hb)
     (try clear hb2)
     (try clear hk)
     (try clear hi)
     refine hK.out _ _ ⟨(blk_cell BK467.out 0).trans rfl, (blk_cell BK467.out 1).trans rfl, (blk_cell BK467.out 2).trans rfl, (blk_cell BK467.out 3).trans rfl⟩ (fun hHeld => ?_)
     clear hK K
     refine nz (some 26) ?_
     refine oT HT_.out 26 (some 29) (bn 30 134217727) (fun K hK => ?_)
     refine gz Try.func84 #[.int .i64 t472, .int .i64 a0_2] ?_
     with_reducible refine (cover_gcd.calls k t472 a0_2 t473 _ A11.out).mono ?_
     rintro e w15 ⟨rfl, hb⟩
     refine ⟨_, rfl, ?_⟩
     have n0_ := Aside0.mk (blk_below (g := gb467) BKz hb)
     have n1_ := Aside0.mk (below_step HBz hb)
     clear BK467
     clear HB
     have BK467 := n0_
     have HB := n1_
     clear n0_ n1_
     (try clear hb)
     (try clear hb2)
     (try clear hk)
     (try clear hi)
     refine hK.out _ _ ⟨(blk_cell BK467.out 0).trans rfl, (blk_cell BK467.out 1).trans rfl, (blk_cell BK467.out 2).trans rfl, (blk_cell BK467.out 3).trans rfl⟩ (fun hHeld => ?_)
     clear hK K
     refine nz (some 29) ?_
     refine pT HT_.out 27 (some 30) (bn 30 268435455) ?_
     refine pT HT_.out 28 (some 31) (bn 30 536870911) ?_
     refine pT HT_.out 29 (some 2) (bn 30 1073741823) ?_
     refine done_ (done_of HT_.out (by kernel_rfl)) ?_
     try go_wp2
     go_ret
     exact ⟨by first | rfl | (simp [errW_none, errW_some] <;> rfl) | (simp [*, errW_none, errW_some] <;> rfl), HBz⟩
    ·replace c9 := Bool.eq_false_iff.mpr c9
     subst c9
     have H1 : (some false) = some r := by rw [if_neg (show ¬ (false = true) by decide)] at H; exact H
     clear H
     have H := H1
     clear H1
     obtain rfl := Option.some.inj H
     go_enter Try.func57, Try.ntmps57
     try go_wp2_with (first | ((with_reducible refine gate_dst (N := 1) rfl ?_); refine bxE 1 #[.int .i64 a0_0, .int .i64 a0_1, .int .i64 a0_2, .int .i64 a0_3] 40 ?_; intro gb467 hg w16 hbox hb; have n0_ := Aside0.mk (below_step HBz hb); have n1_ := Aside0.mk (hbox); have n2_ := Aside0.mk ((by rw [hg]; exact (below_size HBz) : w.heap.size ≤ gb467)); have n3_ := Aside0.mk ((by rw [hg]; exact (below_size HBz) : w.heap.size ≤ gb467)); clear HB; have HB := n0_; have BK467 := n1_; have GW467 := n2_; have GE467 := n3_; clear n0_ n1_ n2_ n3_; clear hb hbox hg))
     have n0_ := Aside0.mk (blk_drew BK467.out)
     have n1_ := Aside0.mk (below_drew1 HB.out)
     clear BK467
     clear HB
     have BK467 := n0_
     have HB := n1_
     clear n0_ n1_
     refine stz (fun w' => w'.cell? ⟨gb467, 0, none⟩ = some (.int .i64 a0_0) ∧ w'.cell? ⟨gb467, 1, none⟩ = some (.int .i64 a0_1) ∧ w'.cell? ⟨gb467, 2, none⟩ = some (.int .i64 a0_2) ∧ w'.cell? ⟨gb467, 3, none⟩ = some (.int .i64 a0_3)) [] (bn 30 0) ⟨(blk_cell BK467.out 0).trans rfl, (blk_cell BK467.out 1).trans rfl, (blk_cell BK467.out 2).trans rfl, (blk_cell BK467.out 3).trans rfl⟩ (fun hHeld => ?_); refine with_tabW cover_isCircle.tab1 cover_isCircle.bits1 (fun HT_ HW_ => ?_)
     generalize w16.drew = w17 at BK467 HB hHeld ⊢
     refine pT HT_.out 0 (some 3) (bn 30 1) ?_
     refine tT HT_.out HW_.out 1 (some 4) (bn 30 3) hHeld ?_
     refine oT HT_.out 2 (some 5) (bn 30 7) (fun K hK => ?_)
     refine gz Try.func61 #[.int .i64 a0_2, .int .i64 1, .int .i64 1048576] ?_
     with_reducible refine (cover_within.calls a0_2 1 1048576 true _ A2.out).mono ?_
     rintro e w' ⟨rfl, ⟨nd, rfl⟩⟩
     refine ⟨_, rfl, ?_⟩
     refine hK.out _ _ ⟨(blk_cell BK467.out 0).trans rfl, (blk_cell BK467.out 1).trans rfl, (blk_cell BK467.out 2).trans rfl, (blk_cell BK467.out 3).trans rfl⟩ (fun hHeld => ?_)
     clear hK K
     refine nz (some 5) ?_
     refine pT HT_.out 3 (some 6) (bn 30 15) ?_
     refine pT HT_.out 4 (some 7) (bn 30 31) ?_
     refine tT HT_.out HW_.out 5 (some 8) (bn 30 63) hHeld ?_
     refine oT HT_.out 6 (some 9) (bn 30 127) (fun K hK => ?_)
     refine gz Try.func61 #[.int .i64 a0_0, .int .i64 (-536870912), .int .i64 536870912] ?_
     with_reducible refine (cover_within.calls a0_0 (-536870912) 536870912 true _ A4.out).mono ?_
     rintro e w' ⟨rfl, ⟨nd, rfl⟩⟩
     refine ⟨_, rfl, ?_⟩
     refine hK.out _ _ ⟨(blk_cell BK467.out 0).trans rfl, (blk_cell BK467.out 1).trans rfl, (blk_cell BK467.out 2).trans rfl, (blk_cell BK467.out 3).trans rfl⟩ (fun hHeld => ?_)
     clear hK K
     refine nz (some 9) ?_
     refine pT HT_.out 7 (some 10) (bn 30 255) ?_
     refine pT HT_.out 8 (some 11) (bn 30 511) ?_
     refine pT HT_.out 9 (some 12) (bn 30 1023) ?_
     refine tT HT_.out HW_.out 10 (some 13) (bn 30 2047) hHeld ?_
     refine oT HT_.out 11 (some 14) (bn 30 4095) (fun K hK => ?_)
     refine gz Try.func61 #[.int .i64 a0_1, .int .i64 (-536870912), .int .i64 536870912] ?_
     with_reducible refine (cover_within.calls a0_1 (-536870912) 536870912 true _ A6.out).mono ?_
     rintro e w' ⟨rfl, ⟨nd, rfl⟩⟩
     refine ⟨_, rfl, ?_⟩
     refine hK.out _ _ ⟨(blk_cell BK467.out 0).trans rfl, (blk_cell BK467.out 1).trans rfl, (blk_cell BK467.out 2).trans rfl, (blk_cell BK467.out 3).trans rfl⟩ (fun hHeld => ?_)
     clear hK K
     refine nz (some 14) ?_
     refine pT HT_.out 12 (some 15) (bn 30 8191) ?_
     refine pT HT_.out 13 (some 16) (bn 30 16383) ?_
     refine pT HT_.out 14 (some 17) (bn 30 32767) ?_
     refine tT HT_.out HW_.out 15 (some 18) (bn 30 65535) hHeld ?_
     refine oT HT_.out 16 (some 19) (bn 30 131071) (fun K hK => ?_)
     refine gz Try.func61 #[.int .i64 a0_3, .int .i64 0, .int .i64 1152921504606846976] ?_
     with_reducible refine (cover_within.calls a0_3 0 1152921504606846976 false _ A8.out).mono ?_
     rintro e w' ⟨rfl, ⟨nd, rfl⟩⟩
     refine ⟨_, rfl, ?_⟩
     refine hK.out _ _ ⟨(blk_cell BK467.out 0).trans rfl, (blk_cell BK467.out 1).trans rfl, (blk_cell BK467.out 2).trans rfl, (blk_cell BK467.out 3).trans rfl⟩ (fun hHeld => ?_)
     clear hK K
     refine nz (some 19) ?_
     refine pT HT_.out 17 (some 20) (bn 30 262143) ?_
     refine pT HT_.out 18 (some 21) (bn 30 524287) ?_
     refine pT0 HT_.out 19 (some 22) (bn 30 1048575) ?_
     refine pT0 HT_.out 20 (some 23) (bn 30 2097151) ?_
     refine pT0 HT_.out 21 (some 24) (bn 30 4194303) ?_
     refine pT0 HT_.out 22 (some 25) (bn 30 8388607) ?_
     refine pT0 HT_.out 23 (some 26) (bn 30 16777215) ?_
     refine pT0 HT_.out 24 (some 27) (bn 30 33554431) ?_
     refine pT0 HT_.out 25 (some 28) (bn 30 67108863) ?_
     refine pT0 HT_.out 26 (some 29) (bn 30 134217727) ?_
     refine pT0 HT_.out 27 (some 30) (bn 30 268435455) ?_
     refine pT HT_.out 28 (some 31) (bn 30 536870911) ?_
     refine pT HT_.out 29 (some 2) (bn 30 1073741823) ?_
     refine done_ (done_of HT_.out (by kernel_rfl)) ?_
     try go_wp2
     go_ret
     exact ⟨by first | rfl | (simp [errW_none, errW_some] <;> rfl) | (simp [*, errW_none, errW_some] <;> rfl), HBz⟩
   ·replace c7 := Bool.eq_false_iff.mpr c7
    subst c7
    have H1 : (some false) = some r := by rw [if_neg (show ¬ (false = true) by decide)] at H; exact H
    clear H
    have H := H1
    clear H1
    obtain rfl := Option.some.inj H
    go_enter Try.func57, Try.ntmps57
    try go_wp2_with (first | ((with_reducible refine gate_dst (N := 1) rfl ?_); refine bxE 1 #[.int .i64 a0_0, .int .i64 a0_1, .int .i64 a0_2, .int .i64 a0_3] 40 ?_; intro gb467 hg w18 hbox hb; have n0_ := Aside0.mk (below_step HBz hb); have n1_ := Aside0.mk (hbox); have n2_ := Aside0.mk ((by rw [hg]; exact (below_size HBz) : w.heap.size ≤ gb467)); have n3_ := Aside0.mk ((by rw [hg]; exact (below_size HBz) : w.heap.size ≤ gb467)); clear HB; have HB := n0_; have BK467 := n1_; have GW467 := n2_; have GE467 := n3_; clear n0_ n1_ n2_ n3_; clear hb hbox hg))
    have n0_ := Aside0.mk (blk_drew BK467.out)
    have n1_ := Aside0.mk (below_drew1 HB.out)
    clear BK467
    clear HB
    have BK467 := n0_
    have HB := n1_
    clear n0_ n1_
    refine stz (fun w' => w'.cell? ⟨gb467, 0, none⟩ = some (.int .i64 a0_0) ∧ w'.cell? ⟨gb467, 1, none⟩ = some (.int .i64 a0_1) ∧ w'.cell? ⟨gb467, 2, none⟩ = some (.int .i64 a0_2) ∧ w'.cell? ⟨gb467, 3, none⟩ = some (.int .i64 a0_3)) [] (bn 30 0) ⟨(blk_cell BK467.out 0).trans rfl, (blk_cell BK467.out 1).trans rfl, (blk_cell BK467.out 2).trans rfl, (blk_cell BK467.out 3).trans rfl⟩ (fun hHeld => ?_); refine with_tabW cover_isCircle.tab1 cover_isCircle.bits1 (fun HT_ HW_ => ?_)
    generalize w18.drew = w19 at BK467 HB hHeld ⊢
    refine pT HT_.out 0 (some 3) (bn 30 1) ?_
    refine tT HT_.out HW_.out 1 (some 4) (bn 30 3) hHeld ?_
    refine oT HT_.out 2 (some 5) (bn 30 7) (fun K hK => ?_)
    refine gz Try.func61 #[.int .i64 a0_2, .int .i64 1, .int .i64 1048576] ?_
    with_reducible refine (cover_within.calls a0_2 1 1048576 true _ A2.out).mono ?_
    rintro e w' ⟨rfl, ⟨nd, rfl⟩⟩
    refine ⟨_, rfl, ?_⟩
    refine hK.out _ _ ⟨(blk_cell BK467.out 0).trans rfl, (blk_cell BK467.out 1).trans rfl, (blk_cell BK467.out 2).trans rfl, (blk_cell BK467.out 3).trans rfl⟩ (fun hHeld => ?_)
    clear hK K
    refine nz (some 5) ?_
    refine pT HT_.out 3 (some 6) (bn 30 15) ?_
    refine pT HT_.out 4 (some 7) (bn 30 31) ?_
    refine tT HT_.out HW_.out 5 (some 8) (bn 30 63) hHeld ?_
    refine oT HT_.out 6 (some 9) (bn 30 127) (fun K hK => ?_)
    refine gz Try.func61 #[.int .i64 a0_0, .int .i64 (-536870912), .int .i64 536870912] ?_
    with_reducible refine (cover_within.calls a0_0 (-536870912) 536870912 true _ A4.out).mono ?_
    rintro e w' ⟨rfl, ⟨nd, rfl⟩⟩
    refine ⟨_, rfl, ?_⟩
    refine hK.out _ _ ⟨(blk_cell BK467.out 0).trans rfl, (blk_cell BK467.out 1).trans rfl, (blk_cell BK467.out 2).trans rfl, (blk_cell BK467.out 3).trans rfl⟩ (fun hHeld => ?_)
    clear hK K
    refine nz (some 9) ?_
    refine pT HT_.out 7 (some 10) (bn 30 255) ?_
    refine pT HT_.out 8 (some 11) (bn 30 511) ?_
    refine pT HT_.out 9 (some 12) (bn 30 1023) ?_
    refine tT HT_.out HW_.out 10 (some 13) (bn 30 2047) hHeld ?_
    refine oT HT_.out 11 (some 14) (bn 30 4095) (fun K hK => ?_)
    refine gz Try.func61 #[.int .i64 a0_1, .int .i64 (-536870912), .int .i64 536870912] ?_
    with_reducible refine (cover_within.calls a0_1 (-536870912) 536870912 false _ A6.out).mono ?_
    rintro e w' ⟨rfl, ⟨nd, rfl⟩⟩
    refine ⟨_, rfl, ?_⟩
    refine hK.out _ _ ⟨(blk_cell BK467.out 0).trans rfl, (blk_cell BK467.out 1).trans rfl, (blk_cell BK467.out 2).trans rfl, (blk_cell BK467.out 3).trans rfl⟩ (fun hHeld => ?_)
    clear hK K
    refine nz (some 14) ?_
    refine pT HT_.out 12 (some 15) (bn 30 8191) ?_
    refine pT HT_.out 13 (some 16) (bn 30 16383) ?_
    refine pT0 HT_.out 14 (some 17) (bn 30 32767) ?_
    refine pT0 HT_.out 15 (some 18) (bn 30 65535) ?_
    refine pT0 HT_.out 16 (some 19) (bn 30 131071) ?_
    refine pT HT_.out 17 (some 20) (bn 30 262143) ?_
    refine pT HT_.out 18 (some 21) (bn 30 524287) ?_
    refine pT0 HT_.out 19 (some 22) (bn 30 1048575) ?_
    refine pT0 HT_.out 20 (some 23) (bn 30 2097151) ?_
    refine pT0 HT_.out 21 (some 24) (bn 30 4194303) ?_
    refine pT0 HT_.out 22 (some 25) (bn 30 8388607) ?_
    refine pT0 HT_.out 23 (some 26) (bn 30 16777215) ?_
    refine pT0 HT_.out 24 (some 27) (bn 30 33554431) ?_
    refine pT0 HT_.out 25 (some 28) (bn 30 67108863) ?_
    refine pT0 HT_.out 26 (some 29) (bn 30 134217727) ?_
    refine pT0 HT_.out 27 (some 30) (bn 30 268435455) ?_
    refine pT HT_.out 28 (some 31) (bn 30 536870911) ?_
    refine pT HT_.out 29 (some 2) (bn 30 1073741823) ?_
    refine done_ (done_of HT_.out (by kernel_rfl)) ?_
    try go_wp2
    go_ret
    exact ⟨by first | rfl | (simp [errW_none, errW_some] <;> rfl) | (simp [*, errW_none, errW_some] <;> rfl), HBz⟩
  ·replace c5 := Bool.eq_false_iff.mpr c5
   subst c5
   have H1 : (some false) = some r := by rw [if_neg (show ¬ (false = true) by decide)] at H; exact H
   clear H
   have H := H1
   clear H1
   obtain rfl := Option.some.inj H
   go_enter Try.func57, Try.ntmps57
   try go_wp2_with (first | ((with_reducible refine gate_dst (N := 1) rfl ?_); refine bxE 1 #[.int .i64 a0_0, .int .i64 a0_1, .int .i64 a0_2, .int .i64 a0_3] 40 ?_; intro gb467 hg w20 hbox hb; have n0_ := Aside0.mk (below_step HBz hb); have n1_ := Aside0.mk (hbox); have n2_ := Aside0.mk ((by rw [hg]; exact (below_size HBz) : w.heap.size ≤ gb467)); have n3_ := Aside0.mk ((by rw [hg]; exact (below_size HBz) : w.heap.size ≤ gb467)); clear HB; have HB := n0_; have BK467 := n1_; have GW467 := n2_; have GE467 := n3_; clear n0_ n1_ n2_ n3_; clear hb hbox hg))
   have n0_ := Aside0.mk (blk_drew BK467.out)
   have n1_ := Aside0.mk (below_drew1 HB.out)
   clear BK467
   clear HB
   have BK467 := n0_
   have HB := n1_
   clear n0_ n1_
   refine stz (fun w' => w'.cell? ⟨gb467, 0, none⟩ = some (.int .i64 a0_0) ∧ w'.cell? ⟨gb467, 1, none⟩ = some (.int .i64 a0_1) ∧ w'.cell? ⟨gb467, 2, none⟩ = some (.int .i64 a0_2) ∧ w'.cell? ⟨gb467, 3, none⟩ = some (.int .i64 a0_3)) [] (bn 30 0) ⟨(blk_cell BK467.out 0).trans rfl, (blk_cell BK467.out 1).trans rfl, (blk_cell BK467.out 2).trans rfl, (blk_cell BK467.out 3).trans rfl⟩ (fun hHeld => ?_); refine with_tabW cover_isCircle.tab1 cover_isCircle.bits1 (fun HT_ HW_ => ?_)
   generalize w20.drew = w21 at BK467 HB hHeld ⊢
   refine pT HT_.out 0 (some 3) (bn 30 1) ?_
   refine tT HT_.out HW_.out 1 (some 4) (bn 30 3) hHeld ?_
   refine oT HT_.out 2 (some 5) (bn 30 7) (fun K hK => ?_)
   refine gz Try.func61 #[.int .i64 a0_2, .int .i64 1, .int .i64 1048576] ?_
   with_reducible refine (cover_within.calls a0_2 1 1048576 true _ A2.out).mono ?_
   rintro e w' ⟨rfl, ⟨nd, rfl⟩⟩
   refine ⟨_, rfl, ?_⟩
   refine hK.out _ _ ⟨(blk_cell BK467.out 0).trans rfl, (blk_cell BK467.out 1).trans rfl, (blk_cell BK467.out 2).trans rfl, (blk_cell BK467.out 3).trans rfl⟩ (fun hHeld => ?_)
   clear hK K
   refine nz (some 5) ?_
   refine pT HT_.out 3 (some 6) (bn 30 15) ?_
   refine pT HT_.out 4 (some 7) (bn 30 31) ?_
   refine tT HT_.out HW_.out 5 (some 8) (bn 30 63) hHeld ?_
   refine oT HT_.out 6 (some 9) (bn 30 127) (fun K hK => ?_)
   refine gz Try.func61 #[.int .i64 a0_0, .int .i64 (-536870912), .int .i64 536870912] ?_
   with_reducible refine (cover_within.calls a0_0 (-536870912) 536870912 false _ A4.out).mono ?_
   rintro e w' ⟨rfl, ⟨nd, rfl⟩⟩
   refine ⟨_, rfl, ?_⟩
   refine hK.out _ _ ⟨(blk_cell BK467.out 0).trans rfl, (blk_cell BK467.out 1).trans rfl, (blk_cell BK467.out 2).trans rfl, (blk_cell BK467.out 3).trans rfl⟩ (fun hHeld => ?_)
   clear hK K
   refine nz (some 9) ?_
   refine pT HT_.out 7 (some 10) (bn 30 255) ?_
   refine pT HT_.out 8 (some 11) (bn 30 511) ?_
   refine pT0 HT_.out 9 (some 12) (bn 30 1023) ?_
   refine pT0 HT_.out 10 (some 13) (bn 30 2047) ?_
   refine pT0 HT_.out 11 (some 14) (bn 30 4095) ?_
   refine pT HT_.out 12 (some 15) (bn 30 8191) ?_
   refine pT HT_.out 13 (some 16) (bn 30 16383) ?_
   refine pT0 HT_.out 14 (some 17) (bn 30 32767) ?_
   refine pT0 HT_.out 15 (some 18) (bn 30 65535) ?_
   refine pT0 HT_.out 16 (some 19) (bn 30 131071) ?_
   refine pT HT_.out 17 (some 20) (bn 30 262143) ?_
   refine pT HT_.out 18 (some 21) (bn 30 524287) ?_
   refine pT0 HT_.out 19 (some 22) (bn 30 1048575) ?_
   refine pT0 HT_.out 20 (some 23) (bn 30 2097151) ?_
   refine pT0 HT_.out 21 (some 24) (bn 30 4194303) ?_
   refine pT0 HT_.out 22 (some 25) (bn 30 8388607) ?_
   refine pT0 HT_.out 23 (some 26) (bn 30 16777215) ?_
   refine pT0 HT_.out 24 (some 27) (bn 30 33554431) ?_
   refine pT0 HT_.out 25 (some 28) (bn 30 67108863) ?_
   refine pT0 HT_.out 26 (some 29) (bn 30 134217727) ?_
   refine pT0 HT_.out 27 (some 30) (bn 30 268435455) ?_
   refine pT HT_.out 28 (some 31) (bn 30 536870911) ?_
   refine pT HT_.out 29 (some 2) (bn 30 1073741823) ?_
   refine done_ (done_of HT_.out (by kernel_rfl)) ?_
   try go_wp2
   go_ret
   exact ⟨by first | rfl | (simp [errW_none, errW_some] <;> rfl) | (simp [*, errW_none, errW_some] <;> rfl), HBz⟩
 ·replace c3 := Bool.eq_false_iff.mpr c3
  subst c3
  have H1 : (some false) = some r := by rw [if_neg (show ¬ (false = true) by decide)] at H; exact H
  clear H
  have H := H1
  clear H1
  obtain rfl := Option.some.inj H
  go_enter Try.func57, Try.ntmps57
  try go_wp2_with (first | ((with_reducible refine gate_dst (N := 1) rfl ?_); refine bxE 1 #[.int .i64 a0_0, .int .i64 a0_1, .int .i64 a0_2, .int .i64 a0_3] 40 ?_; intro gb467 hg w22 hbox hb; have n0_ := Aside0.mk (below_step HBz hb); have n1_ := Aside0.mk (hbox); have n2_ := Aside0.mk ((by rw [hg]; exact (below_size HBz) : w.heap.size ≤ gb467)); have n3_ := Aside0.mk ((by rw [hg]; exact (below_size HBz) : w.heap.size ≤ gb467)); clear HB; have HB := n0_; have BK467 := n1_; have GW467 := n2_; have GE467 := n3_; clear n0_ n1_ n2_ n3_; clear hb hbox hg))
  have n0_ := Aside0.mk (blk_drew BK467.out)
  have n1_ := Aside0.mk (below_drew1 HB.out)
  clear BK467
  clear HB
  have BK467 := n0_
  have HB := n1_
  clear n0_ n1_
  refine stz (fun w' => w'.cell? ⟨gb467, 0, none⟩ = some (.int .i64 a0_0) ∧ w'.cell? ⟨gb467, 1, none⟩ = some (.int .i64 a0_1) ∧ w'.cell? ⟨gb467, 2, none⟩ = some (.int .i64 a0_2) ∧ w'.cell? ⟨gb467, 3, none⟩ = some (.int .i64 a0_3)) [] (bn 30 0) ⟨(blk_cell BK467.out 0).trans rfl, (blk_cell BK467.out 1).trans rfl, (blk_cell BK467.out 2).trans rfl, (blk_cell BK467.out 3).trans rfl⟩ (fun hHeld => ?_); refine with_tabW cover_isCircle.tab1 cover_isCircle.bits1 (fun HT_ HW_ => ?_)
  generalize w22.drew = w23 at BK467 HB hHeld ⊢
  refine pT HT_.out 0 (some 3) (bn 30 1) ?_
  refine tT HT_.out HW_.out 1 (some 4) (bn 30 3) hHeld ?_
  refine oT HT_.out 2 (some 5) (bn 30 7) (fun K hK => ?_)
  refine gz Try.func61 #[.int .i64 a0_2, .int .i64 1, .int .i64 1048576] ?_
  with_reducible refine (cover_within.calls a0_2 1 1048576 false _ A2.out).mono ?_
  rintro e w' ⟨rfl, ⟨nd, rfl⟩⟩
  refine ⟨_, rfl, ?_⟩
  refine hK.out _ _ ⟨(blk_cell BK467.out 0).trans rfl, (blk_cell BK467.out 1).trans rfl, (blk_cell BK467.out 2).trans rfl, (blk_cell BK467.out 3).trans rfl⟩ (fun hHeld => ?_)
  clear hK K
  refine nz (some 5) ?_
  refine pT HT_.out 3 (some 6) (bn 30 15) ?_
  refine pT0 HT_.out 4 (some 7) (bn 30 31) ?_
  refine pT0 HT_.out 5 (some 8) (bn 30 63) ?_
  refine pT0 HT_.out 6 (some 9) (bn 30 127) ?_
  refine pT HT_.out 7 (some 10) (bn 30 255) ?_
  refine pT HT_.out 8 (some 11) (bn 30 511) ?_
  refine pT0 HT_.out 9 (some 12) (bn 30 1023) ?_
  refine pT0 HT_.out 10 (some 13) (bn 30 2047) ?_
  refine pT0 HT_.out 11 (some 14) (bn 30 4095) ?_
  refine pT HT_.out 12 (some 15) (bn 30 8191) ?_
  refine pT HT_.out 13 (some 16) (bn 30 16383) ?_
  refine pT0 HT_.out 14 (some 17) (bn 30 32767) ?_
  refine pT0 HT_.out 15 (some 18) (bn 30 65535) ?_
  refine pT0 HT_.out 16 (some 19) (bn 30 131071) ?_
  refine pT HT_.out 17 (some 20) (bn 30 262143) ?_
  refine pT HT_.out 18 (some 21) (bn 30 524287) ?_
  refine pT0 HT_.out 19 (some 22) (bn 30 1048575) ?_
  refine pT0 HT_.out 20 (some 23) (bn 30 2097151) ?_
  refine pT0 HT_.out 21 (some 24) (bn 30 4194303) ?_
  refine pT0 HT_.out 22 (some 25) (bn 30 8388607) ?_
  refine pT0 HT_.out 23 (some 26) (bn 30 16777215) ?_
  refine pT0 HT_.out 24 (some 27) (bn 30 33554431) ?_
  refine pT0 HT_.out 25 (some 28) (bn 30 67108863) ?_
  refine pT0 HT_.out 26 (some 29) (bn 30 134217727) ?_
  refine pT0 HT_.out 27 (some 30) (bn 30 268435455) ?_
  refine pT HT_.out 28 (some 31) (bn 30 536870911) ?_
  refine pT HT_.out 29 (some 2) (bn 30 1073741823) ?_
  refine done_ (done_of HT_.out (by kernel_rfl)) ?_
  try go_wp2
  go_ret
  exact ⟨by first | rfl | (simp [errW_none, errW_some] <;> rfl) | (simp [*, errW_none, errW_some] <;> rfl), HBz⟩
end Go.Proofs.Ytplhfbkejngioaa.X
namespace Go.Proofs.Ytplhfbkejngioaa.X
open Go.RowKit Go.Proofs.YtplhfbkejngioaaW.PrintWords Go.Proofs.YtplhfbkejngioaaW.PrintLast Go.Proofs.Ytplhfbkejngioaa.S
attribute [local go_sem] max2_int min2_int max_two min_two
set_option linter.unusedVariables false
set_option linter.unusedSimpArgs false
end Go.Proofs.Ytplhfbkejngioaa.X
namespace Go.Proofs.Ytplhfbkejngioaa.X
open Go.RowKit Go.Proofs.YtplhfbkejngioaaW.PrintWords
def Kept (w W : World) (S : Nat → Prop) : Prop := w.heap.size ≤ W.heap.size ∧ ∀ k, k < w.heap.size → ¬ S k → W.heap[k]? = w.heap[k]?
theorem Kept.refl (w : World) (S : Nat → Prop) : Kept w w S := ⟨Nat.le_refl _, fun _ _ _ => rfl⟩
theorem Kept.drew {w W : World} {S : Nat → Prop} (h : Kept w W S) : Kept w W.drew S := h
theorem Kept.drewN {w W : World} {S : Nat → Prop} (h : Kept w W S) (m : Nat) : Kept w (W.drewN m) S := h
theorem Kept.alloc {w W : World} {S : Nat → Prop} (h : Kept w W S) (o : Obj) : Kept w (W.alloc o) S :=
 ⟨by have := h.1; simp; omega, fun k hk hn => (Below.heap_alloc W o k (by have := h.1; omega)).trans (h.2 k hk hn)⟩
end Go.Proofs.Ytplhfbkejngioaa.X
namespace Go.Proofs.Ytplhfbkejngioaa.X
open Go.RowKit Go.Proofs.YtplhfbkejngioaaW.PrintWords Go.Proofs.YtplhfbkejngioaaW.PrintLast Go.Proofs.Ytplhfbkejngioaa.S
attribute [local go_sem] max2_int min2_int max_two min_two
set_option linter.unusedVariables false
set_option linter.unusedSimpArgs false
end Go.Proofs.Ytplhfbkejngioaa.X
