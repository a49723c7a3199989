/- The candidates, plain: none of their circles is large; the center of a circle through three points. Texts of this claim's session, put together: X7, Circ, Ins, CandL. -/
import Derived.Test.YtplhfbkejngioaaBc0
import Derived.Test.YtplhfbkejngioaaBc4
import Derived.Test.YtplhfbkejngioaaVWords
import Derived.Test.YtplhfbkejngioaaVLast
import Derived.Test.YtplhfbkejngioaaVTab
import Derived.Test.YtplhfbkejngioaaVRepsOne
namespace Go.Proofs.Ytplhfbkejngioaa.X
open Go.RowKit Go.Proofs.YtplhfbkejngioaaW.PrintWords Go.Proofs.YtplhfbkejngioaaW.PrintLast Go.Proofs.Ytplhfbkejngioaa.S
attribute [local go_sem] max2_int min2_int max_two min_two
set_option linter.unusedVariables false
set_option linter.unusedSimpArgs false
mutual
def cover_isInside.l0 : Nat → List (S28) → Bool → Bool → Bool → List (S28) → Int → Int → Int → Int → Int → Int → Option (Bool)
 | 0, _, _, _, _, _, _, _, _, _, _, _ => none
 | k + 1, x1, x5, x6, x7, x14, x15, x16, x154000, x154001, x154002, x154003 => if x16 < x15 then (if 0 ≤ x16 then (if x16 < (x14.length : Int) then ((cover_from.f x154000 x154001 x154002 x154003 ((rd_T28 x14 x16).f0) ((rd_T28 x14 x16).f1)).bind fun bt156 => (if 0 ≤ (wrap64 (x16 + 1)) then (if (wrap64 (x16 + 1)) ≤ (x1.length : Int) then ((some (x1.take ((wrap64 (x16 + 1)) : Int).toNat : List (S28))).bind fun y159 => (cover_isInside.l1 k x1 x5 x6 x7 x16 x14 x15 x16 y159 (y159.length : Int) 0 x154000 x154001 x154002 x154003 bt156.1 bt156.2)) else (none)) else (none))) else (none)) else (none)) else (if x5 = true then (cover_isInside.j2 k x1 x5 x6 x7 false) else (cover_isInside.j2 k x1 x5 x6 x7 (!x6)))
def cover_isInside.l1 : Nat → List (S28) → Bool → Bool → Bool → Int → List (S28) → Int → Int → List (S28) → Int → Int → Int → Int → Int → Int → Int → Int → Option (Bool)
 | 0, _, _, _, _, _, _, _, _, _, _, _, _, _, _, _, _, _ => none
 | k + 1, x1, x5, x6, x7, x8, x14, x15, x16, x27, x28, x29, x154000, x154001, x154002, x154003, x159000, x159001 => if x29 < x28 then (if 0 ≤ x29 then (if x29 < (x27.length : Int) then (if x7 = true then (cover_isInside.l1 k x1 x5 x6 true x8 x14 x15 x16 x27 x28 (wrap64 (x29 + 1)) x154000 x154001 x154002 x154003 x159000 x159001) else ((cover_from.f x154000 x154001 x154002 x154003 ((rd_T28 x27 x29).f0) ((rd_T28 x27 x29).f1)).bind fun bt165 => ((cover_dot.f x159000 x159001 bt165.1 bt165.2).bind fun t167 => (cover_isInside.l1 k x1 x5 x6 (decide (t167 ≤ 0)) x8 x14 x15 x16 x27 x28 (wrap64 (x29 + 1)) x154000 x154001 x154002 x154003 x159000 x159001)))) else (none)) else (none)) else (if (x1.length : Int) = 0 then (none) else (if 0 ≤ (Int.tmod (wrap64 (x8 + 1)) (x1.length : Int)) then (if (Int.tmod (wrap64 (x8 + 1)) (x1.length : Int)) < (x1.length : Int) then ((cover_from.f x154000 x154001 x154002 x154003 ((rd_T28 x1 (Int.tmod (wrap64 (x8 + 1)) (x1.length : Int))).f0) ((rd_T28 x1 (Int.tmod (wrap64 (x8 + 1)) (x1.length : Int))).f1)).bind fun bt169 => ((cover_cross.f x159000 x159001 bt169.1 bt169.2).bind fun t171 => (if x5 = true then (if x6 = true then (cover_isInside.l0 k x1 true true x7 x14 x15 (wrap64 (x16 + 1)) x154000 x154001 x154002 x154003) else (cover_isInside.l0 k x1 true (decide (t171 < 0)) x7 x14 x15 (wrap64 (x16 + 1)) x154000 x154001 x154002 x154003)) else (if x6 = true then (cover_isInside.l0 k x1 (decide (t171 > 0)) true x7 x14 x15 (wrap64 (x16 + 1)) x154000 x154001 x154002 x154003) else (cover_isInside.l0 k x1 (decide (t171 > 0)) (decide (t171 < 0)) x7 x14 x15 (wrap64 (x16 + 1)) x154000 x154001 x154002 x154003))))) else (none)) else (none)))
def cover_isInside.j2 : Nat → List (S28) → Bool → Bool → Bool → Bool → Option (Bool)
 | 0, _, _, _, _, _ => none
 | k + 1, x1, x5, x6, x7, x66 => if x66 = true then (some x7) else (if (x1.length : Int) = 3 then (some (x5 != x6)) else (some false))
end
def cover_isInside.f (k : Nat) (a0_0 : Int) (a0_1 : Int) (a0_2 : Int) (a0_3 : Int) (l1 : List (S28)) : Option (Bool) := cover_isInside.l0 k l1 false false false l1 (l1.length : Int) 0 a0_0 a0_1 a0_2 a0_3
theorem cover_isInside.mono_l : ∀ k, (∀ y0 y1 y2 y3 y4 y5 y6 y7 y8 y9 y10, LeO (cover_isInside.l0 k y0 y1 y2 y3 y4 y5 y6 y7 y8 y9 y10) (cover_isInside.l0 (k + 1) y0 y1 y2 y3 y4 y5 y6 y7 y8 y9 y10)) ∧ (∀ y0 y1 y2 y3 y4 y5 y6 y7 y8 y9 y10 y11 y12 y13 y14 y15 y16, LeO (cover_isInside.l1 k y0 y1 y2 y3 y4 y5 y6 y7 y8 y9 y10 y11 y12 y13 y14 y15 y16) (cover_isInside.l1 (k + 1) y0 y1 y2 y3 y4 y5 y6 y7 y8 y9 y10 y11 y12 y13 y14 y15 y16)) ∧ (∀ y0 y1 y2 y3 y4, LeO (cover_isInside.j2 k y0 y1 y2 y3 y4) (cover_isInside.j2 (k + 1) y0 y1 y2 y3 y4))
 | 0 => ⟨fun _ _ _ _ _ _ _ _ _ _ _ r h => by simp [cover_isInside.l0] at h, fun _ _ _ _ _ _ _ _ _ _ _ _ _ _ _ _ _ r h => by simp [cover_isInside.l1] at h, fun _ _ _ _ _ r h => by simp [cover_isInside.j2] at h⟩
 | k + 1 => by
  obtain ⟨ih0, ih1, ih2⟩ := cover_isInside.mono_l k
  refine ⟨?_, ?_, ?_⟩
  ·intro y0 y1 y2 y3 y4 y5 y6 y7 y8 y9 y10
   unfold cover_isInside.l0
   repeat' first
   | (with_reducible exact ih0 _ _ _ _ _ _ _ _ _ _ _)
   | (with_reducible exact ih1 _ _ _ _ _ _ _ _ _ _ _ _ _ _ _ _ _)
   | (with_reducible exact ih2 _ _ _ _ _)
   | (with_reducible exact LeO.refl _)
   | (with_reducible exact LeO.none _)
   | (with_reducible refine LeO.ite ?_ ?_)
   | (with_reducible refine LeO.bind ?_ (fun _ => ?_))
   | exact ih0 _ _ _ _ _ _ _ _ _ _ _
   | exact ih1 _ _ _ _ _ _ _ _ _ _ _ _ _ _ _ _ _
   | exact ih2 _ _ _ _ _
   | exact LeO.none _
   | refine LeO.ite ?_ ?_
   | refine LeO.bind ?_ (fun _ => ?_)
  ·intro y0 y1 y2 y3 y4 y5 y6 y7 y8 y9 y10 y11 y12 y13 y14 y15 y16
   unfold cover_isInside.l1
   repeat' first
   | (with_reducible exact ih0 _ _ _ _ _ _ _ _ _ _ _)
   | (with_reducible exact ih1 _ _ _ _ _ _ _ _ _ _ _ _ _ _ _ _ _)
   | (with_reducible exact ih2 _ _ _ _ _)
   | (with_reducible exact LeO.refl _)
   | (with_reducible exact LeO.none _)
   | (with_reducible refine LeO.ite ?_ ?_)
   | (with_reducible refine LeO.bind ?_ (fun _ => ?_))
   | exact ih0 _ _ _ _ _ _ _ _ _ _ _
   | exact ih1 _ _ _ _ _ _ _ _ _ _ _ _ _ _ _ _ _
   | exact ih2 _ _ _ _ _
   | exact LeO.none _
   | refine LeO.ite ?_ ?_
   | refine LeO.bind ?_ (fun _ => ?_)
  ·intro y0 y1 y2 y3 y4
   unfold cover_isInside.j2
   repeat' first
   | (with_reducible exact ih0 _ _ _ _ _ _ _ _ _ _ _)
   | (with_reducible exact ih1 _ _ _ _ _ _ _ _ _ _ _ _ _ _ _ _ _)
   | (with_reducible exact ih2 _ _ _ _ _)
   | (with_reducible exact LeO.refl _)
   | (with_reducible exact LeO.none _)
   | (with_reducible refine LeO.ite ?_ ?_)
   | (with_reducible refine LeO.bind ?_ (fun _ => ?_))
   | exact ih0 _ _ _ _ _ _ _ _ _ _ _
   | exact ih1 _ _ _ _ _ _ _ _ _ _ _ _ _ _ _ _ _
   | exact ih2 _ _ _ _ _
   | exact LeO.none _
   | refine LeO.ite ?_ ?_
   | refine LeO.bind ?_ (fun _ => ?_)
theorem cover_isInside.mono : ∀ a0 a1 a2 a3 a4 k, LeO (cover_isInside.f k a0 a1 a2 a3 a4) (cover_isInside.f (k + 1) a0 a1 a2 a3 a4) := by
 intro a0 a1 a2 a3 a4 k
 obtain ⟨ih0, ih1, ih2⟩ := cover_isInside.mono_l k
 unfold cover_isInside.f
 repeat' first
   | (with_reducible exact ih0 _ _ _ _ _ _ _ _ _ _ _)
   | (with_reducible exact ih1 _ _ _ _ _ _ _ _ _ _ _ _ _ _ _ _ _)
   | (with_reducible exact ih2 _ _ _ _ _)
   | (with_reducible exact LeO.refl _)
   | (with_reducible exact LeO.none _)
   | (with_reducible refine LeO.ite ?_ ?_)
   | (with_reducible refine LeO.bind ?_ (fun _ => ?_))
   | exact ih0 _ _ _ _ _ _ _ _ _ _ _
   | exact ih1 _ _ _ _ _ _ _ _ _ _ _ _ _ _ _ _ _
   | exact ih2 _ _ _ _ _
   | exact LeO.none _
   | refine LeO.ite ?_ ?_
   | refine LeO.bind ?_ (fun _ => ?_)
def cover_isInside.T9 : Bool × List (List Nat × List Nat) := (true, [([], []), ([0], [0]), ([1], [1]), ([1], [1]), ([1], [1]), ([3, 4, 1, 1], [1, 3, 4]), ([2, 5, 5, 1], [1, 2, 5]), ([6, 1], [1, 6]), ([1, 7], [1, 7]), ([8, 6, 0, 1, 2, 3, 4, 5, 6, 7, 8], [0, 8])])
def cover_isInside.B9 : List Nat := [0, 1, 3, 3, 3, 27, 63, 127, 255, 511]
theorem cover_isInside.tab9 : rtab .any (opsOf Try.f62 9) = cover_isInside.T9 := by kernel_rfl
theorem cover_isInside.bits9 : waitsOk cover_isInside.T9.2 cover_isInside.B9 = true := by kernel_rfl
def cover_isInside.T11 : Bool × List (List Nat × List Nat) := (true, [([], []), ([], []), ([], []), ([], []), ([3], [3]), ([], []), ([5], [5]), ([4, 6], [4, 6]), ([2, 7], [2, 7]), ([8], [8]), ([1, 9], [1, 9]), ([0, 10, 10], [0, 10]), ([11, 11, 0, 1, 2, 3, 4, 5, 6, 7, 8, 9, 10, 11], [11])])
def cover_isInside.B11 : List Nat := [0, 0, 0, 0, 8, 0, 32, 120, 252, 508, 1022, 2047, 4095]
theorem cover_isInside.tab11 : rtab .any (opsOf Try.f62 11) = cover_isInside.T11 := by kernel_rfl
theorem cover_isInside.bits11 : waitsOk cover_isInside.T11.2 cover_isInside.B11 = true := by kernel_rfl
set_option maxHeartbeats 8000000 in
set_option maxRecDepth 100000 in
theorem cover_isInside.calls (k : Nat) (a0_0 : Int) (a0_1 : Int) (a0_2 : Int) (a0_3 : Int) (A1 : Option Addr) (c1 : Nat) (l1 : List (S28)) (r : Bool) (w : World) (hr1 : Kd.C k28 w A1 l1.length l1) (hc1 : l1.length ≤ c1) (h : cover_isInside.f k a0_0 a0_1 a0_2 a0_3 l1 = some r) :
  Calls Try.prog 62 #[.agg #[.int .i64 a0_0, .int .i64 a0_1, .int .i64 a0_2, .int .i64 a0_3], .slice A1 l1.length c1] w fun e w' => e = .returned (.bool r) ∧ Below w.heap.size w w' := by
 have hu40 := Try.underlying40
 have hu28 := Try.underlying28
 have HR1 := Aside0.mk hr1
 have HC1 := Aside0.mk hc1
 clear hr1 hc1
 have HB := Aside0.mk (Below.refl w.heap.size w)
 have H : (cover_isInside.l0 k l1 false false false l1 (l1.length : Int) 0 a0_0 a0_1 a0_2 a0_3) = some r := h
 clear h
 have H' := Aside0.mk H
 clear H
 go_enter Try.func62, Try.ntmps62
 go_wp2_with (first | ((with_reducible refine gate_dst (N := 2) rfl ?_); refine bxE 2 #[.int .i64 a0_0, .int .i64 a0_1, .int .i64 a0_2, .int .i64 a0_3] 40 ?_; intro gb153 hg w3 hbox hb; have n0_ := Aside0.mk (below_step HBz hb); have n1_ := Aside0.mk (hbox); have n2_ := Aside0.mk ((by rw [hg]; exact (below_size HBz) : w.heap.size ≤ gb153)); have n3_ := Aside0.mk ((by rw [hg]; exact (below_size HBz) : w.heap.size ≤ gb153)); clear HB; have HB := n0_; have BK153 := n1_; have GW153 := n2_; have GE153 := n3_; clear n0_ n1_ n2_ n3_; clear hb hbox hg))
 go_loopg [5, 6, 7, 16] k (fun kq v5 v6 v7 v16 w' => ∃ (x5_1 : Bool) (x6_1 : Bool) (x7_1 : Bool) (x16_1 : Int), v5 = .bool x5_1 ∧ v6 = .bool x6_1 ∧ v7 = .bool x7_1 ∧ v16 = .int .i64 x16_1 ∧ Aside0 (cover_isInside.l0 kq l1 x5_1 x6_1 x7_1 l1 (l1.length : Int) x16_1 a0_0 a0_1 a0_2 a0_3 = some r) ∧ Aside0 (kq ≤ k) ∧ Aside0 (w'.heap[gb153]? = some (.cells #[.int .i64 a0_0, .int .i64 a0_1, .int .i64 a0_2, .int .i64 a0_3] 40 (0, 0))) ∧ Aside0 (Below w.heap.size w w'))
 case atStart => exact ⟨(false), (false), (false), (0), (by first | rfl | (simp; done) | (simp [*]; done)), (by first | rfl | (simp; done) | (simp [*]; done)), (by first | rfl | (simp; done) | (simp [*]; done)), (by first | rfl | (simp; done) | (simp [*]; done)), H', ⟨Nat.le_refl _⟩, ⟨by (with_reducible repeat (first | refine blk_drewN ?_ _ | refine blk_drew ?_ | refine blk_alloc ?_ _)); exact BK153.out⟩, ⟨HBz⟩⟩
 case round =>
  clear H'
  try clear c1
  try clear p2
  obtain ⟨x5_1, x6_1, x7_1, x16_1, rfl, rfl, rfl, rfl, HA, HK1, BK153, HB⟩ := hrel
  cases gk with
  | zero => exact absurd HA.out (by simp [cover_isInside.l0])
  | succ k1 =>
   have H := HA.out
   clear HA
   simp only [cover_isInside.l0] at H
   by_cases c4 : x16_1 < (l1.length : Int)
   ·rw [if_pos c4] at H
    have c4b0 : decide (x16_1 < (l1.length : Int)) = true := decide_eq_true c4
    clear c4
    by_cases c5 : 0 ≤ x16_1
    ·rw [if_pos c5] at H
     have c5b0 : decide (0 ≤ x16_1) = true := decide_eq_true c5
     clear c5
     by_cases c6 : x16_1 < (l1.length : Int)
     ·rw [if_pos c6] at H
      have c6b0 : decide (x16_1 < (l1.length : Int)) = true := decide_eq_true c6
      clear c6
      replace H := Option.bind_eq_some_iff.mp H
      obtain ⟨⟨t156, t157⟩, A70, H⟩ := H
      replace H : (if 0 ≤ (wrap64 (x16_1 + 1)) then (if (wrap64 (x16_1 + 1)) ≤ (l1.length : Int) then ((some (l1.take ((wrap64 (x16_1 + 1)) : Int).toNat : List (S28))).bind fun y159 => (cover_isInside.l1 k1 l1 x5_1 x6_1 x7_1 x16_1 l1 (l1.length : Int) x16_1 y159 (y159.length : Int) 0 a0_0 a0_1 a0_2 a0_3 t156 t157)) else (none)) else (none)) = some r := H
      have A7 := Aside0.mk A70
      clear A70
      by_cases c8 : 0 ≤ (wrap64 (x16_1 + 1))
      ·rw [if_pos c8] at H
       have c8b0 := eq_true c8
       have c8b1 : decide (0 ≤ (wrap64 (x16_1 + 1))) = true := decide_eq_true c8
       by_cases c9 : (wrap64 (x16_1 + 1)) ≤ (l1.length : Int)
       ·rw [if_pos c9] at H
        have c9b0 := eq_true c9
        have c9b1 : decide ((wrap64 (x16_1 + 1)) ≤ (l1.length : Int)) = true := decide_eq_true c9
        obtain ⟨y159, hy159⟩ : ∃ y_ : List (S28), y_ = (l1.take ((wrap64 (x16_1 + 1)) : Int).toNat) := ⟨_, rfl⟩
        replace H : (cover_isInside.l1 k1 l1 x5_1 x6_1 x7_1 x16_1 l1 (l1.length : Int) x16_1 y159 (y159.length : Int) 0 a0_0 a0_1 a0_2 a0_3 t156 t157) = some r := by first | (rw [hy159]; with_reducible exact H) | (have H2_ := (Option.bind_some _ _).symm.trans H; rw [hy159]; with_reducible exact H2_) | (have H2_ := (Option.bind_some _ _).symm.trans H; with_reducible exact H2_) | with_reducible exact H | (rw [hy159]; exact H) | exact H
        have Ny159 := Aside0.mk hy159
        clear hy159
        have H' := Aside0.mk H
        clear H
        have p154 : 0 ≤ (x16_1 : Int) := of_decide_eq_true (by first | (with_reducible assumption) | assumption)
        have q154 : x16_1 < (l1.length : Int) := of_decide_eq_true (by first | (with_reducible assumption) | assumption)
        obtain ⟨ad154, e154, hx154_0, hx154_1⟩ := at_T28 HR1.out x16_1 p154 q154
        cases e154
        replace hx154_0 := (HB.out.cell (World.block_lt_of_cell? w _ hx154_0)).trans hx154_0
        replace hx154_1 := (HB.out.cell (World.block_lt_of_cell? w _ hx154_1)).trans hx154_1
        replace p154 := eq_true p154
        replace q154 := eq_true q154
        go_wp2_with (first | ((with_reducible refine gate_dst (N := 9) rfl ?_); refine bxE 9 #[.int .i64 0, .int .i64 0] 28 ?_; intro gb155 hg w10 hbox hb; have n0_ := Aside0.mk (blk_below (g := gb153) BKz hb); have n1_ := Aside0.mk (below_step HBz hb); have n2_ := Aside0.mk (hbox); have n3_ := Aside0.mk ((by rw [hg]; exact (below_size HBz) : w.heap.size ≤ gb155)); have n4_ := Aside0.mk ((by rw [hg]; exact (below_size HBz) : w.heap.size ≤ gb155)); have n5_ := Aside0.mk ((by rw [hg]; exact Nat.ne_of_lt (blk_lt (g := gb153) BKz) : gb153 ≠ gb155)); have n6_ := Aside0.mk ((by rw [hg]; exact Nat.ne_of_gt (blk_lt (g := gb153) BKz) : gb155 ≠ gb153)); clear BK153; clear HB; have BK153 := n0_; have HB := n1_; have BK155 := n2_; have GW155 := n3_; have GE155 := n4_; have NB153_155 := n5_; have NB155_153 := n6_; clear n0_ n1_ n2_ n3_ n4_ n5_ n6_; clear hb hbox hg; have hnb11 := NB155_153.out; have hnc11 := NB153_155.out; have hcz12_0 : w10.cell? ⟨gb155, 0, none⟩ = some (.int .i64 0) := (blk_cell BK155.out 0).trans rfl; have hcz12_1 : w10.cell? ⟨gb155, 1, none⟩ = some (.int .i64 0) := (blk_cell BK155.out 1).trans rfl; have hfz12_0 := blk_frozen BK155.out 0; have hfz12_1 := blk_frozen BK155.out 1; have hcz13_0 : w10.cell? ⟨gb153, 0, none⟩ = some (.int .i64 a0_0) := (blk_cell BK153.out 0).trans rfl; have hcz13_1 : w10.cell? ⟨gb153, 1, none⟩ = some (.int .i64 a0_1) := (blk_cell BK153.out 1).trans rfl; have hcz13_2 : w10.cell? ⟨gb153, 2, none⟩ = some (.int .i64 a0_2) := (blk_cell BK153.out 2).trans rfl; have hcz13_3 : w10.cell? ⟨gb153, 3, none⟩ = some (.int .i64 a0_3) := (blk_cell BK153.out 3).trans rfl; have hfz13_0 := blk_frozen BK153.out 0; have hfz13_1 := blk_frozen BK153.out 1; have hfz13_2 := blk_frozen BK153.out 2; have hfz13_3 := blk_frozen BK153.out 3) | ((with_reducible refine gate_callee (f := 86) rfl ?_); refine goesL_ (some 23) rfl rfl Try.func86 (by kernel_rfl) rfl #[.agg #[.int .i64 a0_0, .int .i64 a0_1, .int .i64 a0_2, .int .i64 a0_3], .agg #[.int .i64 ((rd_T28 l1 x16_1).f0), .int .i64 ((rd_T28 l1 x16_1).f1)]] rfl (by (try simp only [List.map_toArray, List.map_cons, List.map_nil]); first | done | rfl | (simp only [List.length_drop, List.length_take]; rfl)) ?_; (with_reducible refine (cover_from.calls a0_0 a0_1 a0_2 a0_3 ((rd_T28 l1 x16_1).f0) ((rd_T28 l1 x16_1).f1) t156 t157 _ A7.out).mono ?_); rintro e w14 ⟨rfl, hb⟩; refine ⟨_, rfl, ?_⟩; have n0_ := Aside0.mk (blk_below (g := gb153) (o := .cells #[.int .i64 a0_0, .int .i64 a0_1, .int .i64 a0_2, .int .i64 a0_3] 40 (0, 0)) (by (with_reducible repeat (first | refine blk_drewN ?_ _ | refine blk_drew ?_ | refine blk_alloc ?_ _)); refine blk_far ?_ NB153_155.out _; (with_reducible repeat (first | refine blk_drewN ?_ _ | refine blk_drew ?_ | refine blk_alloc ?_ _)); refine blk_far ?_ NB153_155.out _; (with_reducible repeat (first | refine blk_drewN ?_ _ | refine blk_drew ?_ | refine blk_alloc ?_ _)); exact BK153.out) hb); have n1_ := Aside0.mk (blk_below (g := gb155) (o := .cells #[.int .i64 ((rd_T28 l1 x16_1).f0), .int .i64 ((rd_T28 l1 x16_1).f1)] 28 (0, 0)) (by (with_reducible repeat (first | refine blk_drewN ?_ _ | refine blk_drew ?_ | refine blk_alloc ?_ _)); refine blk_put (cs := #[.int .i64 ((rd_T28 l1 x16_1).f0), .int .i64 0]) ?_ 1 _ rfl; (with_reducible repeat (first | refine blk_drewN ?_ _ | refine blk_drew ?_ | refine blk_alloc ?_ _)); refine blk_put (cs := #[.int .i64 0, .int .i64 0]) ?_ 0 _ rfl; (with_reducible repeat (first | refine blk_drewN ?_ _ | refine blk_drew ?_ | refine blk_alloc ?_ _)); exact BK155.out) hb); have n2_ := Aside0.mk (below_step HBz hb); clear BK153; clear BK155; clear HB; have BK153 := n0_; have BK155 := n1_; have HB := n2_; clear n0_ n1_ n2_; (try clear hb); (try clear hb2); (try clear hk); (try clear hi)) | ((with_reducible refine gate_dst (N := 10) rfl ?_); refine bxE 10 #[.int .i64 0, .int .i64 0] 28 ?_; intro gb158 hg w15 hbox hb; have n0_ := Aside0.mk (blk_below (g := gb153) BKz hb); have n1_ := Aside0.mk (blk_below (g := gb155) BKz hb); have n2_ := Aside0.mk (below_step HBz hb); have n3_ := Aside0.mk (hbox); have n4_ := Aside0.mk ((by rw [hg]; exact (below_size HBz) : w.heap.size ≤ gb158)); have n5_ := Aside0.mk ((by rw [hg]; exact (below_size HBz) : w.heap.size ≤ gb158)); have n6_ := Aside0.mk ((by rw [hg]; exact Nat.ne_of_lt (blk_lt (g := gb153) BKz) : gb153 ≠ gb158)); have n7_ := Aside0.mk ((by rw [hg]; exact Nat.ne_of_gt (blk_lt (g := gb153) BKz) : gb158 ≠ gb153)); have n8_ := Aside0.mk ((by rw [hg]; exact Nat.ne_of_lt (blk_lt (g := gb155) BKz) : gb155 ≠ gb158)); have n9_ := Aside0.mk ((by rw [hg]; exact Nat.ne_of_gt (blk_lt (g := gb155) BKz) : gb158 ≠ gb155)); clear BK153; clear BK155; clear HB; have BK153 := n0_; have BK155 := n1_; have HB := n2_; have BK158 := n3_; have GW158 := n4_; have GE158 := n5_; have NB153_158 := n6_; have NB158_153 := n7_; have NB155_158 := n8_; have NB158_155 := n9_; clear n0_ n1_ n2_ n3_ n4_ n5_ n6_ n7_ n8_ n9_; clear hb hbox hg; have hnb16 := NB158_153.out; have hnc16 := NB153_158.out; have hnb17 := NB158_155.out; have hnc17 := NB155_158.out; have hcz18_0 : w15.cell? ⟨gb158, 0, none⟩ = some (.int .i64 0) := (blk_cell BK158.out 0).trans rfl; have hcz18_1 : w15.cell? ⟨gb158, 1, none⟩ = some (.int .i64 0) := (blk_cell BK158.out 1).trans rfl; have hfz18_0 := blk_frozen BK158.out 0; have hfz18_1 := blk_frozen BK158.out 1) | ((with_reducible refine gate_store (t := 28) (p := 10) rfl ?_); refine store_event (t := 28) (p := 10) (v := ?vo_w19) (w1 := ((w15.setCell ⟨gb158, 0, none⟩ (.int .i64 t156)).setCell ⟨gb158, 1, none⟩ (.int .i64 t157))) ?hg ?ho ?hn ?hr ?_; (case ho => rfl); (case hg => rfl); (case hn => rfl); (case hr => first | (go_simp; done) | (go_simp; rfl)); intro w19 hw; have n0_ : Aside0 (w19.heap[gb153]? = some (.cells #[.int .i64 a0_0, .int .i64 a0_1, .int .i64 a0_2, .int .i64 a0_3] 40 (0, 0))) := ⟨(by rw [hw]; exact (by (with_reducible repeat (first | refine blk_drewN ?_ _ | refine blk_drew ?_ | refine blk_alloc ?_ _)); refine blk_far ?_ NB153_158.out _; (with_reducible repeat (first | refine blk_drewN ?_ _ | refine blk_drew ?_ | refine blk_alloc ?_ _)); refine blk_far ?_ NB153_158.out _; (with_reducible repeat (first | refine blk_drewN ?_ _ | refine blk_drew ?_ | refine blk_alloc ?_ _)); exact BK153.out))⟩; have n1_ : Aside0 (w19.heap[gb155]? = some (.cells #[.int .i64 ((rd_T28 l1 x16_1).f0), .int .i64 ((rd_T28 l1 x16_1).f1)] 28 (0, 0))) := ⟨(by rw [hw]; exact (by (with_reducible repeat (first | refine blk_drewN ?_ _ | refine blk_drew ?_ | refine blk_alloc ?_ _)); refine blk_far ?_ NB155_158.out _; (with_reducible repeat (first | refine blk_drewN ?_ _ | refine blk_drew ?_ | refine blk_alloc ?_ _)); refine blk_far ?_ NB155_158.out _; (with_reducible repeat (first | refine blk_drewN ?_ _ | refine blk_drew ?_ | refine blk_alloc ?_ _)); exact BK155.out))⟩; have n2_ : Aside0 (w19.heap[gb158]? = some (.cells #[.int .i64 t156, .int .i64 t157] 28 (0, 0))) := ⟨(by rw [hw]; exact (by (with_reducible repeat (first | refine blk_drewN ?_ _ | refine blk_drew ?_ | refine blk_alloc ?_ _)); refine blk_put (cs := #[.int .i64 t156, .int .i64 0]) ?_ 1 _ rfl; (with_reducible repeat (first | refine blk_drewN ?_ _ | refine blk_drew ?_ | refine blk_alloc ?_ _)); refine blk_put (cs := #[.int .i64 0, .int .i64 0]) ?_ 0 _ rfl; (with_reducible repeat (first | refine blk_drewN ?_ _ | refine blk_drew ?_ | refine blk_alloc ?_ _)); exact BK158.out))⟩; have n3_ : Aside0 (Below w.heap.size w w19) := ⟨(by rw [hw]; exact HBz)⟩; clear hw; clear BK153; clear BK155; clear BK158; clear HB; have BK153 := n0_; have BK155 := n1_; have BK158 := n2_; have HB := n3_; clear n0_ n1_ n2_ n3_; have q20 : ((wrap64 (x16_1 + 1)) : Int) ≤ ((l1.length : Int) : Int) := of_decide_eq_true (by first | (with_reducible assumption) | assumption); obtain ⟨i020, hi020, _, hsz20, _⟩ := info_parts info28; have hroom20 : l1.length ≤ c1 := HC1.out; have hC20 : Kd.C k28 _ (some ad154) l1.length l1 := HR1.out; have hcut20 := cut_to (P := Try.prog) 37 28 .i64 Try.underlying37 hi020 (some ad154) l1.length c1 (wrap64 (x16_1 + 1)) (of_decide_eq_true (by first | (with_reducible assumption) | assumption)) q20 hroom20; have hr20 := Kd.C_take (m := ((wrap64 (x16_1 + 1)) : Int).toNat) hC20 (by omega); have hy20 : y159.length = ((wrap64 (x16_1 + 1)) : Int).toNat := (by rw [Ny159.out, List.length_take]; omega); rw [← Ny159.out] at hr20; rw [← hy20] at hcut20; have HR162 := Aside0.mk hr20; have HC162 := Aside0.mk (show y159.length ≤ c1 from by omega); clear hr20 hC20 hroom20 hi020 hsz20; have KY20 := Aside0.mk hy20; clear hy20; replace q20 := eq_true q20))
        go_loopg [7, 29] k1 (fun kq v7 v29 w' => ∃ (x7_2 : Bool) (x29_2 : Int), v7 = .bool x7_2 ∧ v29 = .int .i64 x29_2 ∧ Aside0 (cover_isInside.l1 kq l1 x5_1 x6_1 x7_2 x16_1 l1 (l1.length : Int) x16_1 y159 (y159.length : Int) x29_2 a0_0 a0_1 a0_2 a0_3 t156 t157 = some r) ∧ Aside0 (kq ≤ k1) ∧ Aside0 (w'.heap[gb153]? = some (.cells #[.int .i64 a0_0, .int .i64 a0_1, .int .i64 a0_2, .int .i64 a0_3] 40 (0, 0))) ∧ Aside0 (w'.heap[gb155]? = some (.cells #[.int .i64 ((rd_T28 l1 x16_1).f0), .int .i64 ((rd_T28 l1 x16_1).f1)] 28 (0, 0))) ∧ Aside0 (w'.heap[gb158]? = some (.cells #[.int .i64 t156, .int .i64 t157] 28 (0, 0))) ∧ Aside0 (Below w.heap.size w w'))
        case atStart => exact ⟨(x7_1), (0), (by first | rfl | (simp; done) | (simp [*]; done)), (by first | rfl | (simp; done) | (simp [*]; done)), H', ⟨Nat.le_refl _⟩, ⟨by (with_reducible repeat (first | refine blk_drewN ?_ _ | refine blk_drew ?_ | refine blk_alloc ?_ _)); exact BK153.out⟩, ⟨by (with_reducible repeat (first | refine blk_drewN ?_ _ | refine blk_drew ?_ | refine blk_alloc ?_ _)); exact BK155.out⟩, ⟨by (with_reducible repeat (first | refine blk_drewN ?_ _ | refine blk_drew ?_ | refine blk_alloc ?_ _)); exact BK158.out⟩, ⟨HBz⟩⟩
        case round =>
         clear H'
         try clear c1
         try clear p1
         try clear q1
         try clear hx1
         try clear p2
         try clear q2
         try clear c4
         try clear c4b0
         try clear c5
         try clear c5b0
         try clear c6
         try clear c6b0
         try clear p6
         try clear c8
         try clear c8b0
         try clear c8b1
         try clear c9
         try clear c9b0
         try clear c9b1
         try clear c11
         try clear p15
         try clear q15
         try clear hx15
         try clear c16
         try clear c17
         try clear q20
         try clear hcz12_0
         try clear hcz12_1
         try clear hcz13_0
         try clear hcz13_1
         try clear hcz13_2
         try clear hcz13_3
         try clear hcz18_0
         try clear hcz18_1
         try clear hfz12_0
         try clear hfz12_1
         try clear hfz13_0
         try clear hfz13_1
         try clear hfz13_2
         try clear hfz13_3
         try clear hfz18_0
         try clear hfz18_1
         try clear hx154_0
         try clear hx154_1
         try clear p154
         try clear p2
         try clear q154
         try clear q20
         obtain ⟨x7_2, x29_2, rfl, rfl, HA, HK2, BK153, BK155, BK158, HB⟩ := hrel
         cases gk with
         | zero => exact absurd HA.out (by simp [cover_isInside.l1])
         | succ k2 =>
          have H := HA.out
          clear HA
          simp only [cover_isInside.l1] at H
          by_cases c21 : x29_2 < (y159.length : Int)
          ·rw [if_pos c21] at H
           have c21b0 : decide (x29_2 < (y159.length : Int)) = true := decide_eq_true c21
           clear c21
           by_cases c22 : 0 ≤ x29_2
           ·rw [if_pos c22] at H
            have c22b0 : decide (0 ≤ x29_2) = true := decide_eq_true c22
            clear c22
            by_cases c23 : x29_2 < (y159.length : Int)
            ·rw [if_pos c23] at H
             have c23b0 : decide (x29_2 < (y159.length : Int)) = true := decide_eq_true c23
             clear c23
             by_cases c24 : x7_2 = true
             ·subst c24
              have H1 : (cover_isInside.l1 k2 l1 x5_1 x6_1 true x16_1 l1 (l1.length : Int) x16_1 y159 (y159.length : Int) (wrap64 (x29_2 + 1)) a0_0 a0_1 a0_2 a0_3 t156 t157) = some r := by rw [if_pos rfl] at H; exact H
              clear H
              have H := H1
              clear H1
              have H' := Aside0.mk H
              clear H
              have p163 : 0 ≤ (x29_2 : Int) := of_decide_eq_true (by first | (with_reducible assumption) | assumption)
              have q163 : x29_2 < (y159.length : Int) := of_decide_eq_true (by first | (with_reducible assumption) | assumption)
              obtain ⟨ad163, e163, hx163_0, hx163_1⟩ := at_T28 HR162.out x29_2 p163 q163
              obtain rfl : ad154 = ad163 := (by injection e163)
              replace hx163_0 := (HB.out.cell (World.block_lt_of_cell? w _ hx163_0)).trans hx163_0
              replace hx163_1 := (HB.out.cell (World.block_lt_of_cell? w _ hx163_1)).trans hx163_1
              replace p163 := eq_true p163
              replace q163 := eq_true q163
              try go_wp2_with (first | ((with_reducible refine gate_dst (N := 12) rfl ?_); refine bxE 12 #[.int .i64 0, .int .i64 0] 28 ?_; intro gb164 hg w25 hbox hb; have n0_ := Aside0.mk (blk_below (g := gb153) BKz hb); have n1_ := Aside0.mk (blk_below (g := gb155) BKz hb); have n2_ := Aside0.mk (blk_below (g := gb158) BKz hb); have n3_ := Aside0.mk (below_step HBz hb); have n4_ := Aside0.mk (hbox); have n5_ := Aside0.mk ((by rw [hg]; exact (below_size HBz) : w.heap.size ≤ gb164)); have n6_ := Aside0.mk ((by rw [hg]; exact (below_size HBz) : w.heap.size ≤ gb164)); have n7_ := Aside0.mk ((by rw [hg]; exact Nat.ne_of_lt (blk_lt (g := gb153) BKz) : gb153 ≠ gb164)); have n8_ := Aside0.mk ((by rw [hg]; exact Nat.ne_of_gt (blk_lt (g := gb153) BKz) : gb164 ≠ gb153)); have n9_ := Aside0.mk ((by rw [hg]; exact Nat.ne_of_lt (blk_lt (g := gb155) BKz) : gb155 ≠ gb164)); have n10_ := Aside0.mk ((by rw [hg]; exact Nat.ne_of_gt (blk_lt (g := gb155) BKz) : gb164 ≠ gb155)); have n11_ := Aside0.mk ((by rw [hg]; exact Nat.ne_of_lt (blk_lt (g := gb158) BKz) : gb158 ≠ gb164)); have n12_ := Aside0.mk ((by rw [hg]; exact Nat.ne_of_gt (blk_lt (g := gb158) BKz) : gb164 ≠ gb158)); clear BK153; clear BK155; clear BK158; clear HB; have BK153 := n0_; have BK155 := n1_; have BK158 := n2_; have HB := n3_; have BK164 := n4_; have GW164 := n5_; have GE164 := n6_; have NB153_164 := n7_; have NB164_153 := n8_; have NB155_164 := n9_; have NB164_155 := n10_; have NB158_164 := n11_; have NB164_158 := n12_; clear n0_ n1_ n2_ n3_ n4_ n5_ n6_ n7_ n8_ n9_ n10_ n11_ n12_; clear hb hbox hg; have hnb26 := NB164_153.out; have hnc26 := NB153_164.out; have hnb27 := NB164_155.out; have hnc27 := NB155_164.out; have hnb28 := NB164_158.out; have hnc28 := NB158_164.out; have hcz29_0 : w25.cell? ⟨gb164, 0, none⟩ = some (.int .i64 0) := (blk_cell BK164.out 0).trans rfl; have hcz29_1 : w25.cell? ⟨gb164, 1, none⟩ = some (.int .i64 0) := (blk_cell BK164.out 1).trans rfl; have hfz29_0 := blk_frozen BK164.out 0; have hfz29_1 := blk_frozen BK164.out 1))
              have n0_ : Aside0 (((w25.setCell ⟨gb164, 0, none⟩ (.int .i64 ((rd_T28 y159 x29_2).f0))).setCell ⟨gb164, 1, none⟩ (.int .i64 ((rd_T28 y159 x29_2).f1))).heap[gb153]? = some (.cells #[.int .i64 a0_0, .int .i64 a0_1, .int .i64 a0_2, .int .i64 a0_3] 40 (0, 0))) := ⟨by (with_reducible repeat (first | refine blk_drewN ?_ _ | refine blk_drew ?_ | refine blk_alloc ?_ _)); refine blk_far ?_ NB153_164.out _; (with_reducible repeat (first | refine blk_drewN ?_ _ | refine blk_drew ?_ | refine blk_alloc ?_ _)); refine blk_far ?_ NB153_164.out _; (with_reducible repeat (first | refine blk_drewN ?_ _ | refine blk_drew ?_ | refine blk_alloc ?_ _)); exact BK153.out⟩
              have n1_ : Aside0 (((w25.setCell ⟨gb164, 0, none⟩ (.int .i64 ((rd_T28 y159 x29_2).f0))).setCell ⟨gb164, 1, none⟩ (.int .i64 ((rd_T28 y159 x29_2).f1))).heap[gb155]? = some (.cells #[.int .i64 ((rd_T28 l1 x16_1).f0), .int .i64 ((rd_T28 l1 x16_1).f1)] 28 (0, 0))) := ⟨by (with_reducible repeat (first | refine blk_drewN ?_ _ | refine blk_drew ?_ | refine blk_alloc ?_ _)); refine blk_far ?_ NB155_164.out _; (with_reducible repeat (first | refine blk_drewN ?_ _ | refine blk_drew ?_ | refine blk_alloc ?_ _)); refine blk_far ?_ NB155_164.out _; (with_reducible repeat (first | refine blk_drewN ?_ _ | refine blk_drew ?_ | refine blk_alloc ?_ _)); exact BK155.out⟩
              have n2_ : Aside0 (((w25.setCell ⟨gb164, 0, none⟩ (.int .i64 ((rd_T28 y159 x29_2).f0))).setCell ⟨gb164, 1, none⟩ (.int .i64 ((rd_T28 y159 x29_2).f1))).heap[gb158]? = some (.cells #[.int .i64 t156, .int .i64 t157] 28 (0, 0))) := ⟨by (with_reducible repeat (first | refine blk_drewN ?_ _ | refine blk_drew ?_ | refine blk_alloc ?_ _)); refine blk_far ?_ NB158_164.out _; (with_reducible repeat (first | refine blk_drewN ?_ _ | refine blk_drew ?_ | refine blk_alloc ?_ _)); refine blk_far ?_ NB158_164.out _; (with_reducible repeat (first | refine blk_drewN ?_ _ | refine blk_drew ?_ | refine blk_alloc ?_ _)); exact BK158.out⟩
              have n3_ : Aside0 (((w25.setCell ⟨gb164, 0, none⟩ (.int .i64 ((rd_T28 y159 x29_2).f0))).setCell ⟨gb164, 1, none⟩ (.int .i64 ((rd_T28 y159 x29_2).f1))).heap[gb164]? = some (.cells #[.int .i64 ((rd_T28 y159 x29_2).f0), .int .i64 ((rd_T28 y159 x29_2).f1)] 28 (0, 0))) := ⟨by (with_reducible repeat (first | refine blk_drewN ?_ _ | refine blk_drew ?_ | refine blk_alloc ?_ _)); refine blk_put (cs := #[.int .i64 ((rd_T28 y159 x29_2).f0), .int .i64 0]) ?_ 1 _ rfl; (with_reducible repeat (first | refine blk_drewN ?_ _ | refine blk_drew ?_ | refine blk_alloc ?_ _)); refine blk_put (cs := #[.int .i64 0, .int .i64 0]) ?_ 0 _ rfl; (with_reducible repeat (first | refine blk_drewN ?_ _ | refine blk_drew ?_ | refine blk_alloc ?_ _)); exact BK164.out⟩
              have n4_ : Aside0 (Below w.heap.size w ((w25.setCell ⟨gb164, 0, none⟩ (.int .i64 ((rd_T28 y159 x29_2).f0))).setCell ⟨gb164, 1, none⟩ (.int .i64 ((rd_T28 y159 x29_2).f1)))) := ⟨HBz⟩
              (try clear BK153)
              (try clear BK155)
              (try clear BK158)
              (try clear BK164)
              (try clear HB)
              generalize ((w25.setCell ⟨gb164, 0, none⟩ (.int .i64 ((rd_T28 y159 x29_2).f0))).setCell ⟨gb164, 1, none⟩ (.int .i64 ((rd_T28 y159 x29_2).f1))) = w30 at n0_ n1_ n2_ n3_ n4_ ⊢
              have BK153 := n0_
              have BK155 := n1_
              have BK158 := n2_
              have BK164 := n3_
              have HB := n4_
              clear n0_ n1_ n2_ n3_ n4_
              have n0_ := Aside0.mk (blk_drew BK153.out)
              have n1_ := Aside0.mk (blk_drew BK155.out)
              have n2_ := Aside0.mk (blk_drew BK158.out)
              have n3_ := Aside0.mk (blk_drew BK164.out)
              have n4_ := Aside0.mk (below_drew1 HB.out)
              clear BK153
              clear BK155
              clear BK158
              clear BK164
              clear HB
              have BK153 := n0_
              have BK155 := n1_
              have BK158 := n2_
              have BK164 := n3_
              have HB := n4_
              clear n0_ n1_ n2_ n3_ n4_
              refine stz (fun w' => True) [] (bn 10 0) trivial (fun hHeld => ?_); refine with_tabW cover_isInside.tab9 cover_isInside.bits9 (fun HT_ HW_ => ?_)
              generalize w30.drew = w31 at BK153 BK155 BK158 BK164 HB hHeld ⊢
              refine pT HT_.out 0 (some 33) (bn 10 1) ?_
              refine pT HT_.out 1 (some 34) (bn 10 3) ?_
              refine pT0 HT_.out 2 (some 35) (bn 10 7) ?_
              refine pT0 HT_.out 3 (some 36) (bn 10 15) ?_
              refine pT0 HT_.out 4 (some 37) (bn 10 31) ?_
              refine pT0 HT_.out 5 (some 38) (bn 10 63) ?_
              refine pT0 HT_.out 6 (some 39) (bn 10 127) ?_
              refine pT0 HT_.out 7 (some 40) (bn 10 255) ?_
              refine pT HT_.out 8 (some 41) (bn 10 511) ?_
              refine pT HT_.out 9 (some 7) (bn 10 1023) ?_
              refine done_ (done_of HT_.out (by kernel_rfl)) ?_
              try go_wp2
              go_roundg k2
              case measure => have := HK1.out; have := HK2.out; omega
              case rel => exact ⟨(true), (wrap64 (x29_2 + 1)), (by first | rfl | (simp; done) | (simp [*]; done)), (by first | rfl | (simp; done) | (simp [*]; done)), H', ⟨by have := HK1.out; have := HK2.out; omega⟩, ⟨by (with_reducible repeat (first | refine blk_drewN ?_ _ | refine blk_drew ?_ | refine blk_alloc ?_ _)); exact BK153.out⟩, ⟨by (with_reducible repeat (first | refine blk_drewN ?_ _ | refine blk_drew ?_ | refine blk_alloc ?_ _)); exact BK155.out⟩, ⟨by (with_reducible repeat (first | refine blk_drewN ?_ _ | refine blk_drew ?_ | refine blk_alloc ?_ _)); exact BK158.out⟩, ⟨HBz⟩⟩
             ·replace c24 := Bool.eq_false_iff.mpr c24
              subst c24
              have H1 : ((cover_from.f a0_0 a0_1 a0_2 a0_3 ((rd_T28 y159 x29_2).f0) ((rd_T28 y159 x29_2).f1)).bind fun bt165 => ((cover_dot.f t156 t157 bt165.1 bt165.2).bind fun t167 => (cover_isInside.l1 k2 l1 x5_1 x6_1 (decide (t167 ≤ 0)) x16_1 l1 (l1.length : Int) x16_1 y159 (y159.length : Int) (wrap64 (x29_2 + 1)) a0_0 a0_1 a0_2 a0_3 t156 t157))) = some r := by rw [if_neg (show ¬ (false = true) by decide)] at H; exact H
              clear H
              have H := H1
              clear H1
              replace H := Option.bind_eq_some_iff.mp H
              obtain ⟨⟨t165, t166⟩, A320, H⟩ := H
              replace H : ((cover_dot.f t156 t157 t165 t166).bind fun t167 => (cover_isInside.l1 k2 l1 x5_1 x6_1 (decide (t167 ≤ 0)) x16_1 l1 (l1.length : Int) x16_1 y159 (y159.length : Int) (wrap64 (x29_2 + 1)) a0_0 a0_1 a0_2 a0_3 t156 t157)) = some r := H
              have A32 := Aside0.mk A320
              clear A320
              replace H := Option.bind_eq_some_iff.mp H
              obtain ⟨t167, A330, H⟩ := H
              replace H : (cover_isInside.l1 k2 l1 x5_1 x6_1 (decide (t167 ≤ 0)) x16_1 l1 (l1.length : Int) x16_1 y159 (y159.length : Int) (wrap64 (x29_2 + 1)) a0_0 a0_1 a0_2 a0_3 t156 t157) = some r := H
              have A33 := Aside0.mk A330
              clear A330
              have H' := Aside0.mk H
              clear H
              have p163 : 0 ≤ (x29_2 : Int) := of_decide_eq_true (by first | (with_reducible assumption) | assumption)
              have q163 : x29_2 < (y159.length : Int) := of_decide_eq_true (by first | (with_reducible assumption) | assumption)
              obtain ⟨ad163, e163, hx163_0, hx163_1⟩ := at_T28 HR162.out x29_2 p163 q163
              obtain rfl : ad154 = ad163 := (by injection e163)
              replace hx163_0 := (HB.out.cell (World.block_lt_of_cell? w _ hx163_0)).trans hx163_0
              replace hx163_1 := (HB.out.cell (World.block_lt_of_cell? w _ hx163_1)).trans hx163_1
              replace p163 := eq_true p163
              replace q163 := eq_true q163
              try go_wp2_with (first | ((with_reducible refine gate_dst (N := 12) rfl ?_); refine bxE 12 #[.int .i64 0, .int .i64 0] 28 ?_; intro gb164 hg w34 hbox hb; have n0_ := Aside0.mk (blk_below (g := gb153) BKz hb); have n1_ := Aside0.mk (blk_below (g := gb155) BKz hb); have n2_ := Aside0.mk (blk_below (g := gb158) BKz hb); have n3_ := Aside0.mk (below_step HBz hb); have n4_ := Aside0.mk (hbox); have n5_ := Aside0.mk ((by rw [hg]; exact (below_size HBz) : w.heap.size ≤ gb164)); have n6_ := Aside0.mk ((by rw [hg]; exact (below_size HBz) : w.heap.size ≤ gb164)); have n7_ := Aside0.mk ((by rw [hg]; exact Nat.ne_of_lt (blk_lt (g := gb153) BKz) : gb153 ≠ gb164)); have n8_ := Aside0.mk ((by rw [hg]; exact Nat.ne_of_gt (blk_lt (g := gb153) BKz) : gb164 ≠ gb153)); have n9_ := Aside0.mk ((by rw [hg]; exact Nat.ne_of_lt (blk_lt (g := gb155) BKz) : gb155 ≠ gb164)); have n10_ := Aside0.mk ((by rw [hg]; exact Nat.ne_of_gt (blk_lt (g := gb155) BKz) : gb164 ≠ gb155)); have n11_ := Aside0.mk ((by rw [hg]; exact Nat.ne_of_lt (blk_lt (g := gb158) BKz) : gb158 ≠ gb164)); have n12_ := Aside0.mk ((by rw [hg]; exact Nat.ne_of_gt (blk_lt (g := gb158) BKz) : gb164 ≠ gb158)); clear BK153; clear BK155; clear BK158; clear HB; have BK153 := n0_; have BK155 := n1_; have BK158 := n2_; have HB := n3_; have BK164 := n4_; have GW164 := n5_; have GE164 := n6_; have NB153_164 := n7_; have NB164_153 := n8_; have NB155_164 := n9_; have NB164_155 := n10_; have NB158_164 := n11_; have NB164_158 := n12_; clear n0_ n1_ n2_ n3_ n4_ n5_ n6_ n7_ n8_ n9_ n10_ n11_ n12_; clear hb hbox hg; have hnb35 := NB164_153.out; have hnc35 := NB153_164.out; have hnb36 := NB164_155.out; have hnc36 := NB155_164.out; have hnb37 := NB164_158.out; have hnc37 := NB158_164.out; have hcz38_0 : w34.cell? ⟨gb164, 0, none⟩ = some (.int .i64 0) := (blk_cell BK164.out 0).trans rfl; have hcz38_1 : w34.cell? ⟨gb164, 1, none⟩ = some (.int .i64 0) := (blk_cell BK164.out 1).trans rfl; have hfz38_0 := blk_frozen BK164.out 0; have hfz38_1 := blk_frozen BK164.out 1))
              have n0_ : Aside0 (((w34.setCell ⟨gb164, 0, none⟩ (.int .i64 ((rd_T28 y159 x29_2).f0))).setCell ⟨gb164, 1, none⟩ (.int .i64 ((rd_T28 y159 x29_2).f1))).heap[gb153]? = some (.cells #[.int .i64 a0_0, .int .i64 a0_1, .int .i64 a0_2, .int .i64 a0_3] 40 (0, 0))) := ⟨by (with_reducible repeat (first | refine blk_drewN ?_ _ | refine blk_drew ?_ | refine blk_alloc ?_ _)); refine blk_far ?_ NB153_164.out _; (with_reducible repeat (first | refine blk_drewN ?_ _ | refine blk_drew ?_ | refine blk_alloc ?_ _)); refine blk_far ?_ NB153_164.out _; (with_reducible repeat (first | refine blk_drewN ?_ _ | refine blk_drew ?_ | refine blk_alloc ?_ _)); exact BK153.out⟩
              have n1_ : Aside0 (((w34.setCell ⟨gb164, 0, none⟩ (.int .i64 ((rd_T28 y159 x29_2).f0))).setCell ⟨gb164, 1, none⟩ (.int .i64 ((rd_T28 y159 x29_2).f1))).heap[gb155]? = some (.cells #[.int .i64 ((rd_T28 l1 x16_1).f0), .int .i64 ((rd_T28 l1 x16_1).f1)] 28 (0, 0))) := ⟨by (with_reducible repeat (first | refine blk_drewN ?_ _ | refine blk_drew ?_ | refine blk_alloc ?_ _)); refine blk_far ?_ NB155_164.out _; (with_reducible repeat (first | refine blk_drewN ?_ _ | refine blk_drew ?_ | refine blk_alloc ?_ _)); refine blk_far ?_ NB155_164.out _; (with_reducible repeat (first | refine blk_drewN ?_ _ | refine blk_drew ?_ | refine blk_alloc ?_ _)); exact BK155.out⟩
              have n2_ : Aside0 (((w34.setCell ⟨gb164, 0, none⟩ (.int .i64 ((rd_T28 y159 x29_2).f0))).setCell ⟨gb164, 1, none⟩ (.int .i64 ((rd_T28 y159 x29_2).f1))).heap[gb158]? = some (.cells #[.int .i64 t156, .int .i64 t157] 28 (0, 0))) := ⟨by (with_reducible repeat (first | refine blk_drewN ?_ _ | refine blk_drew ?_ | refine blk_alloc ?_ _)); refine blk_far ?_ NB158_164.out _; (with_reducible repeat (first | refine blk_drewN ?_ _ | refine blk_drew ?_ | refine blk_alloc ?_ _)); refine blk_far ?_ NB158_164.out _; (with_reducible repeat (first | refine blk_drewN ?_ _ | refine blk_drew ?_ | refine blk_alloc ?_ _)); exact BK158.out⟩
              have n3_ : Aside0 (((w34.setCell ⟨gb164, 0, none⟩ (.int .i64 ((rd_T28 y159 x29_2).f0))).setCell ⟨gb164, 1, none⟩ (.int .i64 ((rd_T28 y159 x29_2).f1))).heap[gb164]? = some (.cells #[.int .i64 ((rd_T28 y159 x29_2).f0), .int .i64 ((rd_T28 y159 x29_2).f1)] 28 (0, 0))) := ⟨by (with_reducible repeat (first | refine blk_drewN ?_ _ | refine blk_drew ?_ | refine blk_alloc ?_ _)); refine blk_put (cs := #[.int .i64 ((rd_T28 y159 x29_2).f0), .int .i64 0]) ?_ 1 _ rfl; (with_reducible repeat (first | refine blk_drewN ?_ _ | refine blk_drew ?_ | refine blk_alloc ?_ _)); refine blk_put (cs := #[.int .i64 0, .int .i64 0]) ?_ 0 _ rfl; (with_reducible repeat (first | refine blk_drewN ?_ _ | refine blk_drew ?_ | refine blk_alloc ?_ _)); exact BK164.out⟩
              have n4_ : Aside0 (Below w.heap.size w ((w34.setCell ⟨gb164, 0, none⟩ (.int .i64 ((rd_T28 y159 x29_2).f0))).setCell ⟨gb164, 1, none⟩ (.int .i64 ((rd_T28 y159 x29_2).f1)))) := ⟨HBz⟩
              (try clear BK153)
              (try clear BK155)
              (try clear BK158)
              (try clear BK164)
              (try clear HB)
              generalize ((w34.setCell ⟨gb164, 0, none⟩ (.int .i64 ((rd_T28 y159 x29_2).f0))).setCell ⟨gb164, 1, none⟩ (.int .i64 ((rd_T28 y159 x29_2).f1))) = w39 at n0_ n1_ n2_ n3_ n4_ ⊢
              have BK153 := n0_
              have BK155 := n1_
              have BK158 := n2_
              have BK164 := n3_
              have HB := n4_
              clear n0_ n1_ n2_ n3_ n4_
              have n0_ := Aside0.mk (blk_drew BK153.out)
              have n1_ := Aside0.mk (blk_drew BK155.out)
              have n2_ := Aside0.mk (blk_drew BK158.out)
              have n3_ := Aside0.mk (blk_drew BK164.out)
              have n4_ := Aside0.mk (below_drew1 HB.out)
              clear BK153
              clear BK155
              clear BK158
              clear BK164
              clear HB
              have BK153 := n0_
              have BK155 := n1_
              have BK158 := n2_
              have BK164 := n3_
              have HB := n4_
              clear n0_ n1_ n2_ n3_ n4_
              refine stz (fun w' => w'.cell? ⟨gb158, 0, none⟩ = some (.int .i64 t156) ∧ w'.cell? ⟨gb158, 1, none⟩ = some (.int .i64 t157) ∧ w'.cell? ⟨gb153, 0, none⟩ = some (.int .i64 a0_0) ∧ w'.cell? ⟨gb153, 1, none⟩ = some (.int .i64 a0_1) ∧ w'.cell? ⟨gb153, 2, none⟩ = some (.int .i64 a0_2) ∧ w'.cell? ⟨gb153, 3, none⟩ = some (.int .i64 a0_3) ∧ w'.cell? ⟨gb164, 0, none⟩ = some (.int .i64 ((rd_T28 y159 x29_2).f0)) ∧ w'.cell? ⟨gb164, 1, none⟩ = some (.int .i64 ((rd_T28 y159 x29_2).f1))) [] (bn 10 0) ⟨(blk_cell BK158.out 0).trans rfl, (blk_cell BK158.out 1).trans rfl, (blk_cell BK153.out 0).trans rfl, (blk_cell BK153.out 1).trans rfl, (blk_cell BK153.out 2).trans rfl, (blk_cell BK153.out 3).trans rfl, (blk_cell BK164.out 0).trans rfl, (blk_cell BK164.out 1).trans rfl⟩ (fun hHeld => ?_); refine with_tabW cover_isInside.tab9 cover_isInside.bits9 (fun HT_ HW_ => ?_)
              generalize w39.drew = w40 at BK153 BK155 BK158 BK164 HB hHeld ⊢
              refine pT HT_.out 0 (some 33) (bn 10 1) ?_
              refine pT HT_.out 1 (some 34) (bn 10 3) ?_
              refine tT HT_.out HW_.out 2 (some 35) (bn 10 7) hHeld ?_
              refine tT HT_.out HW_.out 3 (some 36) (bn 10 15) hHeld ?_
              refine tT HT_.out HW_.out 4 (some 37) (bn 10 31) hHeld ?_
              refine oT HT_.out 5 (some 38) (bn 10 63) (fun K hK => ?_)
              refine gz Try.func86 #[.agg #[.int .i64 a0_0, .int .i64 a0_1, .int .i64 a0_2, .int .i64 a0_3], .agg #[.int .i64 ((rd_T28 y159 x29_2).f0), .int .i64 ((rd_T28 y159 x29_2).f1)]] ?_
              with_reducible refine (cover_from.calls a0_0 a0_1 a0_2 a0_3 ((rd_T28 y159 x29_2).f0) ((rd_T28 y159 x29_2).f1) t165 t166 _ A32.out).mono ?_
              rintro e w41 ⟨rfl, hb⟩
              refine ⟨_, rfl, ?_⟩
              have n0_ := Aside0.mk (blk_below (g := gb153) BKz hb)
              have n1_ := Aside0.mk (blk_below (g := gb155) BKz hb)
              have n2_ := Aside0.mk (blk_below (g := gb158) BKz hb)
              have n3_ := Aside0.mk (blk_below (g := gb164) BKz hb)
              have n4_ := Aside0.mk (below_step HBz hb)
              clear BK153
              clear BK155
              clear BK158
              clear BK164
              clear HB
              have BK153 := n0_
              have BK155 := n1_
              have BK158 := n2_
              have BK164 := n3_
              have HB := n4_
              clear n0_ n1_ n2_ n3_ n4_
              (try clear hb)
              (try clear hb2)
              (try clear hk)
              (try clear hi)
              refine hK.out _ _ ⟨(blk_cell BK158.out 0).trans rfl, (blk_cell BK158.out 1).trans rfl, (blk_cell BK153.out 0).trans rfl, (blk_cell BK153.out 1).trans rfl, (blk_cell BK153.out 2).trans rfl, (blk_cell BK153.out 3).trans rfl, (blk_cell BK164.out 0).trans rfl, (blk_cell BK164.out 1).trans rfl⟩ (fun hHeld => ?_)
              clear hK K
              refine nz (some 38) ?_
              refine oT HT_.out 6 (some 39) (bn 10 127) (fun K hK => ?_)
              refine gz Try.func87 #[.agg #[.int .i64 t156, .int .i64 t157], .agg #[.int .i64 t165, .int .i64 t166]] ?_
              with_reducible refine (cover_dot.calls t156 t157 t165 t166 t167 _ A33.out).mono ?_
              rintro e w42 ⟨rfl, hb⟩
              refine ⟨_, rfl, ?_⟩
              have n0_ := Aside0.mk (blk_below (g := gb153) BKz hb)
              have n1_ := Aside0.mk (blk_below (g := gb155) BKz hb)
              have n2_ := Aside0.mk (blk_below (g := gb158) BKz hb)
              have n3_ := Aside0.mk (blk_below (g := gb164) BKz hb)
              have n4_ := Aside0.mk (below_step HBz hb)
              clear BK153
              clear BK155
              clear BK158
              clear BK164
              clear HB
              have BK153 := n0_
              have BK155 := n1_
              have BK158 := n2_
              have BK164 := n3_
              have HB := n4_
              clear n0_ n1_ n2_ n3_ n4_
              (try clear hb)
              (try clear hb2)
              (try clear hk)
              (try clear hi)
              refine hK.out _ _ ⟨(blk_cell BK158.out 0).trans rfl, (blk_cell BK158.out 1).trans rfl, (blk_cell BK153.out 0).trans rfl, (blk_cell BK153.out 1).trans rfl, (blk_cell BK153.out 2).trans rfl, (blk_cell BK153.out 3).trans rfl, (blk_cell BK164.out 0).trans rfl, (blk_cell BK164.out 1).trans rfl⟩ (fun hHeld => ?_)
              clear hK K
              refine nz (some 39) ?_
              refine pT HT_.out 7 (some 40) (bn 10 255) ?_
              refine pT HT_.out 8 (some 41) (bn 10 511) ?_
              refine pT HT_.out 9 (some 7) (bn 10 1023) ?_
              refine done_ (done_of HT_.out (by kernel_rfl)) ?_
              try go_wp2
              go_roundg k2
              case measure => have := HK1.out; have := HK2.out; omega
              case rel => exact ⟨(decide (t167 ≤ 0)), (wrap64 (x29_2 + 1)), (by first | rfl | (simp; done) | (simp [*]; done)), (by first | rfl | (simp; done) | (simp [*]; done)), H', ⟨by have := HK1.out; have := HK2.out; omega⟩, ⟨by (with_reducible repeat (first | refine blk_drewN ?_ _ | refine blk_drew ?_ | refine blk_alloc ?_ _)); exact BK153.out⟩, ⟨by (with_reducible repeat (first | refine blk_drewN ?_ _ | refine blk_drew ?_ | refine blk_alloc ?_ _)); exact BK155.out⟩, ⟨by (with_reducible repeat (first | refine blk_drewN ?_ _ | refine blk_drew ?_ | refine blk_alloc ?_ _)); exact BK158.out⟩, ⟨HBz⟩⟩
            ·rw [if_neg c23] at H
             exact absurd H (by simp)
           ·rw [if_neg c22] at H
            exact absurd H (by simp)
          ·rw [if_neg c21] at H
           have c21b0 : decide (x29_2 < (y159.length : Int)) = false := decide_eq_false c21
           clear c21
           by_cases c43 : (l1.length : Int) = 0
           ·rw [if_pos c43] at H
            exact absurd H (by simp)
           ·rw [if_neg c43] at H
            have c43b0 : ((l1.length : Int) == 0) = false := beq_eq_false_iff_ne.mpr c43
            have c43b1 : ((l1.length : Int) != 0) = true := bne_iff_ne.mpr c43
            have c43b2 : ¬ (l1 = []) := fun h_ => c43 (by rw [h_]; rfl)
            by_cases c44 : 0 ≤ (Int.tmod (wrap64 (x16_1 + 1)) (l1.length : Int))
            ·rw [if_pos c44] at H
             have c44b0 : decide (0 ≤ (Int.tmod (wrap64 (x16_1 + 1)) (l1.length : Int))) = true := decide_eq_true c44
             clear c44
             by_cases c45 : (Int.tmod (wrap64 (x16_1 + 1)) (l1.length : Int)) < (l1.length : Int)
             ·rw [if_pos c45] at H
              have c45b0 : decide ((Int.tmod (wrap64 (x16_1 + 1)) (l1.length : Int)) < (l1.length : Int)) = true := decide_eq_true c45
              clear c45
              replace H := Option.bind_eq_some_iff.mp H
              obtain ⟨⟨t169, t170⟩, A460, H⟩ := H
              replace H : ((cover_cross.f t156 t157 t169 t170).bind fun t171 => (if x5_1 = true then (if x6_1 = true then (cover_isInside.l0 k2 l1 true true x7_2 l1 (l1.length : Int) (wrap64 (x16_1 + 1)) a0_0 a0_1 a0_2 a0_3) else (cover_isInside.l0 k2 l1 true (decide (t171 < 0)) x7_2 l1 (l1.length : Int) (wrap64 (x16_1 + 1)) a0_0 a0_1 a0_2 a0_3)) else (if x6_1 = true then (cover_isInside.l0 k2 l1 (decide (t171 > 0)) true x7_2 l1 (l1.length : Int) (wrap64 (x16_1 + 1)) a0_0 a0_1 a0_2 a0_3) else (cover_isInside.l0 k2 l1 (decide (t171 > 0)) (decide (t171 < 0)) x7_2 l1 (l1.length : Int) (wrap64 (x16_1 + 1)) a0_0 a0_1 a0_2 a0_3)))) = some r := H
              have A46 := Aside0.mk A460
              clear A460
              replace H := Option.bind_eq_some_iff.mp H
              obtain ⟨t171, A470, H⟩ := H
              replace H : (if x5_1 = true then (if x6_1 = true then (cover_isInside.l0 k2 l1 true true x7_2 l1 (l1.length : Int) (wrap64 (x16_1 + 1)) a0_0 a0_1 a0_2 a0_3) else (cover_isInside.l0 k2 l1 true (decide (t171 < 0)) x7_2 l1 (l1.length : Int) (wrap64 (x16_1 + 1)) a0_0 a0_1 a0_2 a0_3)) else (if x6_1 = true then (cover_isInside.l0 k2 l1 (decide (t171 > 0)) true x7_2 l1 (l1.length : Int) (wrap64 (x16_1 + 1)) a0_0 a0_1 a0_2 a0_3) else (cover_isInside.l0 k2 l1 (decide (t171 > 0)) (decide (t171 < 0)) x7_2 l1 (l1.length : Int) (wrap64 (x16_1 + 1)) a0_0 a0_1 a0_2 a0_3))) = some r := H
              have A47 := Aside0.mk A470
              clear A470
              by_cases c48 : x5_1 = true
              ·subst c48
               have H1 : (if x6_1 = true then (cover_isInside.l0 k2 l1 true true x7_2 l1 (l1.length : Int) (wrap64 (x16_1 + 1)) a0_0 a0_1 a0_2 a0_3) else (cover_isInside.l0 k2 l1 true (decide (t171 < 0)) x7_2 l1 (l1.length : Int) (wrap64 (x16_1 + 1)) a0_0 a0_1 a0_2 a0_3)) = some r := by rw [if_pos rfl] at H; exact H
               clear H
               have H := H1
               clear H1
               by_cases c49 : x6_1 = true
               ·subst c49
                have H1 : (cover_isInside.l0 k2 l1 true true x7_2 l1 (l1.length : Int) (wrap64 (x16_1 + 1)) a0_0 a0_1 a0_2 a0_3) = some r := by rw [if_pos rfl] at H; exact H
                clear H
                have H := H1
                clear H1
                have H' := Aside0.mk H
                clear H
                try go_wp2
                have n0_ := Aside0.mk (blk_drew BK153.out)
                have n1_ := Aside0.mk (blk_drew BK155.out)
                have n2_ := Aside0.mk (blk_drew BK158.out)
                have n3_ := Aside0.mk (below_drew1 HB.out)
                clear BK153
                clear BK155
                clear BK158
                clear HB
                have BK153 := n0_
                have BK155 := n1_
                have BK158 := n2_
                have HB := n3_
                clear n0_ n1_ n2_ n3_
                have p168 : 0 ≤ ((Int.tmod (wrap64 (x16_1 + 1)) (l1.length : Int)) : Int) := of_decide_eq_true (by first | (with_reducible assumption) | assumption)
                have q168 : (Int.tmod (wrap64 (x16_1 + 1)) (l1.length : Int)) < (l1.length : Int) := of_decide_eq_true (by first | (with_reducible assumption) | assumption)
                obtain ⟨ad168, e168, hx168_0, hx168_1⟩ := at_T28 HR1.out (Int.tmod (wrap64 (x16_1 + 1)) (l1.length : Int)) p168 q168
                have hw168_1 := hx168_1
                have hw168_0 := hx168_0
                obtain rfl : ad154 = ad168 := (by injection e168)
                replace hx168_0 := (HB.out.cell (World.block_lt_of_cell? w _ hx168_0)).trans hx168_0
                replace hx168_1 := (HB.out.cell (World.block_lt_of_cell? w _ hx168_1)).trans hx168_1
                replace p168 := eq_true p168
                replace q168 := eq_true q168
                refine stz (fun w' => w'.cell? ⟨gb158, 0, none⟩ = some (.int .i64 t156) ∧ w'.cell? ⟨gb158, 1, none⟩ = some (.int .i64 t157) ∧ w'.cell? ⟨gb153, 0, none⟩ = some (.int .i64 a0_0) ∧ w'.cell? ⟨gb153, 1, none⟩ = some (.int .i64 a0_1) ∧ w'.cell? ⟨gb153, 2, none⟩ = some (.int .i64 a0_2) ∧ w'.cell? ⟨gb153, 3, none⟩ = some (.int .i64 a0_3) ∧ w'.cell? (ad154.add (((Int.tmod (wrap64 (x16_1 + 1)) (l1.length : Int))).toNat * 2)) = some (.int .i64 ((rd_T28 l1 (Int.tmod (wrap64 (x16_1 + 1)) (l1.length : Int))).f0)) ∧ w'.cell? ⟨(ad154.add (((Int.tmod (wrap64 (x16_1 + 1)) (l1.length : Int))).toNat * 2)).block, (ad154.add (((Int.tmod (wrap64 (x16_1 + 1)) (l1.length : Int))).toNat * 2)).off + 1, none⟩ = some (.int .i64 ((rd_T28 l1 (Int.tmod (wrap64 (x16_1 + 1)) (l1.length : Int))).f1))) [] (bn 13 0) ⟨(blk_cell BK158.out 0).trans rfl, (blk_cell BK158.out 1).trans rfl, (blk_cell BK153.out 0).trans rfl, (blk_cell BK153.out 1).trans rfl, (blk_cell BK153.out 2).trans rfl, (blk_cell BK153.out 3).trans rfl, ((HB.out.cell (World.block_lt_of_cell? w _ hw168_0)).trans hw168_0), ((HB.out.cell (World.block_lt_of_cell? w _ hw168_1)).trans hw168_1)⟩ (fun hHeld => ?_); refine with_tabW cover_isInside.tab11 cover_isInside.bits11 (fun HT_ HW_ => ?_)
                generalize wr.drew = w50 at BK153 BK155 BK158 HB hx168_0 hx168_1 hHeld ⊢
                refine pT HT_.out 2 (some 45) (bn 13 4) ?_
                refine pT HT_.out 3 (some 46) (bn 13 12) ?_
                refine pT HT_.out 4 (some 47) (bn 13 28) ?_
                refine pT HT_.out 5 (some 48) (bn 13 60) ?_
                refine pT HT_.out 6 (some 49) (bn 13 124) ?_
                refine pT HT_.out 7 (some 50) (bn 13 252) ?_
                refine pT HT_.out 8 (some 51) (bn 13 508) ?_
                refine tT HT_.out HW_.out 0 (some 43) (bn 13 509) hHeld ?_
                refine tT HT_.out HW_.out 1 (some 44) (bn 13 511) hHeld ?_
                refine tT HT_.out HW_.out 9 (some 52) (bn 13 1023) hHeld ?_
                refine oT HT_.out 10 (some 53) (bn 13 2047) (fun K hK => ?_)
                refine gz Try.func86 #[.agg #[.int .i64 a0_0, .int .i64 a0_1, .int .i64 a0_2, .int .i64 a0_3], .agg #[.int .i64 ((rd_T28 l1 (Int.tmod (wrap64 (x16_1 + 1)) (l1.length : Int))).f0), .int .i64 ((rd_T28 l1 (Int.tmod (wrap64 (x16_1 + 1)) (l1.length : Int))).f1)]] ?_
                with_reducible refine (cover_from.calls a0_0 a0_1 a0_2 a0_3 ((rd_T28 l1 (Int.tmod (wrap64 (x16_1 + 1)) (l1.length : Int))).f0) ((rd_T28 l1 (Int.tmod (wrap64 (x16_1 + 1)) (l1.length : Int))).f1) t169 t170 _ A46.out).mono ?_
                rintro e w51 ⟨rfl, hb⟩
                refine ⟨_, rfl, ?_⟩
                have n0_ := Aside0.mk (blk_below (g := gb153) BKz hb)
                have n1_ := Aside0.mk (blk_below (g := gb155) BKz hb)
                have n2_ := Aside0.mk (blk_below (g := gb158) BKz hb)
                have n3_ := Aside0.mk (below_step HBz hb)
                clear BK153
                clear BK155
                clear BK158
                clear HB
                have BK153 := n0_
                have BK155 := n1_
                have BK158 := n2_
                have HB := n3_
                clear n0_ n1_ n2_ n3_
                (try clear hb)
                (try clear hb2)
                (try clear hk)
                (try clear hi)
                refine hK.out _ _ ⟨(blk_cell BK158.out 0).trans rfl, (blk_cell BK158.out 1).trans rfl, (blk_cell BK153.out 0).trans rfl, (blk_cell BK153.out 1).trans rfl, (blk_cell BK153.out 2).trans rfl, (blk_cell BK153.out 3).trans rfl, ((HB.out.cell (World.block_lt_of_cell? w _ hw168_0)).trans hw168_0), ((HB.out.cell (World.block_lt_of_cell? w _ hw168_1)).trans hw168_1)⟩ (fun hHeld => ?_)
                clear hK K
                refine nz (some 53) ?_
                refine oT HT_.out 11 (some 54) (bn 13 4095) (fun K hK => ?_)
                refine gz Try.func88 #[.agg #[.int .i64 t156, .int .i64 t157], .agg #[.int .i64 t169, .int .i64 t170]] ?_
                with_reducible refine (cover_cross.calls t156 t157 t169 t170 t171 _ A47.out).mono ?_
                rintro e w52 ⟨rfl, hb⟩
                refine ⟨_, rfl, ?_⟩
                have n0_ := Aside0.mk (blk_below (g := gb153) BKz hb)
                have n1_ := Aside0.mk (blk_below (g := gb155) BKz hb)
                have n2_ := Aside0.mk (blk_below (g := gb158) BKz hb)
                have n3_ := Aside0.mk (below_step HBz hb)
                clear BK153
                clear BK155
                clear BK158
                clear HB
                have BK153 := n0_
                have BK155 := n1_
                have BK158 := n2_
                have HB := n3_
                clear n0_ n1_ n2_ n3_
                (try clear hb)
                (try clear hb2)
                (try clear hk)
                (try clear hi)
                refine hK.out _ _ ⟨(blk_cell BK158.out 0).trans rfl, (blk_cell BK158.out 1).trans rfl, (blk_cell BK153.out 0).trans rfl, (blk_cell BK153.out 1).trans rfl, (blk_cell BK153.out 2).trans rfl, (blk_cell BK153.out 3).trans rfl, ((HB.out.cell (World.block_lt_of_cell? w _ hw168_0)).trans hw168_0), ((HB.out.cell (World.block_lt_of_cell? w _ hw168_1)).trans hw168_1)⟩ (fun hHeld => ?_)
                clear hK K
                refine nz (some 54) ?_
                refine pT HT_.out 12 (some 13) (bn 13 8191) ?_
                refine done_ (done_of HT_.out (by kernel_rfl)) ?_
                try go_wp2
                go_roundg k2
                case measure => have := HK1.out; have := HK2.out; omega
                case rel => exact ⟨(true), (true), (x7_2), (wrap64 (x16_1 + 1)), (by first | rfl | (simp; done) | (simp [*]; done)), (by first | rfl | (simp; done) | (simp [*]; done)), (by first | rfl | (simp; done) | (simp [*]; done)), (by first | rfl | (simp; done) | (simp [*]; done)), H', ⟨by have := HK1.out; have := HK2.out; omega⟩, ⟨by (with_reducible repeat (first | refine blk_drewN ?_ _ | refine blk_drew ?_ | refine blk_alloc ?_ _)); exact BK153.out⟩, ⟨HBz⟩⟩
               ·replace c49 := Bool.eq_false_iff.mpr c49
                subst c49
                have H1 : (cover_isInside.l0 k2 l1 true (decide (t171 < 0)) x7_2 l1 (l1.length : Int) (wrap64 (x16_1 + 1)) a0_0 a0_1 a0_2 a0_3) = some r := by rw [if_neg (show ¬ (false = true) by decide)] at H; exact H
                clear H
                have H := H1
                clear H1
                have H' := Aside0.mk H
                clear H
                try go_wp2
                have n0_ := Aside0.mk (blk_drew BK153.out)
                have n1_ := Aside0.mk (blk_drew BK155.out)
                have n2_ := Aside0.mk (blk_drew BK158.out)
                have n3_ := Aside0.mk (below_drew1 HB.out)
                clear BK153
                clear BK155
                clear BK158
                clear HB
                have BK153 := n0_
                have BK155 := n1_
                have BK158 := n2_
                have HB := n3_
                clear n0_ n1_ n2_ n3_
                have p168 : 0 ≤ ((Int.tmod (wrap64 (x16_1 + 1)) (l1.length : Int)) : Int) := of_decide_eq_true (by first | (with_reducible assumption) | assumption)
                have q168 : (Int.tmod (wrap64 (x16_1 + 1)) (l1.length : Int)) < (l1.length : Int) := of_decide_eq_true (by first | (with_reducible assumption) | assumption)
                obtain ⟨ad168, e168, hx168_0, hx168_1⟩ := at_T28 HR1.out (Int.tmod (wrap64 (x16_1 + 1)) (l1.length : Int)) p168 q168
                have hw168_1 := hx168_1
                have hw168_0 := hx168_0
                obtain rfl : ad154 = ad168 := (by injection e168)
                replace hx168_0 := (HB.out.cell (World.block_lt_of_cell? w _ hx168_0)).trans hx168_0
                replace hx168_1 := (HB.out.cell (World.block_lt_of_cell? w _ hx168_1)).trans hx168_1
                replace p168 := eq_true p168
                replace q168 := eq_true q168
                refine stz (fun w' => w'.cell? ⟨gb158, 0, none⟩ = some (.int .i64 t156) ∧ w'.cell? ⟨gb158, 1, none⟩ = some (.int .i64 t157) ∧ w'.cell? ⟨gb153, 0, none⟩ = some (.int .i64 a0_0) ∧ w'.cell? ⟨gb153, 1, none⟩ = some (.int .i64 a0_1) ∧ w'.cell? ⟨gb153, 2, none⟩ = some (.int .i64 a0_2) ∧ w'.cell? ⟨gb153, 3, none⟩ = some (.int .i64 a0_3) ∧ w'.cell? (ad154.add (((Int.tmod (wrap64 (x16_1 + 1)) (l1.length : Int))).toNat * 2)) = some (.int .i64 ((rd_T28 l1 (Int.tmod (wrap64 (x16_1 + 1)) (l1.length : Int))).f0)) ∧ w'.cell? ⟨(ad154.add (((Int.tmod (wrap64 (x16_1 + 1)) (l1.length : Int))).toNat * 2)).block, (ad154.add (((Int.tmod (wrap64 (x16_1 + 1)) (l1.length : Int))).toNat * 2)).off + 1, none⟩ = some (.int .i64 ((rd_T28 l1 (Int.tmod (wrap64 (x16_1 + 1)) (l1.length : Int))).f1))) [] (bn 13 0) ⟨(blk_cell BK158.out 0).trans rfl, (blk_cell BK158.out 1).trans rfl, (blk_cell BK153.out 0).trans rfl, (blk_cell BK153.out 1).trans rfl, (blk_cell BK153.out 2).trans rfl, (blk_cell BK153.out 3).trans rfl, ((HB.out.cell (World.block_lt_of_cell? w _ hw168_0)).trans hw168_0), ((HB.out.cell (World.block_lt_of_cell? w _ hw168_1)).trans hw168_1)⟩ (fun hHeld => ?_); refine with_tabW cover_isInside.tab11 cover_isInside.bits11 (fun HT_ HW_ => ?_)
                generalize wr.drew = w53 at BK153 BK155 BK158 HB hx168_0 hx168_1 hHeld ⊢
                refine pT HT_.out 2 (some 45) (bn 13 4) ?_
                refine pT HT_.out 3 (some 46) (bn 13 12) ?_
                refine pT HT_.out 4 (some 47) (bn 13 28) ?_
                refine pT HT_.out 5 (some 48) (bn 13 60) ?_
                refine pT HT_.out 6 (some 49) (bn 13 124) ?_
                refine pT HT_.out 7 (some 50) (bn 13 252) ?_
                refine pT HT_.out 8 (some 51) (bn 13 508) ?_
                refine tT HT_.out HW_.out 0 (some 43) (bn 13 509) hHeld ?_
                refine tT HT_.out HW_.out 1 (some 44) (bn 13 511) hHeld ?_
                refine tT HT_.out HW_.out 9 (some 52) (bn 13 1023) hHeld ?_
                refine oT HT_.out 10 (some 53) (bn 13 2047) (fun K hK => ?_)
                refine gz Try.func86 #[.agg #[.int .i64 a0_0, .int .i64 a0_1, .int .i64 a0_2, .int .i64 a0_3], .agg #[.int .i64 ((rd_T28 l1 (Int.tmod (wrap64 (x16_1 + 1)) (l1.length : Int))).f0), .int .i64 ((rd_T28 l1 (Int.tmod (wrap64 (x16_1 + 1)) (l1.length : Int))).f1)]] ?_
                with_reducible refine (cover_from.calls a0_0 a0_1 a0_2 a0_3 ((rd_T28 l1 (Int.tmod (wrap64 (x16_1 + 1)) (l1.length : Int))).f0) ((rd_T28 l1 (Int.tmod (wrap64 (x16_1 + 1)) (l1.length : Int))).f1) t169 t170 _ A46.out).mono ?_
                rintro e w54 ⟨rfl, hb⟩
                refine ⟨_, rfl, ?_⟩
                have n0_ := Aside0.mk (blk_below (g := gb153) BKz hb)
                have n1_ := Aside0.mk (blk_below (g := gb155) BKz hb)
                have n2_ := Aside0.mk (blk_below (g := gb158) BKz hb)
                have n3_ := Aside0.mk (below_step HBz hb)
                clear BK153
                clear BK155
                clear BK158
                clear HB
                have BK153 := n0_
                have BK155 := n1_
                have BK158 := n2_
                have HB := n3_
                clear n0_ n1_ n2_ n3_
                (try clear hb)
                (try clear hb2)
                (try clear hk)
                (try clear hi)
                refine hK.out _ _ ⟨(blk_cell BK158.out 0).trans rfl, (blk_cell BK158.out 1).trans rfl, (blk_cell BK153.out 0).trans rfl, (blk_cell BK153.out 1).trans rfl, (blk_cell BK153.out 2).trans rfl, (blk_cell BK153.out 3).trans rfl, ((HB.out.cell (World.block_lt_of_cell? w _ hw168_0)).trans hw168_0), ((HB.out.cell (World.block_lt_of_cell? w _ hw168_1)).trans hw168_1)⟩ (fun hHeld => ?_)
                clear hK K
                refine nz (some 53) ?_
                refine oT HT_.out 11 (some 54) (bn 13 4095) (fun K hK => ?_)
                refine gz Try.func88 #[.agg #[.int .i64 t156, .int .i64 t157], .agg #[.int .i64 t169, .int .i64 t170]] ?_
                with_reducible refine (cover_cross.calls t156 t157 t169 t170 t171 _ A47.out).mono ?_
                rintro e w55 ⟨rfl, hb⟩
                refine ⟨_, rfl, ?_⟩
                have n0_ := Aside0.mk (blk_below (g := gb153) BKz hb)
                have n1_ := Aside0.mk (blk_below (g := gb155) BKz hb)
                have n2_ := Aside0.mk (blk_below (g := gb158) BKz hb)
                have n3_ := Aside0.mk (below_step HBz hb)
                clear BK153
                clear BK155
                clear BK158
                clear HB
                have BK153 := n0_
                have BK155 := n1_
                have BK158 := n2_
                have HB := n3_
                clear n0_ n1_ n2_ n3_
                (try clear hb)
                (try clear hb2)
                (try clear hk)
                (try clear hi)
                refine hK.out _ _ ⟨(blk_cell BK158.out 0).trans rfl, (blk_cell BK158.out 1).trans rfl, (blk_cell BK153.out 0).trans rfl, (blk_cell BK153.out 1).trans rfl, (blk_cell BK153.out 2).trans rfl, (blk_cell BK153.out 3).trans rfl, ((HB.out.cell (World.block_lt_of_cell? w _ hw168_0)).trans hw168_0), ((HB.out.cell (World.block_lt_of_cell? w _ hw168_1)).trans hw168_1)⟩ (fun hHeld => ?_)
                clear hK K
                refine nz (some 54) ?_
                refine pT HT_.out 12 (some 13) (bn 13 8191) ?_
                refine done_ (done_of HT_.out (by kernel_rfl)) ?_
                try go_wp2
                go_roundg k2
                case measure => have := HK1.out; have := HK2.out; omega
                case rel => exact ⟨(true), (decide (t171 < 0)), (x7_2), (wrap64 (x16_1 + 1)), (by first | rfl | (simp; done) | (simp [*]; done)), (by first | rfl | (simp; done) | (simp [*]; done)), (by first | rfl | (simp; done) | (simp [*]; done)), (by first | rfl | (simp; done) | (simp [*]; done)), H', ⟨by have := HK1.out; have := HK2.out; omega⟩, ⟨by (with_reducible repeat (first | refine blk_drewN ?_ _ | refine blk_drew ?_ | refine blk_alloc ?_ _)); exact BK153.out⟩, ⟨HBz⟩⟩
              ·replace c48 := Bool.eq_false_iff.mpr c48
               subst c48
               have H1 : (if x6_1 = true then (cover_isInside.l0 k2 l1 (decide (t171 > 0)) true x7_2 l1 (l1.length : Int) (wrap64 (x16_1 + 1)) a0_0 a0_1 a0_2 a0_3) else (cover_isInside.l0 k2 l1 (decide (t171 > 0)) (decide (t171 < 0)) x7_2 l1 (l1.length : Int) (wrap64 (x16_1 + 1)) a0_0 a0_1 a0_2 a0_3)) = some r := by rw [if_neg (show ¬ (false = true) by decide)] at H; exact H
               clear H
               have H := H1
               clear H1
               by_cases c56 : x6_1 = true
               ·subst c56
                have H1 : (cover_isInside.l0 k2 l1 (decide (t171 > 0)) true x7_2 l1 (l1.length : Int) (wrap64 (x16_1 + 1)) a0_0 a0_1 a0_2 a0_3) = some r := by rw [if_pos rfl] at H; exact H
                clear H
                have H := H1
                clear H1
                have H' := Aside0.mk H
                clear H
                try go_wp2
                have n0_ := Aside0.mk (blk_drew BK153.out)
                have n1_ := Aside0.mk (blk_drew BK155.out)
                have n2_ := Aside0.mk (blk_drew BK158.out)
                have n3_ := Aside0.mk (below_drew1 HB.out)
                clear BK153
                clear BK155
                clear BK158
                clear HB
                have BK153 := n0_
                have BK155 := n1_
                have BK158 := n2_
                have HB := n3_
                clear n0_ n1_ n2_ n3_
                have p168 : 0 ≤ ((Int.tmod (wrap64 (x16_1 + 1)) (l1.length : Int)) : Int) := of_decide_eq_true (by first | (with_reducible assumption) | assumption)
                have q168 : (Int.tmod (wrap64 (x16_1 + 1)) (l1.length : Int)) < (l1.length : Int) := of_decide_eq_true (by first | (with_reducible assumption) | assumption)
                obtain ⟨ad168, e168, hx168_0, hx168_1⟩ := at_T28 HR1.out (Int.tmod (wrap64 (x16_1 + 1)) (l1.length : Int)) p168 q168
                have hw168_1 := hx168_1
                have hw168_0 := hx168_0
                obtain rfl : ad154 = ad168 := (by injection e168)
                replace hx168_0 := (HB.out.cell (World.block_lt_of_cell? w _ hx168_0)).trans hx168_0
                replace hx168_1 := (HB.out.cell (World.block_lt_of_cell? w _ hx168_1)).trans hx168_1
                replace p168 := eq_true p168
                replace q168 := eq_true q168
                refine stz (fun w' => w'.cell? ⟨gb158, 0, none⟩ = some (.int .i64 t156) ∧ w'.cell? ⟨gb158, 1, none⟩ = some (.int .i64 t157) ∧ w'.cell? ⟨gb153, 0, none⟩ = some (.int .i64 a0_0) ∧ w'.cell? ⟨gb153, 1, none⟩ = some (.int .i64 a0_1) ∧ w'.cell? ⟨gb153, 2, none⟩ = some (.int .i64 a0_2) ∧ w'.cell? ⟨gb153, 3, none⟩ = some (.int .i64 a0_3) ∧ w'.cell? (ad154.add (((Int.tmod (wrap64 (x16_1 + 1)) (l1.length : Int))).toNat * 2)) = some (.int .i64 ((rd_T28 l1 (Int.tmod (wrap64 (x16_1 + 1)) (l1.length : Int))).f0)) ∧ w'.cell? ⟨(ad154.add (((Int.tmod (wrap64 (x16_1 + 1)) (l1.length : Int))).toNat * 2)).block, (ad154.add (((Int.tmod (wrap64 (x16_1 + 1)) (l1.length : Int))).toNat * 2)).off + 1, none⟩ = some (.int .i64 ((rd_T28 l1 (Int.tmod (wrap64 (x16_1 + 1)) (l1.length : Int))).f1))) [] (bn 13 0) ⟨(blk_cell BK158.out 0).trans rfl, (blk_cell BK158.out 1).trans rfl, (blk_cell BK153.out 0).trans rfl, (blk_cell BK153.out 1).trans rfl, (blk_cell BK153.out 2).trans rfl, (blk_cell BK153.out 3).trans rfl, ((HB.out.cell (World.block_lt_of_cell? w _ hw168_0)).trans hw168_0), ((HB.out.cell (World.block_lt_of_cell? w _ hw168_1)).trans hw168_1)⟩ (fun hHeld => ?_); refine with_tabW cover_isInside.tab11 cover_isInside.bits11 (fun HT_ HW_ => ?_)
                generalize wr.drew = w57 at BK153 BK155 BK158 HB hx168_0 hx168_1 hHeld ⊢
                refine pT HT_.out 2 (some 45) (bn 13 4) ?_
                refine pT HT_.out 3 (some 46) (bn 13 12) ?_
                refine pT HT_.out 4 (some 47) (bn 13 28) ?_
                refine pT HT_.out 5 (some 48) (bn 13 60) ?_
                refine pT HT_.out 6 (some 49) (bn 13 124) ?_
                refine pT HT_.out 7 (some 50) (bn 13 252) ?_
                refine pT HT_.out 8 (some 51) (bn 13 508) ?_
                refine tT HT_.out HW_.out 0 (some 43) (bn 13 509) hHeld ?_
                refine tT HT_.out HW_.out 1 (some 44) (bn 13 511) hHeld ?_
                refine tT HT_.out HW_.out 9 (some 52) (bn 13 1023) hHeld ?_
                refine oT HT_.out 10 (some 53) (bn 13 2047) (fun K hK => ?_)
                refine gz Try.func86 #[.agg #[.int .i64 a0_0, .int .i64 a0_1, .int .i64 a0_2, .int .i64 a0_3], .agg #[.int .i64 ((rd_T28 l1 (Int.tmod (wrap64 (x16_1 + 1)) (l1.length : Int))).f0), .int .i64 ((rd_T28 l1 (Int.tmod (wrap64 (x16_1 + 1)) (l1.length : Int))).f1)]] ?_
                with_reducible refine (cover_from.calls a0_0 a0_1 a0_2 a0_3 ((rd_T28 l1 (Int.tmod (wrap64 (x16_1 + 1)) (l1.length : Int))).f0) ((rd_T28 l1 (Int.tmod (wrap64 (x16_1 + 1)) (l1.length : Int))).f1) t169 t170 _ A46.out).mono ?_
                rintro e w58 ⟨rfl, hb⟩
                refine ⟨_, rfl, ?_⟩
                have n0_ := Aside0.mk (blk_below (g := gb153) BKz hb)
                have n1_ := Aside0.mk (blk_below (g := gb155) BKz hb)
                have n2_ := Aside0.mk (blk_below (g := gb158) BKz hb)
                have n3_ := Aside0.mk (below_step HBz hb)
                clear BK153
                clear BK155
                clear BK158
                clear HB
                have BK153 := n0_
                have BK155 := n1_
                have BK158 := n2_
                have HB := n3_
                clear n0_ n1_ n2_ n3_
                (try clear hb)
                (try clear hb2)
                (try clear hk)
                (try clear hi)
                refine hK.out _ _ ⟨(blk_cell BK158.out 0).trans rfl, (blk_cell BK158.out 1).trans rfl, (blk_cell BK153.out 0).trans rfl, (blk_cell BK153.out 1).trans rfl, (blk_cell BK153.out 2).trans rfl, (blk_cell BK153.out 3).trans rfl, ((HB.out.cell (World.block_lt_of_cell? w _ hw168_0)).trans hw168_0), ((HB.out.cell (World.block_lt_of_cell? w _ hw168_1)).trans hw168_1)⟩ (fun hHeld => ?_)
                clear hK K
                refine nz (some 53) ?_
                refine oT HT_.out 11 (some 54) (bn 13 4095) (fun K hK => ?_)
                refine gz Try.func88 #[.agg #[.int .i64 t156, .int .i64 t157], .agg #[.int .i64 t169, .int .i64 t170]] ?_
                with_reducible refine (cover_cross.calls t156 t157 t169 t170 t171 _ A47.out).mono ?_
                rintro e w59 ⟨rfl, hb⟩
                refine ⟨_, rfl, ?_⟩
                have n0_ := Aside0.mk (blk_below (g := gb153) BKz hb)
                have n1_ := Aside0.mk (blk_below (g := gb155) BKz hb)
                have n2_ := Aside0.mk (blk_below (g := gb158) BKz hb)
                have n3_ := Aside0.mk (below_step HBz hb)
                clear BK153
                clear BK155
                clear BK158
                clear HB
                have BK153 := n0_
                have BK155 := n1_
                have BK158 := n2_
                have HB := n3_
                clear n0_ n1_ n2_ n3_
                (try clear hb)
                (try clear hb2)
                (try clear hk)
                (try clear hi)
                refine hK.out _ _ ⟨(blk_cell BK158.out 0).trans rfl, (blk_cell BK158.out 1).trans rfl, (blk_cell BK153.out 0).trans rfl, (blk_cell BK153.out 1).trans rfl, (blk_cell BK153.out 2).trans rfl, (blk_cell BK153.out 3).trans rfl, ((HB.out.cell (World.block_lt_of_cell? w _ hw168_0)).trans hw168_0), ((HB.out.cell (World.block_lt_of_cell? w _ hw168_1)).trans hw168_1)⟩ (fun hHeld => ?_)
                clear hK K
                refine nz (some 54) ?_
                refine pT HT_.out 12 (some 13) (bn 13 8191) ?_
                refine done_ (done_of HT_.out (by kernel_rfl)) ?_
                try go_wp2
                go_roundg k2
                case measure => have := HK1.out; have := HK2.out; omega
                case rel => exact ⟨(decide (t171 > 0)), (true), (x7_2), (wrap64 (x16_1 + 1)), (by first | rfl | (simp; done) | (simp [*]; done)), (by first | rfl | (simp; done) | (simp [*]; done)), (by first | rfl | (simp; done) | (simp [*]; done)), (by first | rfl | (simp; done) | (simp [*]; done)), H', ⟨by have := HK1.out; have := HK2.out; omega⟩, ⟨by (with_reducible repeat (first | refine blk_drewN ?_ _ | refine blk_drew ?_ | refine blk_alloc ?_ _)); exact BK153.out⟩, ⟨HBz⟩⟩
               ·replace c56 := Bool.eq_false_iff.mpr c56
                subst c56
                have H1 : (cover_isInside.l0 k2 l1 (decide (t171 > 0)) (decide (t171 < 0)) x7_2 l1 (l1.length : Int) (wrap64 (x16_1 + 1)) a0_0 a0_1 a0_2 a0_3) = some r := by rw [if_neg (show ¬ (false = true) by decide)] at H; exact H
                clear H
                have H := H1
                clear H1
                have H' := Aside0.mk H
                clear H
                try go_wp2
                have n0_ := Aside0.mk (blk_drew BK153.out)
                have n1_ := Aside0.mk (blk_drew BK155.out)
                have n2_ := Aside0.mk (blk_drew BK158.out)
                have n3_ := Aside0.mk (below_drew1 HB.out)
                clear BK153
                clear BK155
                clear BK158
                clear HB
                have BK153 := n0_
                have BK155 := n1_
                have BK158 := n2_
                have HB := n3_
                clear n0_ n1_ n2_ n3_
                have p168 : 0 ≤ ((Int.tmod (wrap64 (x16_1 + 1)) (l1.length : Int)) : Int) := of_decide_eq_true (by first | (with_reducible assumption) | assumption)
                have q168 : (Int.tmod (wrap64 (x16_1 + 1)) (l1.length : Int)) < (l1.length : Int) := of_decide_eq_true (by first | (with_reducible assumption) | assumption)
                obtain ⟨ad168, e168, hx168_0, hx168_1⟩ := at_T28 HR1.out (Int.tmod (wrap64 (x16_1 + 1)) (l1.length : Int)) p168 q168
                have hw168_1 := hx168_1
                have hw168_0 := hx168_0
                obtain rfl : ad154 = ad168 := (by injection e168)
                replace hx168_0 := (HB.out.cell (World.block_lt_of_cell? w _ hx168_0)).trans hx168_0
                replace hx168_1 := (HB.out.cell (World.block_lt_of_cell? w _ hx168_1)).trans hx168_1
                replace p168 := eq_true p168
                replace q168 := eq_true q168
                refine stz (fun w' => w'.cell? ⟨gb158, 0, none⟩ = some (.int .i64 t156) ∧ w'.cell? ⟨gb158, 1, none⟩ = some (.int .i64 t157) ∧ w'.cell? ⟨gb153, 0, none⟩ = some (.int .i64 a0_0) ∧ w'.cell? ⟨gb153, 1, none⟩ = some (.int .i64 a0_1) ∧ w'.cell? ⟨gb153, 2, none⟩ = some (.int .i64 a0_2) ∧ w'.cell? ⟨gb153, 3, none⟩ = some (.int .i64 a0_3) ∧ w'.cell? (ad154.add (((Int.tmod (wrap64 (x16_1 + 1)) (l1.length : Int))).toNat * 2)) = some (.int .i64 ((rd_T28 l1 (Int.tmod (wrap64 (x16_1 + 1)) (l1.length : Int))).f0)) ∧ w'.cell? ⟨(ad154.add (((Int.tmod (wrap64 (x16_1 + 1)) (l1.length : Int))).toNat * 2)).block, (ad154.add (((Int.tmod (wrap64 (x16_1 + 1)) (l1.length : Int))).toNat * 2)).off + 1, none⟩ = some (.int .i64 ((rd_T28 l1 (Int.tmod (wrap64 (x16_1 + 1)) (l1.length : Int))).f1))) [] (bn 13 0) ⟨(blk_cell BK158.out 0).trans rfl, (blk_cell BK158.out 1).trans rfl, (blk_cell BK153.out 0).trans rfl, (blk_cell BK153.out 1).trans rfl, (blk_cell BK153.out 2).trans rfl, (blk_cell BK153.out 3).trans rfl, ((HB.out.cell (World.block_lt_of_cell? w _ hw168_0)).trans hw168_0), ((HB.out.cell (World.block_lt_of_cell? w _ hw168_1)).trans hw168_1)⟩ (fun hHeld => ?_); refine with_tabW cover_isInside.tab11 cover_isInside.bits11 (fun HT_ HW_ => ?_)
                generalize wr.drew = w60 at BK153 BK155 BK158 HB hx168_0 hx168_1 hHeld ⊢
                refine pT HT_.out 2 (some 45) (bn 13 4) ?_
                refine pT HT_.out 3 (some 46) (bn 13 12) ?_
                refine pT HT_.out 4 (some 47) (bn 13 28) ?_
                refine pT HT_.out 5 (some 48) (bn 13 60) ?_
                refine pT HT_.out 6 (some 49) (bn 13 124) ?_
                refine pT HT_.out 7 (some 50) (bn 13 252) ?_
                refine pT HT_.out 8 (some 51) (bn 13 508) ?_
                refine tT HT_.out HW_.out 0 (some 43) (bn 13 509) hHeld ?_
                refine tT HT_.out HW_.out 1 (some 44) (bn 13 511) hHeld ?_
                refine tT HT_.out HW_.out 9 (some 52) (bn 13 1023) hHeld ?_
                refine oT HT_.out 10 (some 53) (bn 13 2047) (fun K hK => ?_)
                refine gz Try.func86 #[.agg #[.int .i64 a0_0, .int .i64 a0_1, .int .i64 a0_2, .int .i64 a0_3], .agg #[.int .i64 ((rd_T28 l1 (Int.tmod (wrap64 (x16_1 + 1)) (l1.length : Int))).f0), .int .i64 ((rd_T28 l1 (Int.tmod (wrap64 (x16_1 + 1)) (l1.length : Int))).f1)]] ?_
                with_reducible refine (cover_from.calls a0_0 a0_1 a0_2 a0_3 ((rd_T28 l1 (Int.tmod (wrap64 (x16_1 + 1)) (l1.length : Int))).f0) ((rd_T28 l1 (Int.tmod (wrap64 (x16_1 + 1)) (l1.length : Int))).f1) t169 t170 _ A46.out).mono ?_
                rintro e w61 ⟨rfl, hb⟩
                refine ⟨_, rfl, ?_⟩
                have n0_ := Aside0.mk (blk_below (g := gb153) BKz hb)
                have n1_ := Aside0.mk (blk_below (g := gb155) BKz hb)
                have n2_ := Aside0.mk (blk_below (g := gb158) BKz hb)
                have n3_ := Aside0.mk (below_step HBz hb)
                clear BK153
                clear BK155
                clear BK158
                clear HB
                have BK153 := n0_
                have BK155 := n1_
                have BK158 := n2_
                have HB := n3_
                clear n0_ n1_ n2_ n3_
                (try clear hb)
                (try clear hb2)
                (try clear hk)
                (try clear hi)
                refine hK.out _ _ ⟨(blk_cell BK158.out 0).trans rfl, (blk_cell BK158.out 1).trans rfl, (blk_cell BK153.out 0).trans rfl, (blk_cell BK153.out 1).trans rfl, (blk_cell BK153.out 2).trans rfl, (blk_cell BK153.out 3).trans rfl, ((HB.out.cell (World.block_lt_of_cell? w _ hw168_0)).trans hw168_0), ((HB.out.cell (World.block_lt_of_cell? w _ hw168_1)).trans hw168_1)⟩ (fun hHeld => ?_)
                clear hK K
                refine nz (some 53) ?_
                refine oT HT_.out 11 (some 54) (bn 13 4095) (fun K hK => ?_)
                refine gz Try.func88 #[.agg #[.int .i64 t156, .int .i64 t157], .agg #[.int .i64 t169, .int .i64 t170]] ?_
                with_reducible refine (cover_cross.calls t156 t157 t169 t170 t171 _ A47.out).mono ?_
                rintro e w62 ⟨rfl, hb⟩
                refine ⟨_, rfl, ?_⟩
                have n0_ := Aside0.mk (blk_below (g := gb153) BKz hb)
                have n1_ := Aside0.mk (blk_below (g := gb155) BKz hb)
                have n2_ := Aside0.mk (blk_below (g := gb158) BKz hb)
                have n3_ := Aside0.mk (below_step HBz hb)
                clear BK153
                clear BK155
                clear BK158
                clear HB
                have BK153 := n0_
                have BK155 := n1_
                have BK158 := n2_
                have HB := n3_
                clear n0_ n1_ n2_ n3_
                (try clear hb)
                (try clear hb2)
                (try clear hk)
                (try clear hi)
                refine hK.out _ _ ⟨(blk_cell BK158.out 0).trans rfl, (blk_cell BK158.out 1).trans rfl, (blk_cell BK153.out 0).trans rfl, (blk_cell BK153.out 1).trans rfl, (blk_cell BK153.out 2).trans rfl, (blk_cell BK153.out 3).trans rfl, ((HB.out.cell (World.block_lt_of_cell? w _ hw168_0)).trans hw168_0), ((HB.out.cell (World.block_lt_of_cell? w _ hw168_1)).trans hw168_1)⟩ (fun hHeld => ?_)
                clear hK K
                refine nz (some 54) ?_
                refine pT HT_.out 12 (some 13) (bn 13 8191) ?_
                refine done_ (done_of HT_.out (by kernel_rfl)) ?_
                try go_wp2
                go_roundg k2
                case measure => have := HK1.out; have := HK2.out; omega
                case rel => exact ⟨(decide (t171 > 0)), (decide (t171 < 0)), (x7_2), (wrap64 (x16_1 + 1)), (by first | rfl | (simp; done) | (simp [*]; done)), (by first | rfl | (simp; done) | (simp [*]; done)), (by first | rfl | (simp; done) | (simp [*]; done)), (by first | rfl | (simp; done) | (simp [*]; done)), H', ⟨by have := HK1.out; have := HK2.out; omega⟩, ⟨by (with_reducible repeat (first | refine blk_drewN ?_ _ | refine blk_drew ?_ | refine blk_alloc ?_ _)); exact BK153.out⟩, ⟨HBz⟩⟩
             ·rw [if_neg c45] at H
              exact absurd H (by simp)
            ·rw [if_neg c44] at H
             exact absurd H (by simp)
       ·rw [if_neg c9] at H
        exact absurd H (by simp)
      ·rw [if_neg c8] at H
       exact absurd H (by simp)
     ·rw [if_neg c6] at H
      exact absurd H (by simp)
    ·rw [if_neg c5] at H
     exact absurd H (by simp)
   ·rw [if_neg c4] at H
    have c4b0 : decide (x16_1 < (l1.length : Int)) = false := decide_eq_false c4
    clear c4
    have HC63 := Aside0.mk H
    clear H
    go_upto_region 14 with (fail)
    go_cut [66] (fun v66 wc => ∃ (kq : Nat) (x66_62 : Bool), v66 = .bool x66_62 ∧ Aside0 (cover_isInside.j2 kq l1 x5_1 x6_1 x7_1 x66_62 = some r) ∧ Aside0 (kq ≤ k1) ∧ Aside0 (wc.heap[gb153]? = some (.cells #[.int .i64 a0_0, .int .i64 a0_1, .int .i64 a0_2, .int .i64 a0_3] 40 (0, 0))) ∧ Aside0 (Below w.heap.size w wc))
    case first =>
     have H := HC63.out
     clear HC63
     by_cases c64 : x5_1 = true
     ·subst c64
      have H1 : (cover_isInside.j2 k1 l1 true x6_1 x7_1 false) = some r := by rw [if_pos rfl] at H; exact H
      clear H
      have H := H1
      clear H1
      have H' := Aside0.mk H
      clear H
      go_wp2
      go_meet
      case rel => exact ⟨_, (false), (by first | rfl | (simp; done) | (simp [*]; done)), H', ⟨by have := HK1.out; first | omega | exact Nat.le_refl _⟩, ⟨by (with_reducible repeat (first | refine blk_drewN ?_ _ | refine blk_drew ?_ | refine blk_alloc ?_ _)); exact BK153.out⟩, ⟨HBz⟩⟩
     ·replace c64 := Bool.eq_false_iff.mpr c64
      subst c64
      have H1 : (cover_isInside.j2 k1 l1 false x6_1 x7_1 (!x6_1)) = some r := by rw [if_neg (show ¬ (false = true) by decide)] at H; exact H
      clear H
      have H := H1
      clear H1
      have H' := Aside0.mk H
      clear H
      go_wp2
      go_meet
      case rel => exact ⟨_, (!x6_1), (by first | rfl | (simp; done) | (simp [*]; done)), H', ⟨by have := HK1.out; first | omega | exact Nat.le_refl _⟩, ⟨by (with_reducible repeat (first | refine blk_drewN ?_ _ | refine blk_drew ?_ | refine blk_alloc ?_ _)); exact BK153.out⟩, ⟨HBz⟩⟩
    case rest =>
     clear HC63
     try clear p1
     try clear q1
     try clear hx1
     try clear p2
     try clear c4
     try clear c4b0
     try clear c5
     try clear c6
     try clear p6
     try clear c8
     try clear c9
     try clear p16
     try clear q16
     try clear hx16
     try clear c44
     try clear c45
     try clear c48
     try clear c56
     try clear c64
     try clear p64
     try clear hx168_0
     try clear hx168_1
     try clear p168
     try clear q168
     obtain ⟨kq, x66_62, rfl, HA, HJ62, BK153, HB⟩ := hcut
     cases kq with
     | zero => exact absurd HA.out (by simp [cover_isInside.j2])
     | succ kj62 =>
      have H := HA.out
      clear HA
      simp only [cover_isInside.j2] at H
      by_cases c65 : x66_62 = true
      ·subst c65
       have H1 : (some x7_1) = some r := by rw [if_pos rfl] at H; exact H
       clear H
       have H := H1
       clear H1
       obtain rfl := Option.some.inj H
       go_wp2
       go_ret
       exact ⟨by first | rfl | (simp [errW_none, errW_some] <;> rfl) | (simp [*, errW_none, errW_some] <;> rfl), HBz⟩
      ·replace c65 := Bool.eq_false_iff.mpr c65
       subst c65
       have H1 : (if (l1.length : Int) = 3 then (some (x5_1 != x6_1)) else (some false)) = some r := by rw [if_neg (show ¬ (false = true) by decide)] at H; exact H
       clear H
       have H := H1
       clear H1
       by_cases c66 : (l1.length : Int) = 3
       ·rw [if_pos c66] at H
        have c66b0 : ((l1.length : Int) == 3) = true := beq_iff_eq.mpr c66
        have c66b1 : ((l1.length : Int) != 3) = false := bne_eq_false_iff_eq.mpr c66
        clear c66
        obtain rfl := Option.some.inj H
        go_wp2
        go_ret
        exact ⟨by first | rfl | (simp [errW_none, errW_some] <;> rfl) | (simp [*, errW_none, errW_some] <;> rfl), HBz⟩
       ·rw [if_neg c66] at H
        have c66b0 : ((l1.length : Int) == 3) = false := beq_eq_false_iff_ne.mpr c66
        have c66b1 : ((l1.length : Int) != 3) = true := bne_iff_ne.mpr c66
        obtain rfl := Option.some.inj H
        go_wp2
        go_ret
        exact ⟨by first | rfl | (simp [errW_none, errW_some] <;> rfl) | (simp [*, errW_none, errW_some] <;> rfl), HBz⟩
end Go.Proofs.Ytplhfbkejngioaa.X
namespace Go.Proofs.Ytplhfbkejngioaa.X
open Go.RowKit Go.Proofs.YtplhfbkejngioaaW.PrintWords Go.Proofs.YtplhfbkejngioaaW.PrintLast Go.Proofs.Ytplhfbkejngioaa.S
set_option linter.unusedVariables false
theorem gcd_l0 : ∀ (n : Nat) (a b : Int), b.natAbs ≤ n → a.natAbs ≤ 4611686018427387904 → b.natAbs ≤ 4611686018427387904 → Ev (fun k => cover_gcd.l0 k a b) ((Nat.gcd a.natAbs b.natAbs : Nat) : Int) := by
 intro n
 induction n with
 | zero =>
  intro a b hn ha hb
  obtain rfl : b = 0 := by omega
  refine Ev.step (f := fun _ => some _) (fun k => ?_) (Ev.now _)
  simp only [cover_gcd.l0]
  rw [if_pos trivial, w64 (by omega) (by omega)]
  simp only [Int.natAbs_zero, Nat.gcd_zero_right]
  unfold mx
  congr 1
  split <;> omega
 | succ n ih =>
  intro a b hn ha hb
  by_cases h0 : b = 0
  ·subst h0
   exact ih a 0 (by simp) ha (by simp)
  ·have ht : (Int.tmod a b).natAbs = a.natAbs % b.natAbs := Int.natAbs_tmod a b
   have hlt : a.natAbs % b.natAbs < b.natAbs := Nat.mod_lt _ (by omega)
   have := ih b (Int.tmod a b) (by omega) hb (by omega)
   rw [ht] at this
   refine Ev.step (f := fun k => cover_gcd.l0 k b (Int.tmod a b)) (fun k => ?_) ?_
   ·simp only [cover_gcd.l0]; rw [if_neg h0]
   ·have e : Nat.gcd a.natAbs b.natAbs = Nat.gcd b.natAbs (a.natAbs % b.natAbs) := by
     rw [Nat.gcd_comm, Nat.gcd_rec, Nat.gcd_comm]
    rw [e]; exact this
theorem gcd_ev (a b : Int) (ha : a.natAbs ≤ 4611686018427387904) (hb : b.natAbs ≤ 4611686018427387904) : Ev (fun k => cover_gcd.f k a b) ((Nat.gcd a.natAbs b.natAbs : Nat) : Int) :=
 gcd_l0 b.natAbs a b (Nat.le_refl _) ha hb
theorem gcd3_pos (X Y D R : Int) (h : D ≠ 0) : 0 < gcd3 ⟨X, Y, D, R⟩ := by
 unfold gcd3
 have : 0 < Nat.gcd (Nat.gcd X.natAbs Y.natAbs) D.natAbs := Nat.gcd_pos_of_pos_right _ (by omega)
 simp only; omega
theorem gcd3_le (X Y D R : Int) (h : D ≠ 0) : gcd3 ⟨X, Y, D, R⟩ ≤ D.natAbs := by
 unfold gcd3
 have : Nat.gcd (Nat.gcd X.natAbs Y.natAbs) D.natAbs ≤ D.natAbs := Nat.gcd_le_right _ (by omega)
 simp only; omega
theorem gcd3_dX (X Y D R : Int) : gcd3 ⟨X, Y, D, R⟩ ∣ X := by
 unfold gcd3
 refine Int.ofNat_dvd_left.2 ?_
 exact Nat.dvd_trans (Nat.gcd_dvd_left _ _) (Nat.gcd_dvd_left _ _)
theorem gcd3_dY (X Y D R : Int) : gcd3 ⟨X, Y, D, R⟩ ∣ Y := by
 unfold gcd3
 refine Int.ofNat_dvd_left.2 ?_
 exact Nat.dvd_trans (Nat.gcd_dvd_left _ _) (Nat.gcd_dvd_right _ _)
theorem gcd3_dD (X Y D R : Int) : gcd3 ⟨X, Y, D, R⟩ ∣ D := by
 unfold gcd3
 refine Int.ofNat_dvd_left.2 ?_
 exact Nat.gcd_dvd_right _ _
theorem tdiv_dvd {a g : Int} (h : g ∣ a) : Int.tdiv a g = a / g := Int.tdiv_eq_ediv_of_dvd h
theorem div_bd {a g M : Int} (hg : 0 < g) (h1 : -M ≤ a) (h2 : a ≤ M) (hM : 0 ≤ M) : -M ≤ a / g ∧ a / g ≤ M := by
 have e := Int.mul_ediv_add_emod a g
 have m0 := Int.emod_nonneg a (Int.ne_of_gt hg)
 have m1 := Int.emod_lt_of_pos a hg
 constructor
 ·rw [Int.le_ediv_iff_mul_le hg]
  have : M * 1 ≤ M * g := Int.mul_le_mul_of_nonneg_left (by omega) hM
  have e2 : -M * g = -(M * g) := Int.neg_mul _ _
  omega
 ·have : a < (M + 1) * g := by
   have : (M + 1) * 1 ≤ (M + 1) * g := Int.mul_le_mul_of_nonneg_left (by omega) (by omega)
   omega
  have := Int.ediv_lt_of_lt_mul hg this
  omega
theorem red_core (X Y D R : Int) (hX : -2147483648 ≤ X ∧ X ≤ 2147483648) (hY : -2147483648 ≤ Y ∧ Y ≤ 2147483648) (hD : 0 < D ∧ D ≤ 2147483648) (hR : 0 ≤ R ∧ R ≤ 4611686018427387904) :
  Ev (fun k => (cover_gcd.f k X Y).bind fun t125 => ((cover_gcd.f k t125 D).bind fun t126 => (if t126 = 0 then (none) else (if (wrap64 (t126 * t126)) = 0 then (none) else (some (wrap64 (Int.tdiv X t126), wrap64 (Int.tdiv Y t126), wrap64 (Int.tdiv D t126), wrap64 (Int.tdiv R (wrap64 (t126 * t126)))))))))
   (X / gcd3 ⟨X, Y, D, R⟩, Y / gcd3 ⟨X, Y, D, R⟩, D / gcd3 ⟨X, Y, D, R⟩, R / (gcd3 ⟨X, Y, D, R⟩ * gcd3 ⟨X, Y, D, R⟩)) := by
 refine Ev.bind (gcd_ev X Y (by omega) (by omega)) ?_
 have hgl : Nat.gcd X.natAbs Y.natAbs ≤ 2147483648 ∨ Nat.gcd X.natAbs Y.natAbs = 0 := by
  rcases Nat.eq_zero_or_pos X.natAbs with h | h
  ·have := h; rw [h, Nat.gcd_zero_left]; left; omega
  ·left; have := Nat.gcd_le_left Y.natAbs h; omega
 refine Ev.bind (gcd_ev _ D (by omega) (by omega)) ?_
 have hg0 := gcd3_pos X Y D R (by omega)
 have hg1 := gcd3_le X Y D R (by omega)
 have hdX := gcd3_dX X Y D R
 have hdY := gcd3_dY X Y D R
 have hdD := gcd3_dD X Y D R
 have eg : ((Nat.gcd (((Nat.gcd X.natAbs Y.natAbs : Nat) : Int)).natAbs D.natAbs : Nat) : Int) = gcd3 ⟨X, Y, D, R⟩ := by
  unfold gcd3; simp
 rw [eg]
 generalize gcd3 ⟨X, Y, D, R⟩ = g at *
 have hgg := mul_bd (A := 2147483648) (B := 2147483648) (a := g) (b := g) (by omega) (by omega) (by omega) (by omega)
 have hgp := Int.mul_pos hg0 hg0
 have bX := div_bd (M := 2147483648) hg0 hX.1 hX.2 (by omega)
 have bY := div_bd (M := 2147483648) hg0 hY.1 hY.2 (by omega)
 have bD := div_bd (M := 2147483648) hg0 (a := D) (by omega) (by omega) (by omega)
 have bR := div_bd (M := 4611686018427387904) hgp (a := R) (by omega) (by omega) (by omega)
 refine Ev.congr (f := fun _ => some _) (fun k => ?_) (Ev.now _)
 have w1 : wrap64 (g * g) = g * g := w64 (by omega) (by omega)
 rw [if_neg (by omega), w1, if_neg (by omega), tdiv_dvd hdX, tdiv_dvd hdY, tdiv_dvd hdD, Int.tdiv_eq_ediv_of_nonneg hR.1,
  w64 (by omega) (by omega), w64 (by omega) (by omega), w64 (by omega) (by omega), w64 (by omega) (by omega)]
theorem reduced_ev (X Y D R : Int) (hX : -2147483648 ≤ X ∧ X ≤ 2147483648) (hY : -2147483648 ≤ Y ∧ Y ≤ 2147483648) (hD : -2147483648 ≤ D ∧ D ≤ 2147483648) (h0 : D ≠ 0) (hR : 0 ≤ R ∧ R ≤ 4611686018427387904) :
  Ev (fun k => cover_reduced.f k X Y D R) ((redC ⟨X, Y, D, R⟩).X, (redC ⟨X, Y, D, R⟩).Y, (redC ⟨X, Y, D, R⟩).D, (redC ⟨X, Y, D, R⟩).R) := by
 by_cases hn : D < 0
 ·have := red_core (-X) (-Y) (-D) R (by omega) (by omega) (by omega) hR
  have e : redC ⟨X, Y, D, R⟩ = ⟨-X / gcd3 ⟨-X, -Y, -D, R⟩, -Y / gcd3 ⟨-X, -Y, -D, R⟩, -D / gcd3 ⟨-X, -Y, -D, R⟩, R / (gcd3 ⟨-X, -Y, -D, R⟩ * gcd3 ⟨-X, -Y, -D, R⟩)⟩ := by
   unfold redC; simp only [if_pos hn]
  rw [e]
  refine Ev.congr (fun k => ?_) this
  unfold cover_reduced.f
  rw [if_pos hn, w64 (x := -X) (by omega) (by omega), w64 (x := -Y) (by omega) (by omega), w64 (x := -D) (by omega) (by omega)]
 ·have := red_core X Y D R hX hY (by omega) hR
  have e : redC ⟨X, Y, D, R⟩ = ⟨X / gcd3 ⟨X, Y, D, R⟩, Y / gcd3 ⟨X, Y, D, R⟩, D / gcd3 ⟨X, Y, D, R⟩, R / (gcd3 ⟨X, Y, D, R⟩ * gcd3 ⟨X, Y, D, R⟩)⟩ := by
   unfold redC; simp only [if_neg hn]
  rw [e]
  refine Ev.congr (fun k => ?_) this
  unfold cover_reduced.f
  rw [if_neg hn]
theorem sq_bd {a A : Int} (h1 : -A ≤ a) (h2 : a ≤ A) : 0 ≤ a * a ∧ a * a ≤ A * A := by
 refine ⟨?_, (mul_bd h1 h2 h1 h2).2⟩
 rcases Int.le_total 0 a with h | h
 ·exact Int.mul_nonneg h h
 ·have := Int.mul_nonneg (Int.neg_nonneg.2 h) (Int.neg_nonneg.2 h); rwa [Int.neg_mul_neg] at this
theorem between_ev {a b : S28} (ha : isP a = true) (hb : isP b = true) : Ev (fun k => cover_between.f k a.f0 a.f1 b.f0 b.f1) ((betC a b).X, (betC a b).Y, (betC a b).D, (betC a b).R) := by
 have A := isP_bd ha
 have B := isP_bd hb
 have q0 := sq_bd (A := 512) (a := a.f0 - b.f0) (by omega) (by omega)
 have q1 := sq_bd (A := 512) (a := a.f1 - b.f1) (by omega) (by omega)
 have := reduced_ev (a.f0 + b.f0) (a.f1 + b.f1) 2 ((a.f0 - b.f0) * (a.f0 - b.f0) + (a.f1 - b.f1) * (a.f1 - b.f1)) (by omega) (by omega) (by omega) (by omega) (by omega)
 unfold betC
 refine Ev.congr (f := fun k => (cover_reduced.f k (a.f0 + b.f0) (a.f1 + b.f1) 2 ((a.f0 - b.f0) * (a.f0 - b.f0) + (a.f1 - b.f1) * (a.f1 - b.f1))).bind fun bt132 => some (bt132.1, bt132.2.1, bt132.2.2.1, bt132.2.2.2)) (fun k => ?_) (Ev.bind this (Ev.now _))
 unfold cover_between.f
 rw [w64 (x := a.f0 - b.f0) (by omega) (by omega), w64 (x := a.f1 - b.f1) (by omega) (by omega), w64 (x := a.f0 + b.f0) (by omega) (by omega), w64 (x := a.f1 + b.f1) (by omega) (by omega), dot_f (by omega) (by omega) (by omega) (by omega)]
 simp only [Option.bind_some]
theorem cross_f {a b c d : Int} (ha : -1342177280 ≤ a ∧ a ≤ 1342177280) (hb : -1342177280 ≤ b ∧ b ≤ 1342177280) (hc : -1342177280 ≤ c ∧ c ≤ 1342177280) (hd : -1342177280 ≤ d ∧ d ≤ 1342177280) :
  cover_cross.f a b c d = some (a * d - b * c) := by
 have m0 := mul_bd ha.1 ha.2 hd.1 hd.2
 have m1 := mul_bd hb.1 hb.2 hc.1 hc.2
 unfold cover_cross.f
 rw [w64 (x := a * d) (by omega) (by omega), w64 (x := b * c) (by omega) (by omega), w64 (by omega) (by omega)]
theorem through_flat {a b c : S28} (ha : isP a = true) (hb : isP b = true) (hc : isP c = true) (h : crossD a b c = 0) (k : Nat) : cover_through.f k a.f0 a.f1 b.f0 b.f1 c.f0 c.f1 = some (0, 0, 0, 0, false) := by
 have A := isP_bd ha
 have B := isP_bd hb
 have C := isP_bd hc
 unfold cover_through.f
 rw [w64 (x := b.f0 - a.f0) (by omega) (by omega), w64 (x := b.f1 - a.f1) (by omega) (by omega), w64 (x := c.f0 - a.f0) (by omega) (by omega), w64 (x := c.f1 - a.f1) (by omega) (by omega), cross_f (by omega) (by omega) (by omega) (by omega)]
 simp only [Option.bind_some]
 have m0 := mul_bd (A := 512) (B := 512) (a := b.f0 - a.f0) (b := c.f1 - a.f1) (by omega) (by omega) (by omega) (by omega)
 have m1 := mul_bd (A := 512) (B := 512) (a := b.f1 - a.f1) (b := c.f0 - a.f0) (by omega) (by omega) (by omega) (by omega)
 unfold crossD at h
 rw [w64 (by omega) (by omega), h, if_pos rfl]
structure ThrBd (a b c : S28) : Prop where
 p : 0 ≤ (b.f0 - a.f0) * (b.f0 - a.f0) + (b.f1 - a.f1) * (b.f1 - a.f1) ∧ (b.f0 - a.f0) * (b.f0 - a.f0) + (b.f1 - a.f1) * (b.f1 - a.f1) ≤ 524288
 q : 0 ≤ (c.f0 - a.f0) * (c.f0 - a.f0) + (c.f1 - a.f1) * (c.f1 - a.f1) ∧ (c.f0 - a.f0) * (c.f0 - a.f0) + (c.f1 - a.f1) * (c.f1 - a.f1) ≤ 524288
 d : -1048576 ≤ crossD a b c ∧ crossD a b c ≤ 1048576
theorem thr_bd {a b c : S28} (ha : isP a = true) (hb : isP b = true) (hc : isP c = true) : ThrBd a b c := by
 have A := isP_bd ha
 have B := isP_bd hb
 have C := isP_bd hc
 have q0 := sq_bd (A := 512) (a := b.f0 - a.f0) (by omega) (by omega)
 have q1 := sq_bd (A := 512) (a := b.f1 - a.f1) (by omega) (by omega)
 have q2 := sq_bd (A := 512) (a := c.f0 - a.f0) (by omega) (by omega)
 have q3 := sq_bd (A := 512) (a := c.f1 - a.f1) (by omega) (by omega)
 have m0 := mul_bd (A := 512) (B := 512) (a := b.f0 - a.f0) (b := c.f1 - a.f1) (by omega) (by omega) (by omega) (by omega)
 have m1 := mul_bd (A := 512) (B := 512) (a := b.f1 - a.f1) (b := c.f0 - a.f0) (by omega) (by omega) (by omega) (by omega)
 refine ⟨by omega, by omega, ?_⟩
 unfold crossD
 omega
theorem through_ev {a b c : S28} (ha : isP a = true) (hb : isP b = true) (hc : isP c = true) (h : crossD a b c ≠ 0) :
  Ev (fun k => cover_through.f k a.f0 a.f1 b.f0 b.f1 c.f0 c.f1) ((thrC a b c).X, (thrC a b c).Y, (thrC a b c).D, (thrC a b c).R, true) := by
 have A := isP_bd ha
 have B := isP_bd hb
 have C := isP_bd hc
 have T := thr_bd ha hb hc
 have tp := T.p
 have tq := T.q
 have td := T.d
 have e1 : thrC a b c = redC ⟨a.f0 * crossD a b c + ((c.f1 - a.f1) * ((b.f0 - a.f0) * (b.f0 - a.f0) + (b.f1 - a.f1) * (b.f1 - a.f1)) - (b.f1 - a.f1) * ((c.f0 - a.f0) * (c.f0 - a.f0) + (c.f1 - a.f1) * (c.f1 - a.f1))),
   a.f1 * crossD a b c + ((b.f0 - a.f0) * ((c.f0 - a.f0) * (c.f0 - a.f0) + (c.f1 - a.f1) * (c.f1 - a.f1)) - (c.f0 - a.f0) * ((b.f0 - a.f0) * (b.f0 - a.f0) + (b.f1 - a.f1) * (b.f1 - a.f1))), crossD a b c,
   ((c.f1 - a.f1) * ((b.f0 - a.f0) * (b.f0 - a.f0) + (b.f1 - a.f1) * (b.f1 - a.f1)) - (b.f1 - a.f1) * ((c.f0 - a.f0) * (c.f0 - a.f0) + (c.f1 - a.f1) * (c.f1 - a.f1))) * ((c.f1 - a.f1) * ((b.f0 - a.f0) * (b.f0 - a.f0) + (b.f1 - a.f1) * (b.f1 - a.f1)) - (b.f1 - a.f1) * ((c.f0 - a.f0) * (c.f0 - a.f0) + (c.f1 - a.f1) * (c.f1 - a.f1))) +
   ((b.f0 - a.f0) * ((c.f0 - a.f0) * (c.f0 - a.f0) + (c.f1 - a.f1) * (c.f1 - a.f1)) - (c.f0 - a.f0) * ((b.f0 - a.f0) * (b.f0 - a.f0) + (b.f1 - a.f1) * (b.f1 - a.f1))) * ((b.f0 - a.f0) * ((c.f0 - a.f0) * (c.f0 - a.f0) + (c.f1 - a.f1) * (c.f1 - a.f1)) - (c.f0 - a.f0) * ((b.f0 - a.f0) * (b.f0 - a.f0) + (b.f1 - a.f1) * (b.f1 - a.f1)))⟩ := rfl
 rw [e1]
 have hcr : 2 * ((b.f0 - a.f0) * (c.f1 - a.f1) - (b.f1 - a.f1) * (c.f0 - a.f0)) = crossD a b c := rfl
 have m0 := mul_bd (A := 512) (B := 512) (a := b.f0 - a.f0) (b := c.f1 - a.f1) (by omega) (by omega) (by omega) (by omega)
 have m1 := mul_bd (A := 512) (B := 512) (a := b.f1 - a.f1) (b := c.f0 - a.f0) (by omega) (by omega) (by omega) (by omega)
 have v1 := mul_bd (A := 512) (B := 524288) (a := c.f1 - a.f1) (b := (b.f0 - a.f0) * (b.f0 - a.f0) + (b.f1 - a.f1) * (b.f1 - a.f1)) (by omega) (by omega) (by omega) (by omega)
 have v2 := mul_bd (A := 512) (B := 524288) (a := b.f1 - a.f1) (b := (c.f0 - a.f0) * (c.f0 - a.f0) + (c.f1 - a.f1) * (c.f1 - a.f1)) (by omega) (by omega) (by omega) (by omega)
 have v3 := mul_bd (A := 512) (B := 524288) (a := b.f0 - a.f0) (b := (c.f0 - a.f0) * (c.f0 - a.f0) + (c.f1 - a.f1) * (c.f1 - a.f1)) (by omega) (by omega) (by omega) (by omega)
 have v4 := mul_bd (A := 512) (B := 524288) (a := c.f0 - a.f0) (b := (b.f0 - a.f0) * (b.f0 - a.f0) + (b.f1 - a.f1) * (b.f1 - a.f1)) (by omega) (by omega) (by omega) (by omega)
 have v5 := mul_bd (A := 256) (B := 1048576) (a := a.f0) (b := crossD a b c) (by omega) (by omega) (by omega) (by omega)
 have v6 := mul_bd (A := 256) (B := 1048576) (a := a.f1) (b := crossD a b c) (by omega) (by omega) (by omega) (by omega)
 have hdot1 := dot_f (a := b.f0 - a.f0) (b := b.f1 - a.f1) (c := b.f0 - a.f0) (d := b.f1 - a.f1) (by omega) (by omega) (by omega) (by omega)
 have hdot2 := dot_f (a := c.f0 - a.f0) (b := c.f1 - a.f1) (c := c.f0 - a.f0) (d := c.f1 - a.f1) (by omega) (by omega) (by omega) (by omega)
 have hcross := cross_f (a := b.f0 - a.f0) (b := b.f1 - a.f1) (c := c.f0 - a.f0) (d := c.f1 - a.f1) (by omega) (by omega) (by omega) (by omega)
 have x1 := w64 (x := b.f0 - a.f0) (by omega) (by omega)
 have x2 := w64 (x := b.f1 - a.f1) (by omega) (by omega)
 have x3 := w64 (x := c.f0 - a.f0) (by omega) (by omega)
 have x4 := w64 (x := c.f1 - a.f1) (by omega) (by omega)
 generalize (b.f0 - a.f0) * (c.f1 - a.f1) - (b.f1 - a.f1) * (c.f0 - a.f0) = cr at *
 generalize (b.f0 - a.f0) * (b.f0 - a.f0) + (b.f1 - a.f1) * (b.f1 - a.f1) = p at *
 generalize (c.f0 - a.f0) * (c.f0 - a.f0) + (c.f1 - a.f1) * (c.f1 - a.f1) = q at *
 have y1 := w64 (x := (c.f1 - a.f1) * p) (by omega) (by omega)
 have y2 := w64 (x := (b.f1 - a.f1) * q) (by omega) (by omega)
 have y3 := w64 (x := (b.f0 - a.f0) * q) (by omega) (by omega)
 have y4 := w64 (x := (c.f0 - a.f0) * p) (by omega) (by omega)
 have y5 := w64 (x := (c.f1 - a.f1) * p - (b.f1 - a.f1) * q) (by omega) (by omega)
 have y6 := w64 (x := (b.f0 - a.f0) * q - (c.f0 - a.f0) * p) (by omega) (by omega)
 have hdot3 := dot_f (a := (c.f1 - a.f1) * p - (b.f1 - a.f1) * q) (b := (b.f0 - a.f0) * q - (c.f0 - a.f0) * p) (c := (c.f1 - a.f1) * p - (b.f1 - a.f1) * q) (d := (b.f0 - a.f0) * q - (c.f0 - a.f0) * p) (by omega) (by omega) (by omega) (by omega)
 have z0 : wrap64 (2 * cr) = crossD a b c := by rw [hcr]; exact w64 (by omega) (by omega)
 have z1 := w64 (x := a.f0 * crossD a b c) (by omega) (by omega)
 have z2 := w64 (x := a.f1 * crossD a b c) (by omega) (by omega)
 have s1 := sq_bd (A := 536870912) (a := (c.f1 - a.f1) * p - (b.f1 - a.f1) * q) (by omega) (by omega)
 have s2 := sq_bd (A := 536870912) (a := (b.f0 - a.f0) * q - (c.f0 - a.f0) * p) (by omega) (by omega)
 have bx : -536870912 ≤ (c.f1 - a.f1) * p - (b.f1 - a.f1) * q ∧ (c.f1 - a.f1) * p - (b.f1 - a.f1) * q ≤ 536870912 := by omega
 have by' : -536870912 ≤ (b.f0 - a.f0) * q - (c.f0 - a.f0) * p ∧ (b.f0 - a.f0) * q - (c.f0 - a.f0) * p ≤ 536870912 := by omega
 generalize hwx : (c.f1 - a.f1) * p - (b.f1 - a.f1) * q = wx at *
 generalize hwy : (b.f0 - a.f0) * q - (c.f0 - a.f0) * p = wy at *
 generalize hd : crossD a b c = d at *
 have z3 := w64 (x := a.f0 * d + wx) (by omega) (by omega)
 have z4 := w64 (x := a.f1 * d + wy) (by omega) (by omega)
 have hred := reduced_ev (a.f0 * d + wx) (a.f1 * d + wy) d (wx * wx + wy * wy) (by omega) (by omega) (by omega) h (by omega)
 refine Ev.congr (f := fun k => (cover_reduced.f k (a.f0 * d + wx) (a.f1 * d + wy) d (wx * wx + wy * wy)).bind fun bt149 => some (bt149.1, bt149.2.1, bt149.2.2.1, bt149.2.2.2, true)) (fun k => ?_) (Ev.bind hred (Ev.now _))
 unfold cover_through.f
 rw [x1, x2, x3, x4, hcross]
 simp only [Option.bind_some]
 rw [z0, if_neg h, hdot1]
 simp only [Option.bind_some]
 rw [hdot2]
 simp only [Option.bind_some]
 rw [y1, y2, y3, y4, hwx, hwy, y5, y6, hdot3]
 simp only [Option.bind_some]
 rw [z1, z2, z3, z4]
def dotC (c : Ci) (p q : S28) : Int := (c.D * p.f0 - c.X) * (c.D * q.f0 - c.X) + (c.D * p.f1 - c.Y) * (c.D * q.f1 - c.Y)
def crN (c : Ci) (l : List S28) (i : Nat) : Int := crsC c (pt l i) (pt l ((i + 1) % l.length))
def plusL (c : Ci) (l : List S28) (i : Nat) : Bool := (List.range i).any fun k => decide (0 < crN c l k)
def minusL (c : Ci) (l : List S28) (i : Nat) : Bool := (List.range i).any fun k => decide (crN c l k < 0)
def facR (c : Ci) (l : List S28) (i j : Nat) : Bool := (List.range j).any fun k => decide (dotC c (pt l i) (pt l k) ≤ 0)
def facL (c : Ci) (l : List S28) (i : Nat) : Bool := (List.range i).any fun k => facR c l k (k + 1)
def insL (c : Ci) (l : List S28) : Bool :=
 if plusL c l l.length = false ∧ minusL c l l.length = false then facL c l l.length else if l.length = 3 then plusL c l l.length != minusL c l l.length else false
theorem plusL_succ (c : Ci) (l : List S28) (i : Nat) : plusL c l (i + 1) = (plusL c l i || decide (0 < crN c l i)) := by
 unfold plusL; rw [List.range_succ, List.any_append]; simp
theorem minusL_succ (c : Ci) (l : List S28) (i : Nat) : minusL c l (i + 1) = (minusL c l i || decide (crN c l i < 0)) := by
 unfold minusL; rw [List.range_succ, List.any_append]; simp
theorem facL_succ (c : Ci) (l : List S28) (i : Nat) : facL c l (i + 1) = (facL c l i || facR c l i (i + 1)) := by
 unfold facL; rw [List.range_succ, List.any_append]; simp
theorem facR_succ (c : Ci) (l : List S28) (i j : Nat) : facR c l i (j + 1) = (facR c l i j || decide (dotC c (pt l i) (pt l j) ≤ 0)) := by
 unfold facR; rw [List.range_succ, List.any_append]; simp
theorem pt_isP {l : List S28} (h : l.all isP = true) {i : Nat} (hi : i < l.length) : isP (pt l i) = true := by
 unfold pt
 rw [List.getD_eq_getElem?_getD, List.getElem?_eq_getElem hi]
 exact List.all_eq_true.1 h _ (List.getElem_mem hi)
theorem rd_pt (l : List S28) (i : Nat) : rd_T28 l (i : Int) = pt l i := by unfold rd_T28 pt; simp
theorem pt_take (l : List S28) {i n : Nat} (h : i < n) : pt (l.take n) i = pt l i := by
 unfold pt; simp only [List.getD_eq_getElem?_getD, List.getElem?_take, if_pos h]
theorem ins_j2 (k : Nat) (l : List S28) (p m f : Bool) : cover_isInside.j2 (k + 1) l p m f (!p && !m) = some (if p = false ∧ m = false then f else if l.length = 3 then p != m else false) := by
 simp only [cover_isInside.j2]
 cases p <;> cases m <;> simp
 all_goals (by_cases h : l.length = 3 <;> simp [h] <;> omega)
theorem dec_dot (c : Ci) (p q : S28) : decide (dotC c p q ≤ 0) = decide ((c.D * p.f0 - c.X) * (c.D * q.f0 - c.X) + (c.D * p.f1 - c.Y) * (c.D * q.f1 - c.Y) ≤ 0) := rfl
theorem facR_zero (c : Ci) (l : List S28) (i : Nat) : facR c l i 0 = false := rfl
theorem ins_l1_step {c : Ci} (hc : okC c) {l : List S28} (hl : l.all isP = true) (hn : l.length ≤ 1000) {i j : Nat} (hi : i < l.length) (hj : j ≤ i) (k : Nat) (p m f : Bool) (n : Int) :
  cover_isInside.l1 (k + 1) l p m f (i : Int) l n (i : Int) (l.take (i + 1)) (((l.take (i + 1)).length : Nat) : Int) (j : Int) c.X c.Y c.D c.R (c.D * (pt l i).f0 - c.X) (c.D * (pt l i).f1 - c.Y) =
  cover_isInside.l1 k l p m (f || decide (dotC c (pt l i) (pt l j) ≤ 0)) (i : Int) l n (i : Int) (l.take (i + 1)) (((l.take (i + 1)).length : Nat) : Int) ((j + 1 : Nat) : Int) c.X c.Y c.D c.R (c.D * (pt l i).f0 - c.X) (c.D * (pt l i).f1 - c.Y) := by
 have hlen : (l.take (i + 1)).length = i + 1 := by simp; omega
 have w1 : wrap64 ((j : Int) + 1) = ((j + 1 : Nat) : Int) := by rw [w64 (by omega) (by omega)]; omega
 conv => lhs; simp only [cover_isInside.l1]
 rw [hlen, if_pos (by omega), if_pos (by omega), if_pos (by omega), w1]
 cases f with
 | true => simp
 | false =>
  have hp := pt_isP hl (i := j) (by omega)
  have hq := pt_isP hl hi
  have v1 := vec_bd hc hp
  have v2 := vec_bd hc hq
  rw [if_neg Bool.false_ne_true, rd_pt, pt_take l (by omega), from_f hc hp]
  simp only [Option.bind_some]
  rw [dot_f v2.2.2.1 v2.2.2.2 v1.2.2.1 v1.2.2.2]
  rw [Bool.false_or, dec_dot]
  rfl
theorem ins_l1_all {c : Ci} (hc : okC c) {l : List S28} (hl : l.all isP = true) (hn : l.length ≤ 1000) {i : Nat} (hi : i < l.length) (p m f : Bool) (n : Int) : ∀ (d j k : Nat), j + d = i + 1 →
  cover_isInside.l1 (k + d) l p m (f || facR c l i j) (i : Int) l n (i : Int) (l.take (i + 1)) (((l.take (i + 1)).length : Nat) : Int) (j : Int) c.X c.Y c.D c.R (c.D * (pt l i).f0 - c.X) (c.D * (pt l i).f1 - c.Y) =
  cover_isInside.l1 k l p m (f || facR c l i (i + 1)) (i : Int) l n (i : Int) (l.take (i + 1)) (((l.take (i + 1)).length : Nat) : Int) ((i + 1 : Nat) : Int) c.X c.Y c.D c.R (c.D * (pt l i).f0 - c.X) (c.D * (pt l i).f1 - c.Y)
 | 0, j, k, h => by rw [show j = i + 1 by omega]; rfl
 | d + 1, j, k, h => by
  rw [← Nat.add_assoc, ins_l1_step hc hl hn hi (by omega), Bool.or_assoc, ← facR_succ]
  exact ins_l1_all hc hl hn hi p m f n d (j + 1) k (by omega)
theorem ins_l1_end {c : Ci} (hc : okC c) {l : List S28} (hl : l.all isP = true) (hn : l.length ≤ 1000) {i : Nat} (hi : i < l.length) (k : Nat) (p m f : Bool) (n : Int) :
  cover_isInside.l1 (k + 1) l p m f (i : Int) l n (i : Int) (l.take (i + 1)) (((l.take (i + 1)).length : Nat) : Int) ((i + 1 : Nat) : Int) c.X c.Y c.D c.R (c.D * (pt l i).f0 - c.X) (c.D * (pt l i).f1 - c.Y) =
  cover_isInside.l0 k l (p || decide (0 < crN c l i)) (m || decide (crN c l i < 0)) f l n ((i + 1 : Nat) : Int) c.X c.Y c.D c.R := by
 have hlen : (l.take (i + 1)).length = i + 1 := by simp; omega
 have w1 : wrap64 ((i : Int) + 1) = ((i + 1 : Nat) : Int) := by rw [w64 (by omega) (by omega)]; omega
 conv => lhs; simp only [cover_isInside.l1]
 have ht : Int.tmod (((i + 1 : Nat) : Int)) (l.length : Int) = (((i + 1) % l.length : Nat) : Int) := by
  rw [Int.tmod_eq_emod_of_nonneg (by omega)]; exact (Int.natCast_emod _ _).symm
 have hm : (i + 1) % l.length < l.length := Nat.mod_lt _ (by omega)
 have hp := pt_isP hl hm
 have hq := pt_isP hl hi
 have v1 := vec_bd hc hp
 have v2 := vec_bd hc hq
 rw [hlen, if_neg (by omega), if_neg (by omega), w1, ht, if_pos (by omega), if_pos (by omega), rd_pt, from_f hc hp]
 simp only [Option.bind_some]
 rw [cross_f v2.2.2.1 v2.2.2.2 v1.2.2.1 v1.2.2.2]
 simp only [Option.bind_some]
 have e : (c.D * (pt l i).f0 - c.X) * (c.D * (pt l ((i + 1) % l.length)).f1 - c.Y) - (c.D * (pt l i).f1 - c.Y) * (c.D * (pt l ((i + 1) % l.length)).f0 - c.X) = crN c l i := rfl
 rw [e]
 cases p <;> cases m <;> simp
end Go.Proofs.Ytplhfbkejngioaa.X
namespace Go.Proofs.Ytplhfbkejngioaa.X
open Go.RowKit Go.Proofs.YtplhfbkejngioaaW.PrintWords Go.Proofs.YtplhfbkejngioaaW.PrintLast Go.Proofs.Ytplhfbkejngioaa.S
set_option linter.unusedVariables false
theorem ins_l0_step {c : Ci} (hc : okC c) {l : List S28} (hl : l.all isP = true) (hn : l.length ≤ 1000) {i : Nat} (hi : i < l.length) (k : Nat) (p m f : Bool) :
  cover_isInside.l0 (k + 1 + (i + 1) + 1) l p m f l (l.length : Int) (i : Int) c.X c.Y c.D c.R =
  cover_isInside.l0 k l (p || decide (0 < crN c l i)) (m || decide (crN c l i < 0)) (f || facR c l i (i + 1)) l (l.length : Int) ((i + 1 : Nat) : Int) c.X c.Y c.D c.R := by
 have g1 : (i : Int) < (l.length : Int) := by omega
 have g2 : (0 : Int) ≤ (i : Int) := by omega
 have g3 : (0 : Int) ≤ ((i + 1 : Nat) : Int) := by omega
 have g4 : ((i + 1 : Nat) : Int) ≤ (l.length : Int) := by omega
 have w1 : wrap64 ((i : Int) + 1) = ((i + 1 : Nat) : Int) := by rw [w64 (by omega) (by omega)]; omega
 conv => lhs; simp only [cover_isInside.l0]
 have hq := pt_isP hl hi
 rw [w1, if_pos g1, if_pos g2, if_pos g1, Int.toNat_natCast, rd_pt, from_f hc hq, Option.bind_some, if_pos g3, if_pos g4, Option.bind_some]
 have := ins_l1_all hc hl hn hi p m f (l.length : Int) (i + 1) 0 (k + 1) (Nat.zero_add _)
 rw [facR_zero, Bool.or_false] at this
 rw [show ((0 : Nat) : Int) = 0 from rfl] at this
 rw [this, ins_l1_end hc hl hn hi]
theorem ins_l0_all {c : Ci} (hc : okC c) {l : List S28} (hl : l.all isP = true) (hn : l.length ≤ 1000) : ∀ (d i : Nat), i + d = l.length →
  ∃ n, cover_isInside.l0 n l (plusL c l i) (minusL c l i) (facL c l i) l (l.length : Int) (i : Int) c.X c.Y c.D c.R = some (insL c l)
 | 0, i, h => by
  obtain rfl : i = l.length := by omega
  refine ⟨2, ?_⟩
  simp only [cover_isInside.l0]
  rw [if_neg (by omega)]
  have e : (if plusL c l l.length = true then cover_isInside.j2 1 l (plusL c l l.length) (minusL c l l.length) (facL c l l.length) false else cover_isInside.j2 1 l (plusL c l l.length) (minusL c l l.length) (facL c l l.length) (!minusL c l l.length)) =
    cover_isInside.j2 1 l (plusL c l l.length) (minusL c l l.length) (facL c l l.length) (!plusL c l l.length && !minusL c l l.length) := by
   cases plusL c l l.length <;> simp
  rw [e, ins_j2]
  rfl
 | d + 1, i, h => by
  obtain ⟨n, hn2⟩ := ins_l0_all hc hl hn d (i + 1) (by omega)
  refine ⟨n + 1 + (i + 1) + 1, ?_⟩
  rw [ins_l0_step hc hl hn (by omega), ← plusL_succ, ← minusL_succ, ← facL_succ]
  exact hn2
theorem isInside_ev {c : Ci} (hc : okC c) {l : List S28} (hl : l.all isP = true) (hn : l.length ≤ 1000) : Ev (fun k => cover_isInside.f k c.X c.Y c.D c.R l) (insL c l) := by
 obtain ⟨n, h⟩ := ins_l0_all hc hl hn l.length 0 (by omega)
 exact Ev.of (fun k => cover_isInside.mono _ _ _ _ _ k) (k := n) h
end Go.Proofs.Ytplhfbkejngioaa.X
namespace Go.Proofs.Ytplhfbkejngioaa.X
open Go.RowKit Go.Proofs.YtplhfbkejngioaaW.PrintWords Go.Proofs.YtplhfbkejngioaaW.PrintLast Go.Proofs.Ytplhfbkejngioaa.S
set_option linter.unusedVariables false
theorem red_ok (X Y D R : Int) (hX : -1073741824 ≤ X ∧ X ≤ 1073741824) (hY : -1073741824 ≤ Y ∧ Y ≤ 1073741824) (hD : -1048576 ≤ D ∧ D ≤ 1048576) (h0 : D ≠ 0) (hR : 0 ≤ R ∧ R ≤ 1152921504606846976) : okC (redC ⟨X, Y, D, R⟩) := by
 have core : ∀ (X Y D : Int), -1073741824 ≤ X ∧ X ≤ 1073741824 → -1073741824 ≤ Y ∧ Y ≤ 1073741824 → 0 < D ∧ D ≤ 1048576 →
   okC ⟨X / gcd3 ⟨X, Y, D, R⟩, Y / gcd3 ⟨X, Y, D, R⟩, D / gcd3 ⟨X, Y, D, R⟩, R / (gcd3 ⟨X, Y, D, R⟩ * gcd3 ⟨X, Y, D, R⟩)⟩ := by
  intro X Y D hX hY hD
  have hg0 := gcd3_pos X Y D R (by omega)
  have hdD := gcd3_dD X Y D R
  generalize gcd3 ⟨X, Y, D, R⟩ = g at *
  have hgp := Int.mul_pos hg0 hg0
  have bX := div_bd (M := 1073741824) hg0 hX.1 hX.2 (by omega)
  have bY := div_bd (M := 1073741824) hg0 hY.1 hY.2 (by omega)
  have bD := div_bd (M := 1048576) hg0 (a := D) (by omega) (by omega) (by omega)
  have bR := div_bd (M := 1152921504606846976) hgp (a := R) (by omega) (by omega) (by omega)
  have pD : 0 < D / g := Int.ediv_pos_of_pos_of_dvd hD.1 (by omega) hdD
  have pR : 0 ≤ R / (g * g) := Int.ediv_nonneg hR.1 (by omega)
  unfold okC
  simp only
  omega
 by_cases hn : D < 0
 ·have := core (-X) (-Y) (-D) (by omega) (by omega) (by omega)
  unfold redC; simp only [if_pos hn]; exact this
 ·have := core X Y D hX hY (by omega)
  unfold redC; simp only [if_neg hn]; exact this
theorem bet_ok {a b : S28} (ha : isP a = true) (hb : isP b = true) : okC (betC a b) := by
 have A := isP_bd ha
 have B := isP_bd hb
 have q0 := sq_bd (A := 512) (a := a.f0 - b.f0) (by omega) (by omega)
 have q1 := sq_bd (A := 512) (a := a.f1 - b.f1) (by omega) (by omega)
 exact red_ok _ _ _ _ (by omega) (by omega) (by omega) (by omega) (by omega)
def thrU (a b c : S28) : Ci :=
 ⟨a.f0 * crossD a b c + ((c.f1 - a.f1) * ((b.f0 - a.f0) * (b.f0 - a.f0) + (b.f1 - a.f1) * (b.f1 - a.f1)) - (b.f1 - a.f1) * ((c.f0 - a.f0) * (c.f0 - a.f0) + (c.f1 - a.f1) * (c.f1 - a.f1))),
   a.f1 * crossD a b c + ((b.f0 - a.f0) * ((c.f0 - a.f0) * (c.f0 - a.f0) + (c.f1 - a.f1) * (c.f1 - a.f1)) - (c.f0 - a.f0) * ((b.f0 - a.f0) * (b.f0 - a.f0) + (b.f1 - a.f1) * (b.f1 - a.f1))), crossD a b c,
   ((c.f1 - a.f1) * ((b.f0 - a.f0) * (b.f0 - a.f0) + (b.f1 - a.f1) * (b.f1 - a.f1)) - (b.f1 - a.f1) * ((c.f0 - a.f0) * (c.f0 - a.f0) + (c.f1 - a.f1) * (c.f1 - a.f1))) * ((c.f1 - a.f1) * ((b.f0 - a.f0) * (b.f0 - a.f0) + (b.f1 - a.f1) * (b.f1 - a.f1)) - (b.f1 - a.f1) * ((c.f0 - a.f0) * (c.f0 - a.f0) + (c.f1 - a.f1) * (c.f1 - a.f1))) +
   ((b.f0 - a.f0) * ((c.f0 - a.f0) * (c.f0 - a.f0) + (c.f1 - a.f1) * (c.f1 - a.f1)) - (c.f0 - a.f0) * ((b.f0 - a.f0) * (b.f0 - a.f0) + (b.f1 - a.f1) * (b.f1 - a.f1))) * ((b.f0 - a.f0) * ((c.f0 - a.f0) * (c.f0 - a.f0) + (c.f1 - a.f1) * (c.f1 - a.f1)) - (c.f0 - a.f0) * ((b.f0 - a.f0) * (b.f0 - a.f0) + (b.f1 - a.f1) * (b.f1 - a.f1)))⟩
theorem thr_red (a b c : S28) : thrC a b c = redC (thrU a b c) := rfl
theorem thr_ok {a b c : S28} (ha : isP a = true) (hb : isP b = true) (hc : isP c = true) (h : crossD a b c ≠ 0) : okC (thrC a b c) := by
 have A := isP_bd ha
 have B := isP_bd hb
 have C := isP_bd hc
 have T := thr_bd ha hb hc
 have tp := T.p
 have tq := T.q
 have td := T.d
 have v1 := mul_bd (A := 512) (B := 524288) (a := c.f1 - a.f1) (b := (b.f0 - a.f0) * (b.f0 - a.f0) + (b.f1 - a.f1) * (b.f1 - a.f1)) (by omega) (by omega) (by omega) (by omega)
 have v2 := mul_bd (A := 512) (B := 524288) (a := b.f1 - a.f1) (b := (c.f0 - a.f0) * (c.f0 - a.f0) + (c.f1 - a.f1) * (c.f1 - a.f1)) (by omega) (by omega) (by omega) (by omega)
 have v3 := mul_bd (A := 512) (B := 524288) (a := b.f0 - a.f0) (b := (c.f0 - a.f0) * (c.f0 - a.f0) + (c.f1 - a.f1) * (c.f1 - a.f1)) (by omega) (by omega) (by omega) (by omega)
 have v4 := mul_bd (A := 512) (B := 524288) (a := c.f0 - a.f0) (b := (b.f0 - a.f0) * (b.f0 - a.f0) + (b.f1 - a.f1) * (b.f1 - a.f1)) (by omega) (by omega) (by omega) (by omega)
 have v5 := mul_bd (A := 256) (B := 1048576) (a := a.f0) (b := crossD a b c) (by omega) (by omega) (by omega) (by omega)
 have v6 := mul_bd (A := 256) (B := 1048576) (a := a.f1) (b := crossD a b c) (by omega) (by omega) (by omega) (by omega)
 rw [thr_red]
 unfold thrU
 generalize (b.f0 - a.f0) * (b.f0 - a.f0) + (b.f1 - a.f1) * (b.f1 - a.f1) = p at *
 generalize (c.f0 - a.f0) * (c.f0 - a.f0) + (c.f1 - a.f1) * (c.f1 - a.f1) = q at *
 have bx : -536870912 ≤ (c.f1 - a.f1) * p - (b.f1 - a.f1) * q ∧ (c.f1 - a.f1) * p - (b.f1 - a.f1) * q ≤ 536870912 := by omega
 have by' : -536870912 ≤ (b.f0 - a.f0) * q - (c.f0 - a.f0) * p ∧ (b.f0 - a.f0) * q - (c.f0 - a.f0) * p ≤ 536870912 := by omega
 have s1 := sq_bd bx.1 bx.2
 have s2 := sq_bd by'.1 by'.2
 exact red_ok _ _ _ _ (by omega) (by omega) (by omega) h (by omega)
theorem crs_sum (c : Ci) (p q r : S28) : 2 * (crsC c p q + crsC c q r + crsC c r p) = c.D * c.D * crossD p q r := by
 unfold crsC crossD; grind
theorem insL_three {c : Ci} (hD : c.D ≠ 0) {p q r : S28} (h : crossD p q r ≠ 0) : insL c [p, q, r] = insC3 c p q r := by
 have hs := crs_sum c p q r
 have hne : ¬ (crsC c p q = 0 ∧ crsC c q r = 0 ∧ crsC c r p = 0) := by
  rintro ⟨h1, h2, h3⟩
  rw [h1, h2, h3] at hs
  have : c.D * c.D * crossD p q r ≠ 0 := Int.mul_ne_zero (Int.mul_ne_zero hD hD) h
  omega
 have e0 : crN c [p, q, r] 0 = crsC c p q := rfl
 have e1 : crN c [p, q, r] 1 = crsC c q r := rfl
 have e2 : crN c [p, q, r] 2 = crsC c r p := by simp [crN, pt]
 have hp : plusL c [p, q, r] 3 = (decide (0 < crsC c p q) || decide (0 < crsC c q r) || decide (0 < crsC c r p)) := by
  rw [show (3 : Nat) = 0 + 1 + 1 + 1 from rfl, plusL_succ, plusL_succ, plusL_succ, e0, e1, e2]; rfl
 have hm : minusL c [p, q, r] 3 = (decide (crsC c p q < 0) || decide (crsC c q r < 0) || decide (crsC c r p < 0)) := by
  rw [show (3 : Nat) = 0 + 1 + 1 + 1 from rfl, minusL_succ, minusL_succ, minusL_succ, e0, e1, e2]; rfl
 unfold insL
 rw [show [p, q, r].length = 3 from rfl, hp, hm, if_neg, if_pos rfl]
 ·rfl
 ·rintro ⟨h1, h2⟩
  simp only [Bool.or_eq_false_iff, decide_eq_false_iff_not] at h1 h2
  exact hne (by omega)
end Go.Proofs.Ytplhfbkejngioaa.X
