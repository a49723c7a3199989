/- Texts of this claim's session, put together: X28. -/
import Derived.Test.YtplhfbkejngioaaVRepsOne
import Derived.Test.YtplhfbkejngioaaBc0
import Derived.Test.YtplhfbkejngioaaBc4
import Derived.Test.YtplhfbkejngioaaBc6
import Derived.Test.YtplhfbkejngioaaVWords
import Derived.Test.YtplhfbkejngioaaVLast
import Derived.Test.YtplhfbkejngioaaVTab
namespace Go.Proofs.Ytplhfbkejngioaa.X
open Go.RowKit Go.Proofs.YtplhfbkejngioaaW.PrintWords Go.Proofs.YtplhfbkejngioaaW.PrintLast Go.Proofs.Ytplhfbkejngioaa.S
attribute [local go_sem] max2_int min2_int max_two min_two
set_option linter.unusedVariables false
set_option linter.unusedSimpArgs false
mutual
def cover_Meet.l0 : Nat → List (S48) → Int → Int → Int → Int → List (S48) → Int → Int → Option (Int × Int × List Int × Int)
 | 0, _, _, _, _, _, _, _, _ => none
 | k + 1, x0, x5, x6, x7, x8, x19, x20, x21 => if x21 < x20 then (if 0 ≤ x21 then (if x21 < (x19.length : Int) then (if 0 ≤ x5 then (if x5 < (x0.length : Int) then (if ((rd_T48 x19 x21).f0) > ((rd_T48 x0 x5).f0) then (cover_Meet.j1 k x0 x21 x6 x7 x8 x21 x19 x20 x21 ((rd_T48 x19 x21).f0) ((rd_T48 x19 x21).f1) ((rd_T48 x19 x21).f2) ((rd_T48 x19 x21).f3)) else (cover_Meet.j1 k x0 x5 x6 x7 x8 x21 x19 x20 x21 ((rd_T48 x19 x21).f0) ((rd_T48 x19 x21).f1) ((rd_T48 x19 x21).f2) ((rd_T48 x19 x21).f3))) else (none)) else (none)) else (none)) else (none)) else (if 0 ≤ x5 then (if x5 < (x0.length : Int) then (if 0 ≤ x6 then (if x6 < (x0.length : Int) then (if ((rd_T48 x0 x5).f0) > ((rd_T48 x0 x6).f2) then (some (0, 0, (([mn x6 x5, mx x6 x5] : List Int)), 0)) else (if 0 ≤ x7 then (if x7 < (x0.length : Int) then (if 0 ≤ x8 then (if x8 < (x0.length : Int) then (if ((rd_T48 x0 x7).f1) > ((rd_T48 x0 x8).f3) then (some (0, 0, (([mn x8 x7, mx x8 x7] : List Int)), 0)) else (some ((rd_T48 x0 x5).f0, (rd_T48 x0 x7).f1, ([] : List Int), 0))) else (none)) else (none)) else (none)) else (none))) else (none)) else (none)) else (none)) else (none))
def cover_Meet.j1 : Nat → List (S48) → Int → Int → Int → Int → Int → List (S48) → Int → Int → Int → Int → Int → Int → Option (Int × Int × List Int × Int)
 | 0, _, _, _, _, _, _, _, _, _, _, _, _, _ => none
 | k + 1, x0, x5, x6, x7, x8, x9, x19, x20, x21, x658000, x658001, x658002, x658003 => if 0 ≤ x6 then (if x6 < (x0.length : Int) then (if x658002 < ((rd_T48 x0 x6).f2) then (cover_Meet.j2 k x0 x5 x9 x7 x8 x9 x19 x20 x21 x658000 x658001 x658002 x658003) else (cover_Meet.j2 k x0 x5 x6 x7 x8 x9 x19 x20 x21 x658000 x658001 x658002 x658003)) else (none)) else (none)
def cover_Meet.j2 : Nat → List (S48) → Int → Int → Int → Int → Int → List (S48) → Int → Int → Int → Int → Int → Int → Option (Int × Int × List Int × Int)
 | 0, _, _, _, _, _, _, _, _, _, _, _, _, _ => none
 | k + 1, x0, x5, x6, x7, x8, x9, x19, x20, x21, x658000, x658001, x658002, x658003 => if 0 ≤ x7 then (if x7 < (x0.length : Int) then (if x658001 > ((rd_T48 x0 x7).f1) then (if 0 ≤ x8 then (if x8 < (x0.length : Int) then (if x658003 < ((rd_T48 x0 x8).f3) then (cover_Meet.l0 k x0 x5 x6 x9 x9 x19 x20 (wrap64 (x21 + 1))) else (cover_Meet.l0 k x0 x5 x6 x9 x8 x19 x20 (wrap64 (x21 + 1)))) else (none)) else (none)) else (if 0 ≤ x8 then (if x8 < (x0.length : Int) then (if x658003 < ((rd_T48 x0 x8).f3) then (cover_Meet.l0 k x0 x5 x6 x7 x9 x19 x20 (wrap64 (x21 + 1))) else (cover_Meet.l0 k x0 x5 x6 x7 x8 x19 x20 (wrap64 (x21 + 1)))) else (none)) else (none))) else (none)) else (none)
end
def cover_Meet.f (k : Nat) (l0 : List (S48)) : Option (Int × Int × List Int × Int) := (cover_areRects.f l0 32).bind fun t655 => (if t655 = true then (if (l0.length : Int) = 0 then (some (0, 0, ([] : List Int), 0)) else (cover_Meet.l0 k l0 0 0 0 0 l0 (l0.length : Int) 0)) else (some (0, 0, ([] : List Int), 2)))
theorem cover_Meet.mono_l : ∀ k, (∀ y0 y1 y2 y3 y4 y5 y6 y7, LeO (cover_Meet.l0 k y0 y1 y2 y3 y4 y5 y6 y7) (cover_Meet.l0 (k + 1) y0 y1 y2 y3 y4 y5 y6 y7)) ∧ (∀ y0 y1 y2 y3 y4 y5 y6 y7 y8 y9 y10 y11 y12, LeO (cover_Meet.j1 k y0 y1 y2 y3 y4 y5 y6 y7 y8 y9 y10 y11 y12) (cover_Meet.j1 (k + 1) y0 y1 y2 y3 y4 y5 y6 y7 y8 y9 y10 y11 y12)) ∧ (∀ y0 y1 y2 y3 y4 y5 y6 y7 y8 y9 y10 y11 y12, LeO (cover_Meet.j2 k y0 y1 y2 y3 y4 y5 y6 y7 y8 y9 y10 y11 y12) (cover_Meet.j2 (k + 1) y0 y1 y2 y3 y4 y5 y6 y7 y8 y9 y10 y11 y12))
 | 0 => ⟨fun _ _ _ _ _ _ _ _ r h => by simp [cover_Meet.l0] at h, fun _ _ _ _ _ _ _ _ _ _ _ _ _ r h => by simp [cover_Meet.j1] at h, fun _ _ _ _ _ _ _ _ _ _ _ _ _ r h => by simp [cover_Meet.j2] at h⟩
 | k + 1 => by
  obtain ⟨ih0, ih1, ih2⟩ := cover_Meet.mono_l k
  refine ⟨?_, ?_, ?_⟩
  ·intro y0 y1 y2 y3 y4 y5 y6 y7
   unfold cover_Meet.l0
   repeat' first
   | (with_reducible exact ih0 _ _ _ _ _ _ _ _)
   | (with_reducible exact ih1 _ _ _ _ _ _ _ _ _ _ _ _ _)
   | (with_reducible exact ih2 _ _ _ _ _ _ _ _ _ _ _ _ _)
   | (with_reducible exact LeO.refl _)
   | (with_reducible exact LeO.none _)
   | (with_reducible refine LeO.ite ?_ ?_)
   | (with_reducible refine LeO.bind ?_ (fun _ => ?_))
   | exact ih0 _ _ _ _ _ _ _ _
   | exact ih1 _ _ _ _ _ _ _ _ _ _ _ _ _
   | exact ih2 _ _ _ _ _ _ _ _ _ _ _ _ _
   | exact LeO.none _
   | refine LeO.ite ?_ ?_
   | refine LeO.bind ?_ (fun _ => ?_)
  ·intro y0 y1 y2 y3 y4 y5 y6 y7 y8 y9 y10 y11 y12
   unfold cover_Meet.j1
   repeat' first
   | (with_reducible exact ih0 _ _ _ _ _ _ _ _)
   | (with_reducible exact ih1 _ _ _ _ _ _ _ _ _ _ _ _ _)
   | (with_reducible exact ih2 _ _ _ _ _ _ _ _ _ _ _ _ _)
   | (with_reducible exact LeO.refl _)
   | (with_reducible exact LeO.none _)
   | (with_reducible refine LeO.ite ?_ ?_)
   | (with_reducible refine LeO.bind ?_ (fun _ => ?_))
   | exact ih0 _ _ _ _ _ _ _ _
   | exact ih1 _ _ _ _ _ _ _ _ _ _ _ _ _
   | exact ih2 _ _ _ _ _ _ _ _ _ _ _ _ _
   | exact LeO.none _
   | refine LeO.ite ?_ ?_
   | refine LeO.bind ?_ (fun _ => ?_)
  ·intro y0 y1 y2 y3 y4 y5 y6 y7 y8 y9 y10 y11 y12
   unfold cover_Meet.j2
   repeat' first
   | (with_reducible exact ih0 _ _ _ _ _ _ _ _)
   | (with_reducible exact ih1 _ _ _ _ _ _ _ _ _ _ _ _ _)
   | (with_reducible exact ih2 _ _ _ _ _ _ _ _ _ _ _ _ _)
   | (with_reducible exact LeO.refl _)
   | (with_reducible exact LeO.none _)
   | (with_reducible refine LeO.ite ?_ ?_)
   | (with_reducible refine LeO.bind ?_ (fun _ => ?_))
   | exact ih0 _ _ _ _ _ _ _ _
   | exact ih1 _ _ _ _ _ _ _ _ _ _ _ _ _
   | exact ih2 _ _ _ _ _ _ _ _ _ _ _ _ _
   | exact LeO.none _
   | refine LeO.ite ?_ ?_
   | refine LeO.bind ?_ (fun _ => ?_)
theorem cover_Meet.mono : ∀ a0 k, LeO (cover_Meet.f k a0) (cover_Meet.f (k + 1) a0) := by
 intro a0 k
 obtain ⟨ih0, ih1, ih2⟩ := cover_Meet.mono_l k
 unfold cover_Meet.f
 repeat' first
   | (with_reducible exact ih0 _ _ _ _ _ _ _ _)
   | (with_reducible exact ih1 _ _ _ _ _ _ _ _ _ _ _ _ _)
   | (with_reducible exact ih2 _ _ _ _ _ _ _ _ _ _ _ _ _)
   | (with_reducible exact LeO.refl _)
   | (with_reducible exact LeO.none _)
   | (with_reducible refine LeO.ite ?_ ?_)
   | (with_reducible refine LeO.bind ?_ (fun _ => ?_))
   | exact ih0 _ _ _ _ _ _ _ _
   | exact ih1 _ _ _ _ _ _ _ _ _ _ _ _ _
   | exact ih2 _ _ _ _ _ _ _ _ _ _ _ _ _
   | exact LeO.none _
   | refine LeO.ite ?_ ?_
   | refine LeO.bind ?_ (fun _ => ?_)
def cover_Meet.T9 : Bool × List (List Nat × List Nat) := (true, [([], []), ([0], [0]), ([], []), ([], []), ([2, 3], [2, 3]), ([4], [4]), ([5], [5]), ([1, 6], [1, 6])])
def cover_Meet.B9 : List Nat := [0, 1, 0, 0, 12, 28, 60, 127]
theorem cover_Meet.tab9 : rtab .any (opsOf Try.f40 9) = cover_Meet.T9 := by kernel_rfl
theorem cover_Meet.bits9 : waitsOk cover_Meet.T9.2 cover_Meet.B9 = true := by kernel_rfl
def cover_Meet.T11 : Bool × List (List Nat × List Nat) := (true, [([], []), ([0], [0]), ([], []), ([], []), ([2, 3], [2, 3]), ([4], [4]), ([5], [5]), ([1, 6], [1, 6])])
def cover_Meet.B11 : List Nat := [0, 1, 0, 0, 12, 28, 60, 127]
theorem cover_Meet.tab11 : rtab .any (opsOf Try.f40 11) = cover_Meet.T11 := by kernel_rfl
theorem cover_Meet.bits11 : waitsOk cover_Meet.T11.2 cover_Meet.B11 = true := by kernel_rfl
def cover_Meet.T13 : Bool × List (List Nat × List Nat) := (true, [([], []), ([0], [0]), ([], []), ([], []), ([2, 3], [2, 3]), ([4], [4]), ([5], [5]), ([1, 6], [1, 6])])
def cover_Meet.B13 : List Nat := [0, 1, 0, 0, 12, 28, 60, 127]
theorem cover_Meet.tab13 : rtab .any (opsOf Try.f40 13) = cover_Meet.T13 := by kernel_rfl
theorem cover_Meet.bits13 : waitsOk cover_Meet.T13.2 cover_Meet.B13 = true := by kernel_rfl
def cover_Meet.T15 : Bool × List (List Nat × List Nat) := (true, [([], []), ([0], [0]), ([], []), ([], []), ([2, 3], [2, 3]), ([4], [4]), ([5], [5]), ([1, 6], [1, 6])])
def cover_Meet.B15 : List Nat := [0, 1, 0, 0, 12, 28, 60, 127]
theorem cover_Meet.tab15 : rtab .any (opsOf Try.f40 15) = cover_Meet.T15 := by kernel_rfl
theorem cover_Meet.bits15 : waitsOk cover_Meet.T15.2 cover_Meet.B15 = true := by kernel_rfl
def cover_Meet.T18 : Bool × List (List Nat × List Nat) := (true, [([], []), ([], []), ([0, 1], [0, 1]), ([2], [2]), ([3], [3]), ([], []), ([], []), ([5, 6], [5, 6]), ([7], [7]), ([8], [8]), ([4, 9], [4, 9]), ([10], [10])])
def cover_Meet.B18 : List Nat := [0, 0, 3, 7, 15, 0, 0, 96, 224, 480, 1023, 2047]
theorem cover_Meet.tab18 : rtab .any (opsOf Try.f40 18) = cover_Meet.T18 := by kernel_rfl
theorem cover_Meet.bits18 : waitsOk cover_Meet.T18.2 cover_Meet.B18 = true := by kernel_rfl
def cover_Meet.T20 : Bool × List (List Nat × List Nat) := (true, [([], []), ([], []), ([0, 1], [0, 1]), ([2], [2]), ([3], [3]), ([], []), ([], []), ([5, 6], [5, 6]), ([7], [7]), ([8], [8]), ([4, 9], [4, 9]), ([10], [10])])
def cover_Meet.B20 : List Nat := [0, 0, 3, 7, 15, 0, 0, 96, 224, 480, 1023, 2047]
theorem cover_Meet.tab20 : rtab .any (opsOf Try.f40 20) = cover_Meet.T20 := by kernel_rfl
theorem cover_Meet.bits20 : waitsOk cover_Meet.T20.2 cover_Meet.B20 = true := by kernel_rfl
def cover_Meet.T22 : Bool × List (List Nat × List Nat) := (true, [([], []), ([], []), ([0, 1], [0, 1]), ([2], [2]), ([3], [3]), ([], []), ([], []), ([5, 6], [5, 6]), ([7], [7]), ([8], [8]), ([4, 9], [4, 9]), ([10, 0, 1, 2, 3, 4, 5, 6, 7, 8, 9, 10], [10]), ([11, 0, 1, 2, 3, 4, 5, 6, 7, 8, 9, 10, 11], []), ([12, 0, 1, 2, 3, 4, 5, 6, 7, 8, 9, 10, 11, 12], [])])
def cover_Meet.B22 : List Nat := [0, 0, 3, 7, 15, 0, 0, 96, 224, 480, 1023, 2047, 4095, 8191]
theorem cover_Meet.tab22 : rtab .any (opsOf Try.f40 22) = cover_Meet.T22 := by kernel_rfl
theorem cover_Meet.bits22 : waitsOk cover_Meet.T22.2 cover_Meet.B22 = true := by kernel_rfl
set_option maxHeartbeats 8000000 in
set_option maxRecDepth 100000 in
theorem cover_Meet.calls (k : Nat) (A0 : Option Addr) (c0 : Nat) (l0 : List (S48)) (r1 : Int) (r2 : Int) (r3 : List Int) (r4 : Int) (w : World) (hr0 : Kd.C k48 w A0 l0.length l0) (hc0 : l0.length ≤ c0) (h : cover_Meet.f k l0 = some (r1, r2, r3, r4)) :
  Calls Try.prog 40 #[.slice A0 l0.length c0] w fun e w' => ∃ v2_ : Value, e = .returned (.tuple #[.agg #[.int .i64 r1, .int .i64 r2], v2_, .int .i64 r4]) ∧ Kd.R (Kd.int .i64) 3 w' w.heap.size (fun _ => True) v2_ r3 ∧ Below w.heap.size w w' := by
 have hu28 := Try.underlying28
 have hu48 := Try.underlying48
 have HR0 := Aside0.mk hr0
 have HC0 := Aside0.mk hc0
 clear hr0 hc0
 have HB := Aside0.mk (Below.refl w.heap.size w)
 have H : ((cover_areRects.f l0 32).bind fun t655 => (if t655 = true then (if (l0.length : Int) = 0 then (some (0, 0, ([] : List Int), 0)) else (cover_Meet.l0 k l0 0 0 0 0 l0 (l0.length : Int) 0)) else (some (0, 0, ([] : List Int), 2)))) = some (r1, r2, r3, r4) := h
 clear h
 replace H := Option.bind_eq_some_iff.mp H
 obtain ⟨t655, A20, H⟩ := H
 replace H : (if t655 = true then (if (l0.length : Int) = 0 then (some (0, 0, ([] : List Int), 0)) else (cover_Meet.l0 k l0 0 0 0 0 l0 (l0.length : Int) 0)) else (some (0, 0, ([] : List Int), 2))) = some (r1, r2, r3, r4) := H
 have A2 := Aside0.mk A20
 clear A20
 by_cases c3 : t655 = true
 ·subst c3
  have H1 : (if (l0.length : Int) = 0 then (some (0, 0, ([] : List Int), 0)) else (cover_Meet.l0 k l0 0 0 0 0 l0 (l0.length : Int) 0)) = some (r1, r2, r3, r4) := by rw [if_pos rfl] at H; exact H
  clear H
  have H := H1
  clear H1
  by_cases c4 : (l0.length : Int) = 0
  ·rw [if_pos c4] at H
   have c4b0 : ((l0.length : Int) == 0) = true := beq_iff_eq.mpr c4
   have c4b1 : ((l0.length : Int) != 0) = false := bne_eq_false_iff_eq.mpr c4
   clear c4
   simp only [Option.some.injEq, Prod.mk.injEq] at H
   obtain ⟨rfl, rfl, rfl, rfl⟩ := H
   go_enter Try.func40, Try.ntmps40
   go_wp2_with (first | ((with_reducible refine gate_dst (N := 2) rfl ?_); refine bxE 2 #[.int .i64 0, .int .i64 0] 28 ?_; intro gb654 hg w5 hbox hb; have n0_ := Aside0.mk (below_step HBz hb); have n1_ := Aside0.mk (hbox); have n2_ := Aside0.mk ((by rw [hg]; exact (below_size HBz) : w.heap.size ≤ gb654)); have n3_ := Aside0.mk ((by rw [hg]; exact (below_size HBz) : w.heap.size ≤ gb654)); clear HB; have HB := n0_; have BK654 := n1_; have GW654 := n2_; have GE654 := n3_; clear n0_ n1_ n2_ n3_; clear hb hbox hg) | ((with_reducible refine gate_callee (f := 46) rfl ?_); refine goesL_ (some 12) rfl rfl Try.func46 (by kernel_rfl) rfl #[.slice A0 l0.length c0, .int .i64 32] rfl (by (try simp only [List.map_toArray, List.map_cons, List.map_nil]); first | done | rfl | (simp only [List.length_drop, List.length_take]; rfl)) ?_; (with_reducible refine (cover_areRects.calls _ _ l0 32 true _ ?side1 ?side2 A2.out).mono ?_); (case side1 => repeat (first | exact (Kd.C_below HR0.out HB.out) | (with_reducible refine Kd.C_alloc ?_ _) | (with_reducible refine Kd.C_drewN ?_ _) | (with_reducible refine Kd.C_drew ?_))); (case side2 => exact HC0.out); rintro e w6 ⟨rfl, hb⟩; refine ⟨_, rfl, ?_⟩; have n0_ := Aside0.mk (blk_below (g := gb654) BKz hb); have n1_ := Aside0.mk (below_step HBz hb); clear BK654; clear HB; have BK654 := n0_; have HB := n1_; clear n0_ n1_; (try clear hb); (try clear hb2); (try clear hk); (try clear hi); have hcz7_0 : w6.cell? ⟨gb654, 0, none⟩ = some (.int .i64 0) := (blk_cell BK654.out 0).trans rfl; have hcz7_1 : w6.cell? ⟨gb654, 1, none⟩ = some (.int .i64 0) := (blk_cell BK654.out 1).trans rfl; have hfz7_0 := blk_frozen BK654.out 0; have hfz7_1 := blk_frozen BK654.out 1))
   refine bodyPost_ret (results_ctt rfl _ _ gb654 28 #[.int .i64 0, .int .i64 0] (0, 0) _ rfl (by (with_reducible repeat (first | refine blk_drewN ?_ _ | refine blk_drew ?_ | refine blk_alloc ?_ _)); refine blk_put (cs := #[.int .i64 0, .int .i64 0]) ?_ 1 _ rfl; (with_reducible repeat (first | refine blk_drewN ?_ _ | refine blk_drew ?_ | refine blk_alloc ?_ _)); refine blk_put (cs := #[.int .i64 0, .int .i64 0]) ?_ 0 _ rfl; (with_reducible repeat (first | refine blk_drewN ?_ _ | refine blk_drew ?_ | refine blk_alloc ?_ _)); exact BK654.out) Try.underlying28 rfl (by kernel_rfl)) rfl ?_
   exact ⟨_, by first | rfl | (simp [errW_none, errW_some] <;> rfl) | (simp [*, errW_none, errW_some] <;> rfl), by first | exact Kd.R_nil _ _ _ _ _ | exact Kd.N_nil _ _ _ _ _ | exact Kd.V_nil _ _ _ _ _ | exact Kd.Q_nil _ _ _ _ _ | exact Kd.S_nil _ _ _ _ _, HBz⟩
  ·rw [if_neg c4] at H
   have c4b0 : ((l0.length : Int) == 0) = false := beq_eq_false_iff_ne.mpr c4
   have c4b1 : ((l0.length : Int) != 0) = true := bne_iff_ne.mpr c4
   have c4b2 : ¬ (l0 = []) := fun h_ => c4 (by rw [h_]; rfl)
   have H' := Aside0.mk H
   clear H
   go_enter Try.func40, Try.ntmps40
   go_wp2_with (first | ((with_reducible refine gate_dst (N := 2) rfl ?_); refine bxE 2 #[.int .i64 0, .int .i64 0] 28 ?_; intro gb654 hg w8 hbox hb; have n0_ := Aside0.mk (below_step HBz hb); have n1_ := Aside0.mk (hbox); have n2_ := Aside0.mk ((by rw [hg]; exact (below_size HBz) : w.heap.size ≤ gb654)); have n3_ := Aside0.mk ((by rw [hg]; exact (below_size HBz) : w.heap.size ≤ gb654)); clear HB; have HB := n0_; have BK654 := n1_; have GW654 := n2_; have GE654 := n3_; clear n0_ n1_ n2_ n3_; clear hb hbox hg) | ((with_reducible refine gate_callee (f := 46) rfl ?_); refine goesL_ (some 12) rfl rfl Try.func46 (by kernel_rfl) rfl #[.slice A0 l0.length c0, .int .i64 32] rfl (by (try simp only [List.map_toArray, List.map_cons, List.map_nil]); first | done | rfl | (simp only [List.length_drop, List.length_take]; rfl)) ?_; (with_reducible refine (cover_areRects.calls _ _ l0 32 true _ ?side1 ?side2 A2.out).mono ?_); (case side1 => repeat (first | exact (Kd.C_below HR0.out HB.out) | (with_reducible refine Kd.C_alloc ?_ _) | (with_reducible refine Kd.C_drewN ?_ _) | (with_reducible refine Kd.C_drew ?_))); (case side2 => exact HC0.out); rintro e w9 ⟨rfl, hb⟩; refine ⟨_, rfl, ?_⟩; have n0_ := Aside0.mk (blk_below (g := gb654) BKz hb); have n1_ := Aside0.mk (below_step HBz hb); clear BK654; clear HB; have BK654 := n0_; have HB := n1_; clear n0_ n1_; (try clear hb); (try clear hb2); (try clear hk); (try clear hi)))
   go_loopg [5, 6, 7, 8, 21] k (fun kq v5 v6 v7 v8 v21 w' => ∃ (x5_1 : Int) (x6_1 : Int) (x7_1 : Int) (x8_1 : Int) (x21_1 : Int), v5 = .int .i64 x5_1 ∧ v6 = .int .i64 x6_1 ∧ v7 = .int .i64 x7_1 ∧ v8 = .int .i64 x8_1 ∧ v21 = .int .i64 x21_1 ∧ Aside0 (cover_Meet.l0 kq l0 x5_1 x6_1 x7_1 x8_1 l0 (l0.length : Int) x21_1 = some (r1, r2, r3, r4)) ∧ Aside0 (kq ≤ k) ∧ Aside0 (w'.heap[gb654]? = some (.cells #[.int .i64 0, .int .i64 0] 28 (0, 0))) ∧ Aside0 (Below w.heap.size w w'))
   case atStart => exact ⟨(0), (0), (0), (0), (0), (by first | rfl | (simp; done) | (simp [*]; done)), (by first | rfl | (simp; done) | (simp [*]; done)), (by first | rfl | (simp; done) | (simp [*]; done)), (by first | rfl | (simp; done) | (simp [*]; done)), (by first | rfl | (simp; done) | (simp [*]; done)), H', ⟨Nat.le_refl _⟩, ⟨by (with_reducible repeat (first | refine blk_drewN ?_ _ | refine blk_drew ?_ | refine blk_alloc ?_ _)); exact BK654.out⟩, ⟨HBz⟩⟩
   case round =>
    clear H'
    try clear p2
    try clear c3
    try clear c4
    try clear c4b0
    try clear c4b1
    try clear c4b2
    try clear hcz7_0
    try clear hcz7_1
    try clear hfz7_0
    try clear hfz7_1
    obtain ⟨x5_1, x6_1, x7_1, x8_1, x21_1, rfl, rfl, rfl, rfl, rfl, HA, HK1, BK654, HB⟩ := hrel
    cases gk with
    | zero => exact absurd HA.out (by simp [cover_Meet.l0])
    | succ k1 =>
     have H := HA.out
     clear HA
     simp only [cover_Meet.l0] at H
     by_cases c10 : x21_1 < (l0.length : Int)
     ·rw [if_pos c10] at H
      have c10b0 : decide (x21_1 < (l0.length : Int)) = true := decide_eq_true c10
      clear c10
      by_cases c11 : 0 ≤ x21_1
      ·rw [if_pos c11] at H
       have c11b0 : decide (0 ≤ x21_1) = true := decide_eq_true c11
       clear c11
       by_cases c12 : x21_1 < (l0.length : Int)
       ·rw [if_pos c12] at H
        have c12b0 : decide (x21_1 < (l0.length : Int)) = true := decide_eq_true c12
        clear c12
        by_cases c13 : 0 ≤ x5_1
        ·rw [if_pos c13] at H
         have c13b0 : decide (0 ≤ x5_1) = true := decide_eq_true c13
         clear c13
         by_cases c14 : x5_1 < (l0.length : Int)
         ·rw [if_pos c14] at H
          have c14b0 : decide (x5_1 < (l0.length : Int)) = true := decide_eq_true c14
          clear c14
          have HC15 := Aside0.mk H
          clear H
          have p656 : 0 ≤ (x21_1 : Int) := of_decide_eq_true (by first | (with_reducible assumption) | assumption)
          have q656 : x21_1 < (l0.length : Int) := of_decide_eq_true (by first | (with_reducible assumption) | assumption)
          obtain ⟨ad656, e656, hx656_0, hx656_1, hx656_2, hx656_3⟩ := at_T48 HR0.out x21_1 p656 q656
          cases e656
          replace hx656_0 := (HB.out.cell (World.block_lt_of_cell? w _ hx656_0)).trans hx656_0
          replace hx656_1 := (HB.out.cell (World.block_lt_of_cell? w _ hx656_1)).trans hx656_1
          replace hx656_2 := (HB.out.cell (World.block_lt_of_cell? w _ hx656_2)).trans hx656_2
          replace hx656_3 := (HB.out.cell (World.block_lt_of_cell? w _ hx656_3)).trans hx656_3
          replace p656 := eq_true p656
          replace q656 := eq_true q656
          try go_wp2_with (first | ((with_reducible refine gate_dst (N := 10) rfl ?_); refine bxE 10 #[.int .i64 0, .int .i64 0, .int .i64 0, .int .i64 0] 48 ?_; intro gb657 hg w16 hbox hb; have n0_ := Aside0.mk (blk_below (g := gb654) BKz hb); have n1_ := Aside0.mk (below_step HBz hb); have n2_ := Aside0.mk (hbox); have n3_ := Aside0.mk ((by rw [hg]; exact (below_size HBz) : w.heap.size ≤ gb657)); have n4_ := Aside0.mk ((by rw [hg]; exact (below_size HBz) : w.heap.size ≤ gb657)); have n5_ := Aside0.mk ((by rw [hg]; exact Nat.ne_of_lt (blk_lt (g := gb654) BKz) : gb654 ≠ gb657)); have n6_ := Aside0.mk ((by rw [hg]; exact Nat.ne_of_gt (blk_lt (g := gb654) BKz) : gb657 ≠ gb654)); clear BK654; clear HB; have BK654 := n0_; have HB := n1_; have BK657 := n2_; have GW657 := n3_; have GE657 := n4_; have NB654_657 := n5_; have NB657_654 := n6_; clear n0_ n1_ n2_ n3_ n4_ n5_ n6_; clear hb hbox hg; have hnb17 := NB657_654.out; have hnc17 := NB654_657.out; have hcz18_0 : w16.cell? ⟨gb657, 0, none⟩ = some (.int .i64 0) := (blk_cell BK657.out 0).trans rfl; have hcz18_1 : w16.cell? ⟨gb657, 1, none⟩ = some (.int .i64 0) := (blk_cell BK657.out 1).trans rfl; have hcz18_2 : w16.cell? ⟨gb657, 2, none⟩ = some (.int .i64 0) := (blk_cell BK657.out 2).trans rfl; have hcz18_3 : w16.cell? ⟨gb657, 3, none⟩ = some (.int .i64 0) := (blk_cell BK657.out 3).trans rfl; have hfz18_0 := blk_frozen BK657.out 0; have hfz18_1 := blk_frozen BK657.out 1; have hfz18_2 := blk_frozen BK657.out 2; have hfz18_3 := blk_frozen BK657.out 3))
          have n0_ : Aside0 (((((w16.setCell ⟨gb657, 0, none⟩ (.int .i64 ((rd_T48 l0 x21_1).f0))).setCell ⟨gb657, 1, none⟩ (.int .i64 ((rd_T48 l0 x21_1).f1))).setCell ⟨gb657, 2, none⟩ (.int .i64 ((rd_T48 l0 x21_1).f2))).setCell ⟨gb657, 3, none⟩ (.int .i64 ((rd_T48 l0 x21_1).f3))).heap[gb654]? = some (.cells #[.int .i64 0, .int .i64 0] 28 (0, 0))) := ⟨by (with_reducible repeat (first | refine blk_drewN ?_ _ | refine blk_drew ?_ | refine blk_alloc ?_ _)); refine blk_far ?_ NB654_657.out _; (with_reducible repeat (first | refine blk_drewN ?_ _ | refine blk_drew ?_ | refine blk_alloc ?_ _)); refine blk_far ?_ NB654_657.out _; (with_reducible repeat (first | refine blk_drewN ?_ _ | refine blk_drew ?_ | refine blk_alloc ?_ _)); refine blk_far ?_ NB654_657.out _; (with_reducible repeat (first | refine blk_drewN ?_ _ | refine blk_drew ?_ | refine blk_alloc ?_ _)); refine blk_far ?_ NB654_657.out _; (with_reducible repeat (first | refine blk_drewN ?_ _ | refine blk_drew ?_ | refine blk_alloc ?_ _)); exact BK654.out⟩
          have n1_ : Aside0 (((((w16.setCell ⟨gb657, 0, none⟩ (.int .i64 ((rd_T48 l0 x21_1).f0))).setCell ⟨gb657, 1, none⟩ (.int .i64 ((rd_T48 l0 x21_1).f1))).setCell ⟨gb657, 2, none⟩ (.int .i64 ((rd_T48 l0 x21_1).f2))).setCell ⟨gb657, 3, none⟩ (.int .i64 ((rd_T48 l0 x21_1).f3))).heap[gb657]? = some (.cells #[.int .i64 ((rd_T48 l0 x21_1).f0), .int .i64 ((rd_T48 l0 x21_1).f1), .int .i64 ((rd_T48 l0 x21_1).f2), .int .i64 ((rd_T48 l0 x21_1).f3)] 48 (0, 0))) := ⟨by (with_reducible repeat (first | refine blk_drewN ?_ _ | refine blk_drew ?_ | refine blk_alloc ?_ _)); refine blk_put (cs := #[.int .i64 ((rd_T48 l0 x21_1).f0), .int .i64 ((rd_T48 l0 x21_1).f1), .int .i64 ((rd_T48 l0 x21_1).f2), .int .i64 0]) ?_ 3 _ rfl; (with_reducible repeat (first | refine blk_drewN ?_ _ | refine blk_drew ?_ | refine blk_alloc ?_ _)); refine blk_put (cs := #[.int .i64 ((rd_T48 l0 x21_1).f0), .int .i64 ((rd_T48 l0 x21_1).f1), .int .i64 0, .int .i64 0]) ?_ 2 _ rfl; (with_reducible repeat (first | refine blk_drewN ?_ _ | refine blk_drew ?_ | refine blk_alloc ?_ _)); refine blk_put (cs := #[.int .i64 ((rd_T48 l0 x21_1).f0), .int .i64 0, .int .i64 0, .int .i64 0]) ?_ 1 _ rfl; (with_reducible repeat (first | refine blk_drewN ?_ _ | refine blk_drew ?_ | refine blk_alloc ?_ _)); refine blk_put (cs := #[.int .i64 0, .int .i64 0, .int .i64 0, .int .i64 0]) ?_ 0 _ rfl; (with_reducible repeat (first | refine blk_drewN ?_ _ | refine blk_drew ?_ | refine blk_alloc ?_ _)); exact BK657.out⟩
          have n2_ : Aside0 (Below w.heap.size w ((((w16.setCell ⟨gb657, 0, none⟩ (.int .i64 ((rd_T48 l0 x21_1).f0))).setCell ⟨gb657, 1, none⟩ (.int .i64 ((rd_T48 l0 x21_1).f1))).setCell ⟨gb657, 2, none⟩ (.int .i64 ((rd_T48 l0 x21_1).f2))).setCell ⟨gb657, 3, none⟩ (.int .i64 ((rd_T48 l0 x21_1).f3)))) := ⟨HBz⟩
          (try clear BK654)
          (try clear BK657)
          (try clear HB)
          generalize ((((w16.setCell ⟨gb657, 0, none⟩ (.int .i64 ((rd_T48 l0 x21_1).f0))).setCell ⟨gb657, 1, none⟩ (.int .i64 ((rd_T48 l0 x21_1).f1))).setCell ⟨gb657, 2, none⟩ (.int .i64 ((rd_T48 l0 x21_1).f2))).setCell ⟨gb657, 3, none⟩ (.int .i64 ((rd_T48 l0 x21_1).f3))) = w19 at n0_ n1_ n2_ ⊢
          have BK654 := n0_
          have BK657 := n1_
          have HB := n2_
          clear n0_ n1_ n2_
          have n0_ := Aside0.mk (blk_drew BK654.out)
          have n1_ := Aside0.mk (blk_drew BK657.out)
          have n2_ := Aside0.mk (below_drew1 HB.out)
          clear BK654
          clear BK657
          clear HB
          have BK654 := n0_
          have BK657 := n1_
          have HB := n2_
          clear n0_ n1_ n2_
          have p658 : 0 ≤ (x5_1 : Int) := of_decide_eq_true (by first | (with_reducible assumption) | assumption)
          have q658 : x5_1 < (l0.length : Int) := of_decide_eq_true (by first | (with_reducible assumption) | assumption)
          obtain ⟨ad658, e658, hx658_0, hx658_1, hx658_2, hx658_3⟩ := at_T48 HR0.out x5_1 p658 q658
          have hw658_3 := hx658_3
          have hw658_2 := hx658_2
          have hw658_1 := hx658_1
          have hw658_0 := hx658_0
          obtain rfl : ad656 = ad658 := (by injection e658)
          replace hx658_0 := (HB.out.cell (World.block_lt_of_cell? w _ hx658_0)).trans hx658_0
          replace hx658_1 := (HB.out.cell (World.block_lt_of_cell? w _ hx658_1)).trans hx658_1
          replace hx658_2 := (HB.out.cell (World.block_lt_of_cell? w _ hx658_2)).trans hx658_2
          replace hx658_3 := (HB.out.cell (World.block_lt_of_cell? w _ hx658_3)).trans hx658_3
          replace p658 := eq_true p658
          replace q658 := eq_true q658
          refine stz (fun w' => w'.cell? ⟨gb657, 0, none⟩ = some (.int .i64 ((rd_T48 l0 x21_1).f0)) ∧ w'.cell? ⟨gb657, 1, none⟩ = some (.int .i64 ((rd_T48 l0 x21_1).f1)) ∧ w'.cell? ⟨gb657, 2, none⟩ = some (.int .i64 ((rd_T48 l0 x21_1).f2)) ∧ w'.cell? ⟨gb657, 3, none⟩ = some (.int .i64 ((rd_T48 l0 x21_1).f3)) ∧ w'.cell? (ad656.add ((x5_1).toNat * 4)) = some (.int .i64 ((rd_T48 l0 x5_1).f0)) ∧ w'.cell? ⟨(ad656.add ((x5_1).toNat * 4)).block, (ad656.add ((x5_1).toNat * 4)).off + 1, none⟩ = some (.int .i64 ((rd_T48 l0 x5_1).f1)) ∧ w'.cell? ⟨(ad656.add ((x5_1).toNat * 4)).block, (ad656.add ((x5_1).toNat * 4)).off + 2, none⟩ = some (.int .i64 ((rd_T48 l0 x5_1).f2)) ∧ w'.cell? ⟨(ad656.add ((x5_1).toNat * 4)).block, (ad656.add ((x5_1).toNat * 4)).off + 3, none⟩ = some (.int .i64 ((rd_T48 l0 x5_1).f3))) [] (bn 8 0) ⟨(blk_cell BK657.out 0).trans rfl, (blk_cell BK657.out 1).trans rfl, (blk_cell BK657.out 2).trans rfl, (blk_cell BK657.out 3).trans rfl, ((HB.out.cell (World.block_lt_of_cell? w _ hw658_0)).trans hw658_0), ((HB.out.cell (World.block_lt_of_cell? w _ hw658_1)).trans hw658_1), ((HB.out.cell (World.block_lt_of_cell? w _ hw658_2)).trans hw658_2), ((HB.out.cell (World.block_lt_of_cell? w _ hw658_3)).trans hw658_3)⟩ (fun hHeld => ?_); refine with_tabW cover_Meet.tab9 cover_Meet.bits9 (fun HT_ HW_ => ?_)
          generalize w19.drew = w20 at BK654 BK657 HB hx658_0 hx658_1 hx658_2 hx658_3 hHeld ⊢
          refine pT HT_.out 0 (some 26) (bn 8 1) ?_
          refine pT HT_.out 2 (some 28) (bn 8 5) ?_
          refine pT HT_.out 3 (some 29) (bn 8 13) ?_
          refine pT HT_.out 4 (some 30) (bn 8 29) ?_
          refine pT HT_.out 5 (some 31) (bn 8 61) ?_
          refine tT HT_.out HW_.out 1 (some 27) (bn 8 63) hHeld ?_
          refine tT HT_.out HW_.out 6 (some 32) (bn 8 127) hHeld ?_
          refine pT HT_.out 7 (some 33) (bn 8 255) ?_
          refine done_ (done_of HT_.out (by kernel_rfl)) ?_
          go_upto_if 33 with (fail)
          go_cut [5] (fun v5 wc => ∃ (kq : Nat) (x5_14 : Int), v5 = .int .i64 x5_14 ∧ Aside0 (cover_Meet.j1 kq l0 x5_14 x6_1 x7_1 x8_1 x21_1 l0 (l0.length : Int) x21_1 ((rd_T48 l0 x21_1).f0) ((rd_T48 l0 x21_1).f1) ((rd_T48 l0 x21_1).f2) ((rd_T48 l0 x21_1).f3) = some (r1, r2, r3, r4)) ∧ Aside0 (kq ≤ k1) ∧ Aside0 (wc.heap[gb654]? = some (.cells #[.int .i64 0, .int .i64 0] 28 (0, 0))) ∧ Aside0 (wc.heap[gb657]? = some (.cells #[.int .i64 ((rd_T48 l0 x21_1).f0), .int .i64 ((rd_T48 l0 x21_1).f1), .int .i64 ((rd_T48 l0 x21_1).f2), .int .i64 ((rd_T48 l0 x21_1).f3)] 48 (0, 0))) ∧ Aside0 (Below w.heap.size w wc))
          case first =>
           have H := HC15.out
           clear HC15
           by_cases c21 : ((rd_T48 l0 x21_1).f0) > ((rd_T48 l0 x5_1).f0)
           ·rw [if_pos c21] at H
            have c21b0 : decide (((rd_T48 l0 x5_1).f0) < ((rd_T48 l0 x21_1).f0)) = true := decide_eq_true c21
            clear c21
            (first | rw [c21b0] | (simp only [i64_w, i32_w]; rw [c21b0]) | skip)
            have H' := Aside0.mk H
            clear H
            go_wp2
            go_meet
            case rel => exact ⟨_, (x21_1), (by first | rfl | (simp; done) | (simp [*]; done)), H', ⟨by have := HK1.out; first | omega | exact Nat.le_refl _⟩, ⟨by (with_reducible repeat (first | refine blk_drewN ?_ _ | refine blk_drew ?_ | refine blk_alloc ?_ _)); exact BK654.out⟩, ⟨by (with_reducible repeat (first | refine blk_drewN ?_ _ | refine blk_drew ?_ | refine blk_alloc ?_ _)); exact BK657.out⟩, ⟨HBz⟩⟩
           ·rw [if_neg c21] at H
            have c21b0 : decide (((rd_T48 l0 x5_1).f0) < ((rd_T48 l0 x21_1).f0)) = false := decide_eq_false c21
            clear c21
            (first | rw [c21b0] | (simp only [i64_w, i32_w]; rw [c21b0]) | skip)
            have H' := Aside0.mk H
            clear H
            go_wp2
            go_meet
            case rel => exact ⟨_, (x5_1), (by first | rfl | (simp; done) | (simp [*]; done)), H', ⟨by have := HK1.out; first | omega | exact Nat.le_refl _⟩, ⟨by (with_reducible repeat (first | refine blk_drewN ?_ _ | refine blk_drew ?_ | refine blk_alloc ?_ _)); exact BK654.out⟩, ⟨by (with_reducible repeat (first | refine blk_drewN ?_ _ | refine blk_drew ?_ | refine blk_alloc ?_ _)); exact BK657.out⟩, ⟨HBz⟩⟩
          case rest =>
           clear HC15
           try clear c1
           try clear c2
           try clear p2
           try clear c3
           try clear c4
           try clear c4b0
           try clear c4b1
           try clear c4b2
           try clear p6
           try clear q6
           try clear hx6
           try clear c10
           try clear c10b0
           try clear c11
           try clear c11b0
           try clear c12
           try clear c12b0
           try clear c13
           try clear c13b0
           try clear c14
           try clear c14b0
           try clear c17
           try clear c21
           try clear c21b0
           try clear hcz18_0
           try clear hcz18_1
           try clear hcz18_2
           try clear hcz18_3
           try clear hcz7_0
           try clear hcz7_1
           try clear hfz18_0
           try clear hfz18_1
           try clear hfz18_2
           try clear hfz18_3
           try clear hfz7_0
           try clear hfz7_1
           try clear hx656_0
           try clear hx656_1
           try clear hx656_2
           try clear hx656_3
           try clear hx658_0
           try clear hx658_1
           try clear hx658_2
           try clear hx658_3
           try clear p2
           try clear p656
           try clear p658
           try clear q656
           try clear q658
           obtain ⟨kq, x5_14, rfl, HA, HJ14, BK654, BK657, HB⟩ := hcut
           cases kq with
           | zero => exact absurd HA.out (by simp [cover_Meet.j1])
           | succ kj14 =>
            have H := HA.out
            clear HA
            simp only [cover_Meet.j1] at H
            by_cases c22 : 0 ≤ x6_1
            ·rw [if_pos c22] at H
             have c22b0 : decide (0 ≤ x6_1) = true := decide_eq_true c22
             clear c22
             by_cases c23 : x6_1 < (l0.length : Int)
             ·rw [if_pos c23] at H
              have c23b0 : decide (x6_1 < (l0.length : Int)) = true := decide_eq_true c23
              clear c23
              have HC24 := Aside0.mk H
              clear H
              try go_wp2
              have n0_ := Aside0.mk (blk_drew BK654.out)
              have n1_ := Aside0.mk (blk_drew BK657.out)
              have n2_ := Aside0.mk (below_drew1 HB.out)
              clear BK654
              clear BK657
              clear HB
              have BK654 := n0_
              have BK657 := n1_
              have HB := n2_
              clear n0_ n1_ n2_
              have p659 : 0 ≤ (x6_1 : Int) := of_decide_eq_true (by first | (with_reducible assumption) | assumption)
              have q659 : x6_1 < (l0.length : Int) := of_decide_eq_true (by first | (with_reducible assumption) | assumption)
              obtain ⟨ad659, e659, hx659_0, hx659_1, hx659_2, hx659_3⟩ := at_T48 HR0.out x6_1 p659 q659
              have hw659_3 := hx659_3
              have hw659_2 := hx659_2
              have hw659_1 := hx659_1
              have hw659_0 := hx659_0
              obtain rfl : ad656 = ad659 := (by injection e659)
              replace hx659_0 := (HB.out.cell (World.block_lt_of_cell? w _ hx659_0)).trans hx659_0
              replace hx659_1 := (HB.out.cell (World.block_lt_of_cell? w _ hx659_1)).trans hx659_1
              replace hx659_2 := (HB.out.cell (World.block_lt_of_cell? w _ hx659_2)).trans hx659_2
              replace hx659_3 := (HB.out.cell (World.block_lt_of_cell? w _ hx659_3)).trans hx659_3
              replace p659 := eq_true p659
              replace q659 := eq_true q659
              refine stz (fun w' => w'.cell? ⟨gb657, 0, none⟩ = some (.int .i64 ((rd_T48 l0 x21_1).f0)) ∧ w'.cell? ⟨gb657, 1, none⟩ = some (.int .i64 ((rd_T48 l0 x21_1).f1)) ∧ w'.cell? ⟨gb657, 2, none⟩ = some (.int .i64 ((rd_T48 l0 x21_1).f2)) ∧ w'.cell? ⟨gb657, 3, none⟩ = some (.int .i64 ((rd_T48 l0 x21_1).f3)) ∧ w'.cell? (ad656.add ((x6_1).toNat * 4)) = some (.int .i64 ((rd_T48 l0 x6_1).f0)) ∧ w'.cell? ⟨(ad656.add ((x6_1).toNat * 4)).block, (ad656.add ((x6_1).toNat * 4)).off + 1, none⟩ = some (.int .i64 ((rd_T48 l0 x6_1).f1)) ∧ w'.cell? ⟨(ad656.add ((x6_1).toNat * 4)).block, (ad656.add ((x6_1).toNat * 4)).off + 2, none⟩ = some (.int .i64 ((rd_T48 l0 x6_1).f2)) ∧ w'.cell? ⟨(ad656.add ((x6_1).toNat * 4)).block, (ad656.add ((x6_1).toNat * 4)).off + 3, none⟩ = some (.int .i64 ((rd_T48 l0 x6_1).f3))) [] (bn 8 0) ⟨(blk_cell BK657.out 0).trans rfl, (blk_cell BK657.out 1).trans rfl, (blk_cell BK657.out 2).trans rfl, (blk_cell BK657.out 3).trans rfl, ((HB.out.cell (World.block_lt_of_cell? w _ hw659_0)).trans hw659_0), ((HB.out.cell (World.block_lt_of_cell? w _ hw659_1)).trans hw659_1), ((HB.out.cell (World.block_lt_of_cell? w _ hw659_2)).trans hw659_2), ((HB.out.cell (World.block_lt_of_cell? w _ hw659_3)).trans hw659_3)⟩ (fun hHeld => ?_); refine with_tabW cover_Meet.tab11 cover_Meet.bits11 (fun HT_ HW_ => ?_)
              generalize wc.drew = w25 at BK654 BK657 HB hx659_0 hx659_1 hx659_2 hx659_3 hHeld ⊢
              refine pT HT_.out 0 (some 35) (bn 8 1) ?_
              refine pT HT_.out 2 (some 37) (bn 8 5) ?_
              refine pT HT_.out 3 (some 38) (bn 8 13) ?_
              refine pT HT_.out 4 (some 39) (bn 8 29) ?_
              refine pT HT_.out 5 (some 40) (bn 8 61) ?_
              refine tT HT_.out HW_.out 1 (some 36) (bn 8 63) hHeld ?_
              refine tT HT_.out HW_.out 6 (some 41) (bn 8 127) hHeld ?_
              refine pT HT_.out 7 (some 42) (bn 8 255) ?_
              refine done_ (done_of HT_.out (by kernel_rfl)) ?_
              go_upto_if 42 with (fail)
              go_cut [6] (fun v6 wc => ∃ (kq : Nat) (x6_23 : Int), v6 = .int .i64 x6_23 ∧ Aside0 (cover_Meet.j2 kq l0 x5_14 x6_23 x7_1 x8_1 x21_1 l0 (l0.length : Int) x21_1 ((rd_T48 l0 x21_1).f0) ((rd_T48 l0 x21_1).f1) ((rd_T48 l0 x21_1).f2) ((rd_T48 l0 x21_1).f3) = some (r1, r2, r3, r4)) ∧ Aside0 (kq ≤ kj14) ∧ Aside0 (wc.heap[gb654]? = some (.cells #[.int .i64 0, .int .i64 0] 28 (0, 0))) ∧ Aside0 (wc.heap[gb657]? = some (.cells #[.int .i64 ((rd_T48 l0 x21_1).f0), .int .i64 ((rd_T48 l0 x21_1).f1), .int .i64 ((rd_T48 l0 x21_1).f2), .int .i64 ((rd_T48 l0 x21_1).f3)] 48 (0, 0))) ∧ Aside0 (Below w.heap.size w wc))
              case first =>
               have H := HC24.out
               clear HC24
               by_cases c26 : ((rd_T48 l0 x21_1).f2) < ((rd_T48 l0 x6_1).f2)
               ·rw [if_pos c26] at H
                have c26b0 : decide (((rd_T48 l0 x21_1).f2) < ((rd_T48 l0 x6_1).f2)) = true := decide_eq_true c26
                clear c26
                (first | rw [c26b0] | (simp only [i64_w, i32_w]; rw [c26b0]) | skip)
                have H' := Aside0.mk H
                clear H
                go_wp2
                go_meet
                case rel => exact ⟨_, (x21_1), (by first | rfl | (simp; done) | (simp [*]; done)), H', ⟨by have := HK1.out; have := HJ14.out; first | omega | exact Nat.le_refl _⟩, ⟨by (with_reducible repeat (first | refine blk_drewN ?_ _ | refine blk_drew ?_ | refine blk_alloc ?_ _)); exact BK654.out⟩, ⟨by (with_reducible repeat (first | refine blk_drewN ?_ _ | refine blk_drew ?_ | refine blk_alloc ?_ _)); exact BK657.out⟩, ⟨HBz⟩⟩
               ·rw [if_neg c26] at H
                have c26b0 : decide (((rd_T48 l0 x21_1).f2) < ((rd_T48 l0 x6_1).f2)) = false := decide_eq_false c26
                clear c26
                (first | rw [c26b0] | (simp only [i64_w, i32_w]; rw [c26b0]) | skip)
                have H' := Aside0.mk H
                clear H
                go_wp2
                go_meet
                case rel => exact ⟨_, (x6_1), (by first | rfl | (simp; done) | (simp [*]; done)), H', ⟨by have := HK1.out; have := HJ14.out; first | omega | exact Nat.le_refl _⟩, ⟨by (with_reducible repeat (first | refine blk_drewN ?_ _ | refine blk_drew ?_ | refine blk_alloc ?_ _)); exact BK654.out⟩, ⟨by (with_reducible repeat (first | refine blk_drewN ?_ _ | refine blk_drew ?_ | refine blk_alloc ?_ _)); exact BK657.out⟩, ⟨HBz⟩⟩
              case rest =>
               clear HC24
               try clear c1
               try clear c2
               try clear p2
               try clear c3
               try clear c4
               try clear c4b0
               try clear c4b1
               try clear c4b2
               try clear p6
               try clear q6
               try clear hx6
               try clear c10
               try clear c10b0
               try clear c11
               try clear c11b0
               try clear c12
               try clear c12b0
               try clear c13
               try clear c13b0
               try clear c14
               try clear c14b0
               try clear c17
               try clear c21
               try clear c21b0
               try clear c22
               try clear c22b0
               try clear c23
               try clear c23b0
               try clear c26
               try clear c26b0
               try clear hcz18_0
               try clear hcz18_1
               try clear hcz18_2
               try clear hcz18_3
               try clear hcz7_0
               try clear hcz7_1
               try clear hfz18_0
               try clear hfz18_1
               try clear hfz18_2
               try clear hfz18_3
               try clear hfz7_0
               try clear hfz7_1
               try clear hx656_0
               try clear hx656_1
               try clear hx656_2
               try clear hx656_3
               try clear hx658_0
               try clear hx658_1
               try clear hx658_2
               try clear hx658_3
               try clear hx659_0
               try clear hx659_1
               try clear hx659_2
               try clear hx659_3
               try clear p2
               try clear p6
               try clear p656
               try clear p658
               try clear p659
               try clear q6
               try clear q656
               try clear q658
               try clear q659
               obtain ⟨kq, x6_23, rfl, HA, HJ23, BK654, BK657, HB⟩ := hcut
               cases kq with
               | zero => exact absurd HA.out (by simp [cover_Meet.j2])
               | succ kj23 =>
                have H := HA.out
                clear HA
                simp only [cover_Meet.j2] at H
                by_cases c27 : 0 ≤ x7_1
                ·rw [if_pos c27] at H
                 have c27b0 : decide (0 ≤ x7_1) = true := decide_eq_true c27
                 clear c27
                 by_cases c28 : x7_1 < (l0.length : Int)
                 ·rw [if_pos c28] at H
                  have c28b0 : decide (x7_1 < (l0.length : Int)) = true := decide_eq_true c28
                  clear c28
                  by_cases c29 : ((rd_T48 l0 x21_1).f1) > ((rd_T48 l0 x7_1).f1)
                  ·rw [if_pos c29] at H
                   have c29b0 : decide (((rd_T48 l0 x7_1).f1) < ((rd_T48 l0 x21_1).f1)) = true := decide_eq_true c29
                   clear c29
                   by_cases c30 : 0 ≤ x8_1
                   ·rw [if_pos c30] at H
                    have c30b0 : decide (0 ≤ x8_1) = true := decide_eq_true c30
                    clear c30
                    by_cases c31 : x8_1 < (l0.length : Int)
                    ·rw [if_pos c31] at H
                     have c31b0 : decide (x8_1 < (l0.length : Int)) = true := decide_eq_true c31
                     clear c31
                     by_cases c32 : ((rd_T48 l0 x21_1).f3) < ((rd_T48 l0 x8_1).f3)
                     ·rw [if_pos c32] at H
                      have c32b0 : decide (((rd_T48 l0 x21_1).f3) < ((rd_T48 l0 x8_1).f3)) = true := decide_eq_true c32
                      clear c32
                      have H' := Aside0.mk H
                      clear H
                      try go_wp2
                      have n0_ := Aside0.mk (blk_drew BK654.out)
                      have n1_ := Aside0.mk (blk_drew BK657.out)
                      have n2_ := Aside0.mk (below_drew1 HB.out)
                      clear BK654
                      clear BK657
                      clear HB
                      have BK654 := n0_
                      have BK657 := n1_
                      have HB := n2_
                      clear n0_ n1_ n2_
                      have p660 : 0 ≤ (x7_1 : Int) := of_decide_eq_true (by first | (with_reducible assumption) | assumption)
                      have q660 : x7_1 < (l0.length : Int) := of_decide_eq_true (by first | (with_reducible assumption) | assumption)
                      obtain ⟨ad660, e660, hx660_0, hx660_1, hx660_2, hx660_3⟩ := at_T48 HR0.out x7_1 p660 q660
                      have hw660_3 := hx660_3
                      have hw660_2 := hx660_2
                      have hw660_1 := hx660_1
                      have hw660_0 := hx660_0
                      obtain rfl : ad656 = ad660 := (by injection e660)
                      replace hx660_0 := (HB.out.cell (World.block_lt_of_cell? w _ hx660_0)).trans hx660_0
                      replace hx660_1 := (HB.out.cell (World.block_lt_of_cell? w _ hx660_1)).trans hx660_1
                      replace hx660_2 := (HB.out.cell (World.block_lt_of_cell? w _ hx660_2)).trans hx660_2
                      replace hx660_3 := (HB.out.cell (World.block_lt_of_cell? w _ hx660_3)).trans hx660_3
                      replace p660 := eq_true p660
                      replace q660 := eq_true q660
                      refine stz (fun w' => w'.cell? ⟨gb657, 0, none⟩ = some (.int .i64 ((rd_T48 l0 x21_1).f0)) ∧ w'.cell? ⟨gb657, 1, none⟩ = some (.int .i64 ((rd_T48 l0 x21_1).f1)) ∧ w'.cell? ⟨gb657, 2, none⟩ = some (.int .i64 ((rd_T48 l0 x21_1).f2)) ∧ w'.cell? ⟨gb657, 3, none⟩ = some (.int .i64 ((rd_T48 l0 x21_1).f3)) ∧ w'.cell? (ad656.add ((x7_1).toNat * 4)) = some (.int .i64 ((rd_T48 l0 x7_1).f0)) ∧ w'.cell? ⟨(ad656.add ((x7_1).toNat * 4)).block, (ad656.add ((x7_1).toNat * 4)).off + 1, none⟩ = some (.int .i64 ((rd_T48 l0 x7_1).f1)) ∧ w'.cell? ⟨(ad656.add ((x7_1).toNat * 4)).block, (ad656.add ((x7_1).toNat * 4)).off + 2, none⟩ = some (.int .i64 ((rd_T48 l0 x7_1).f2)) ∧ w'.cell? ⟨(ad656.add ((x7_1).toNat * 4)).block, (ad656.add ((x7_1).toNat * 4)).off + 3, none⟩ = some (.int .i64 ((rd_T48 l0 x7_1).f3))) [] (bn 8 0) ⟨(blk_cell BK657.out 0).trans rfl, (blk_cell BK657.out 1).trans rfl, (blk_cell BK657.out 2).trans rfl, (blk_cell BK657.out 3).trans rfl, ((HB.out.cell (World.block_lt_of_cell? w _ hw660_0)).trans hw660_0), ((HB.out.cell (World.block_lt_of_cell? w _ hw660_1)).trans hw660_1), ((HB.out.cell (World.block_lt_of_cell? w _ hw660_2)).trans hw660_2), ((HB.out.cell (World.block_lt_of_cell? w _ hw660_3)).trans hw660_3)⟩ (fun hHeld => ?_); refine with_tabW cover_Meet.tab13 cover_Meet.bits13 (fun HT_ HW_ => ?_)
                      generalize wc.drew = w33 at BK654 BK657 HB hx660_0 hx660_1 hx660_2 hx660_3 hHeld ⊢
                      refine pT HT_.out 0 (some 44) (bn 8 1) ?_
                      refine pT HT_.out 2 (some 46) (bn 8 5) ?_
                      refine pT HT_.out 3 (some 47) (bn 8 13) ?_
                      refine pT HT_.out 4 (some 48) (bn 8 29) ?_
                      refine pT HT_.out 5 (some 49) (bn 8 61) ?_
                      refine tT HT_.out HW_.out 1 (some 45) (bn 8 63) hHeld ?_
                      refine tT HT_.out HW_.out 6 (some 50) (bn 8 127) hHeld ?_
                      refine pT HT_.out 7 (some 51) (bn 8 255) ?_
                      refine done_ (done_of HT_.out (by kernel_rfl)) ?_
                      try go_wp2
                      have n0_ := Aside0.mk (blk_drew BK654.out)
                      have n1_ := Aside0.mk (blk_drew BK657.out)
                      have n2_ := Aside0.mk (below_drew1 HB.out)
                      clear BK654
                      clear BK657
                      clear HB
                      have BK654 := n0_
                      have BK657 := n1_
                      have HB := n2_
                      clear n0_ n1_ n2_
                      have p661 : 0 ≤ (x8_1 : Int) := of_decide_eq_true (by first | (with_reducible assumption) | assumption)
                      have q661 : x8_1 < (l0.length : Int) := of_decide_eq_true (by first | (with_reducible assumption) | assumption)
                      obtain ⟨ad661, e661, hx661_0, hx661_1, hx661_2, hx661_3⟩ := at_T48 HR0.out x8_1 p661 q661
                      have hw661_3 := hx661_3
                      have hw661_2 := hx661_2
                      have hw661_1 := hx661_1
                      have hw661_0 := hx661_0
                      obtain rfl : ad656 = ad661 := (by injection e661)
                      replace hx661_0 := (HB.out.cell (World.block_lt_of_cell? w _ hx661_0)).trans hx661_0
                      replace hx661_1 := (HB.out.cell (World.block_lt_of_cell? w _ hx661_1)).trans hx661_1
                      replace hx661_2 := (HB.out.cell (World.block_lt_of_cell? w _ hx661_2)).trans hx661_2
                      replace hx661_3 := (HB.out.cell (World.block_lt_of_cell? w _ hx661_3)).trans hx661_3
                      replace p661 := eq_true p661
                      replace q661 := eq_true q661
                      refine stz (fun w' => w'.cell? ⟨gb657, 0, none⟩ = some (.int .i64 ((rd_T48 l0 x21_1).f0)) ∧ w'.cell? ⟨gb657, 1, none⟩ = some (.int .i64 ((rd_T48 l0 x21_1).f1)) ∧ w'.cell? ⟨gb657, 2, none⟩ = some (.int .i64 ((rd_T48 l0 x21_1).f2)) ∧ w'.cell? ⟨gb657, 3, none⟩ = some (.int .i64 ((rd_T48 l0 x21_1).f3)) ∧ w'.cell? (ad656.add ((x8_1).toNat * 4)) = some (.int .i64 ((rd_T48 l0 x8_1).f0)) ∧ w'.cell? ⟨(ad656.add ((x8_1).toNat * 4)).block, (ad656.add ((x8_1).toNat * 4)).off + 1, none⟩ = some (.int .i64 ((rd_T48 l0 x8_1).f1)) ∧ w'.cell? ⟨(ad656.add ((x8_1).toNat * 4)).block, (ad656.add ((x8_1).toNat * 4)).off + 2, none⟩ = some (.int .i64 ((rd_T48 l0 x8_1).f2)) ∧ w'.cell? ⟨(ad656.add ((x8_1).toNat * 4)).block, (ad656.add ((x8_1).toNat * 4)).off + 3, none⟩ = some (.int .i64 ((rd_T48 l0 x8_1).f3))) [] (bn 8 0) ⟨(blk_cell BK657.out 0).trans rfl, (blk_cell BK657.out 1).trans rfl, (blk_cell BK657.out 2).trans rfl, (blk_cell BK657.out 3).trans rfl, ((HB.out.cell (World.block_lt_of_cell? w _ hw661_0)).trans hw661_0), ((HB.out.cell (World.block_lt_of_cell? w _ hw661_1)).trans hw661_1), ((HB.out.cell (World.block_lt_of_cell? w _ hw661_2)).trans hw661_2), ((HB.out.cell (World.block_lt_of_cell? w _ hw661_3)).trans hw661_3)⟩ (fun hHeld => ?_); refine with_tabW cover_Meet.tab15 cover_Meet.bits15 (fun HT_ HW_ => ?_)
                      generalize w33.drew = w34 at BK654 BK657 HB hx661_0 hx661_1 hx661_2 hx661_3 hHeld ⊢
                      refine pT HT_.out 0 (some 53) (bn 8 1) ?_
                      refine pT HT_.out 2 (some 55) (bn 8 5) ?_
                      refine pT HT_.out 3 (some 56) (bn 8 13) ?_
                      refine pT HT_.out 4 (some 57) (bn 8 29) ?_
                      refine pT HT_.out 5 (some 58) (bn 8 61) ?_
                      refine tT HT_.out HW_.out 1 (some 54) (bn 8 63) hHeld ?_
                      refine tT HT_.out HW_.out 6 (some 59) (bn 8 127) hHeld ?_
                      refine pT HT_.out 7 (some 60) (bn 8 255) ?_
                      refine done_ (done_of HT_.out (by kernel_rfl)) ?_
                      try go_wp2
                      go_roundg kj23
                      case measure => have := HK1.out; have := HJ14.out; have := HJ23.out; omega
                      case rel => exact ⟨(x5_14), (x6_23), (x21_1), (x21_1), (wrap64 (x21_1 + 1)), (by first | rfl | (simp; done) | (simp [*]; done)), (by first | rfl | (simp; done) | (simp [*]; done)), (by first | rfl | (simp; done) | (simp [*]; done)), (by first | rfl | (simp; done) | (simp [*]; done)), (by first | rfl | (simp; done) | (simp [*]; done)), H', ⟨by have := HK1.out; have := HJ14.out; have := HJ23.out; omega⟩, ⟨by (with_reducible repeat (first | refine blk_drewN ?_ _ | refine blk_drew ?_ | refine blk_alloc ?_ _)); exact BK654.out⟩, ⟨HBz⟩⟩
                     ·rw [if_neg c32] at H
                      have c32b0 : decide (((rd_T48 l0 x21_1).f3) < ((rd_T48 l0 x8_1).f3)) = false := decide_eq_false c32
                      clear c32
                      have H' := Aside0.mk H
                      clear H
                      try go_wp2
                      have n0_ := Aside0.mk (blk_drew BK654.out)
                      have n1_ := Aside0.mk (blk_drew BK657.out)
                      have n2_ := Aside0.mk (below_drew1 HB.out)
                      clear BK654
                      clear BK657
                      clear HB
                      have BK654 := n0_
                      have BK657 := n1_
                      have HB := n2_
                      clear n0_ n1_ n2_
                      have p660 : 0 ≤ (x7_1 : Int) := of_decide_eq_true (by first | (with_reducible assumption) | assumption)
                      have q660 : x7_1 < (l0.length : Int) := of_decide_eq_true (by first | (with_reducible assumption) | assumption)
                      obtain ⟨ad660, e660, hx660_0, hx660_1, hx660_2, hx660_3⟩ := at_T48 HR0.out x7_1 p660 q660
                      have hw660_3 := hx660_3
                      have hw660_2 := hx660_2
                      have hw660_1 := hx660_1
                      have hw660_0 := hx660_0
                      obtain rfl : ad656 = ad660 := (by injection e660)
                      replace hx660_0 := (HB.out.cell (World.block_lt_of_cell? w _ hx660_0)).trans hx660_0
                      replace hx660_1 := (HB.out.cell (World.block_lt_of_cell? w _ hx660_1)).trans hx660_1
                      replace hx660_2 := (HB.out.cell (World.block_lt_of_cell? w _ hx660_2)).trans hx660_2
                      replace hx660_3 := (HB.out.cell (World.block_lt_of_cell? w _ hx660_3)).trans hx660_3
                      replace p660 := eq_true p660
                      replace q660 := eq_true q660
                      refine stz (fun w' => w'.cell? ⟨gb657, 0, none⟩ = some (.int .i64 ((rd_T48 l0 x21_1).f0)) ∧ w'.cell? ⟨gb657, 1, none⟩ = some (.int .i64 ((rd_T48 l0 x21_1).f1)) ∧ w'.cell? ⟨gb657, 2, none⟩ = some (.int .i64 ((rd_T48 l0 x21_1).f2)) ∧ w'.cell? ⟨gb657, 3, none⟩ = some (.int .i64 ((rd_T48 l0 x21_1).f3)) ∧ w'.cell? (ad656.add ((x7_1).toNat * 4)) = some (.int .i64 ((rd_T48 l0 x7_1).f0)) ∧ w'.cell? ⟨(ad656.add ((x7_1).toNat * 4)).block, (ad656.add ((x7_1).toNat * 4)).off + 1, none⟩ = some (.int .i64 ((rd_T48 l0 x7_1).f1)) ∧ w'.cell? ⟨(ad656.add ((x7_1).toNat * 4)).block, (ad656.add ((x7_1).toNat * 4)).off + 2, none⟩ = some (.int .i64 ((rd_T48 l0 x7_1).f2)) ∧ w'.cell? ⟨(ad656.add ((x7_1).toNat * 4)).block, (ad656.add ((x7_1).toNat * 4)).off + 3, none⟩ = some (.int .i64 ((rd_T48 l0 x7_1).f3))) [] (bn 8 0) ⟨(blk_cell BK657.out 0).trans rfl, (blk_cell BK657.out 1).trans rfl, (blk_cell BK657.out 2).trans rfl, (blk_cell BK657.out 3).trans rfl, ((HB.out.cell (World.block_lt_of_cell? w _ hw660_0)).trans hw660_0), ((HB.out.cell (World.block_lt_of_cell? w _ hw660_1)).trans hw660_1), ((HB.out.cell (World.block_lt_of_cell? w _ hw660_2)).trans hw660_2), ((HB.out.cell (World.block_lt_of_cell? w _ hw660_3)).trans hw660_3)⟩ (fun hHeld => ?_); refine with_tabW cover_Meet.tab13 cover_Meet.bits13 (fun HT_ HW_ => ?_)
                      generalize wc.drew = w35 at BK654 BK657 HB hx660_0 hx660_1 hx660_2 hx660_3 hHeld ⊢
                      refine pT HT_.out 0 (some 44) (bn 8 1) ?_
                      refine pT HT_.out 2 (some 46) (bn 8 5) ?_
                      refine pT HT_.out 3 (some 47) (bn 8 13) ?_
                      refine pT HT_.out 4 (some 48) (bn 8 29) ?_
                      refine pT HT_.out 5 (some 49) (bn 8 61) ?_
                      refine tT HT_.out HW_.out 1 (some 45) (bn 8 63) hHeld ?_
                      refine tT HT_.out HW_.out 6 (some 50) (bn 8 127) hHeld ?_
                      refine pT HT_.out 7 (some 51) (bn 8 255) ?_
                      refine done_ (done_of HT_.out (by kernel_rfl)) ?_
                      try go_wp2
                      have n0_ := Aside0.mk (blk_drew BK654.out)
                      have n1_ := Aside0.mk (blk_drew BK657.out)
                      have n2_ := Aside0.mk (below_drew1 HB.out)
                      clear BK654
                      clear BK657
                      clear HB
                      have BK654 := n0_
                      have BK657 := n1_
                      have HB := n2_
                      clear n0_ n1_ n2_
                      have p661 : 0 ≤ (x8_1 : Int) := of_decide_eq_true (by first | (with_reducible assumption) | assumption)
                      have q661 : x8_1 < (l0.length : Int) := of_decide_eq_true (by first | (with_reducible assumption) | assumption)
                      obtain ⟨ad661, e661, hx661_0, hx661_1, hx661_2, hx661_3⟩ := at_T48 HR0.out x8_1 p661 q661
                      have hw661_3 := hx661_3
                      have hw661_2 := hx661_2
                      have hw661_1 := hx661_1
                      have hw661_0 := hx661_0
                      obtain rfl : ad656 = ad661 := (by injection e661)
                      replace hx661_0 := (HB.out.cell (World.block_lt_of_cell? w _ hx661_0)).trans hx661_0
                      replace hx661_1 := (HB.out.cell (World.block_lt_of_cell? w _ hx661_1)).trans hx661_1
                      replace hx661_2 := (HB.out.cell (World.block_lt_of_cell? w _ hx661_2)).trans hx661_2
                      replace hx661_3 := (HB.out.cell (World.block_lt_of_cell? w _ hx661_3)).trans hx661_3
                      replace p661 := eq_true p661
                      replace q661 := eq_true q661
                      refine stz (fun w' => w'.cell? ⟨gb657, 0, none⟩ = some (.int .i64 ((rd_T48 l0 x21_1).f0)) ∧ w'.cell? ⟨gb657, 1, none⟩ = some (.int .i64 ((rd_T48 l0 x21_1).f1)) ∧ w'.cell? ⟨gb657, 2, none⟩ = some (.int .i64 ((rd_T48 l0 x21_1).f2)) ∧ w'.cell? ⟨gb657, 3, none⟩ = some (.int .i64 ((rd_T48 l0 x21_1).f3)) ∧ w'.cell? (ad656.add ((x8_1).toNat * 4)) = some (.int .i64 ((rd_T48 l0 x8_1).f0)) ∧ w'.cell? ⟨(ad656.add ((x8_1).toNat * 4)).block, (ad656.add ((x8_1).toNat * 4)).off + 1, none⟩ = some (.int .i64 ((rd_T48 l0 x8_1).f1)) ∧ w'.cell? ⟨(ad656.add ((x8_1).toNat * 4)).block, (ad656.add ((x8_1).toNat * 4)).off + 2, none⟩ = some (.int .i64 ((rd_T48 l0 x8_1).f2)) ∧ w'.cell? ⟨(ad656.add ((x8_1).toNat * 4)).block, (ad656.add ((x8_1).toNat * 4)).off + 3, none⟩ = some (.int .i64 ((rd_T48 l0 x8_1).f3))) [] (bn 8 0) ⟨(blk_cell BK657.out 0).trans rfl, (blk_cell BK657.out 1).trans rfl, (blk_cell BK657.out 2).trans rfl, (blk_cell BK657.out 3).trans rfl, ((HB.out.cell (World.block_lt_of_cell? w _ hw661_0)).trans hw661_0), ((HB.out.cell (World.block_lt_of_cell? w _ hw661_1)).trans hw661_1), ((HB.out.cell (World.block_lt_of_cell? w _ hw661_2)).trans hw661_2), ((HB.out.cell (World.block_lt_of_cell? w _ hw661_3)).trans hw661_3)⟩ (fun hHeld => ?_); refine with_tabW cover_Meet.tab15 cover_Meet.bits15 (fun HT_ HW_ => ?_)
                      generalize w35.drew = w36 at BK654 BK657 HB hx661_0 hx661_1 hx661_2 hx661_3 hHeld ⊢
                      refine pT HT_.out 0 (some 53) (bn 8 1) ?_
                      refine pT HT_.out 2 (some 55) (bn 8 5) ?_
                      refine pT HT_.out 3 (some 56) (bn 8 13) ?_
                      refine pT HT_.out 4 (some 57) (bn 8 29) ?_
                      refine pT HT_.out 5 (some 58) (bn 8 61) ?_
                      refine tT HT_.out HW_.out 1 (some 54) (bn 8 63) hHeld ?_
                      refine tT HT_.out HW_.out 6 (some 59) (bn 8 127) hHeld ?_
                      refine pT HT_.out 7 (some 60) (bn 8 255) ?_
                      refine done_ (done_of HT_.out (by kernel_rfl)) ?_
                      try go_wp2
                      go_roundg kj23
                      case measure => have := HK1.out; have := HJ14.out; have := HJ23.out; omega
                      case rel => exact ⟨(x5_14), (x6_23), (x21_1), (x8_1), (wrap64 (x21_1 + 1)), (by first | rfl | (simp; done) | (simp [*]; done)), (by first | rfl | (simp; done) | (simp [*]; done)), (by first | rfl | (simp; done) | (simp [*]; done)), (by first | rfl | (simp; done) | (simp [*]; done)), (by first | rfl | (simp; done) | (simp [*]; done)), H', ⟨by have := HK1.out; have := HJ14.out; have := HJ23.out; omega⟩, ⟨by (with_reducible repeat (first | refine blk_drewN ?_ _ | refine blk_drew ?_ | refine blk_alloc ?_ _)); exact BK654.out⟩, ⟨HBz⟩⟩
                    ·rw [if_neg c31] at H
                     exact absurd H (by simp)
                   ·rw [if_neg c30] at H
                    exact absurd H (by simp)
                  ·rw [if_neg c29] at H
                   have c29b0 : decide (((rd_T48 l0 x7_1).f1) < ((rd_T48 l0 x21_1).f1)) = false := decide_eq_false c29
                   clear c29
                   by_cases c37 : 0 ≤ x8_1
                   ·rw [if_pos c37] at H
                    have c37b0 : decide (0 ≤ x8_1) = true := decide_eq_true c37
                    clear c37
                    by_cases c38 : x8_1 < (l0.length : Int)
                    ·rw [if_pos c38] at H
                     have c38b0 : decide (x8_1 < (l0.length : Int)) = true := decide_eq_true c38
                     clear c38
                     by_cases c39 : ((rd_T48 l0 x21_1).f3) < ((rd_T48 l0 x8_1).f3)
                     ·rw [if_pos c39] at H
                      have c39b0 : decide (((rd_T48 l0 x21_1).f3) < ((rd_T48 l0 x8_1).f3)) = true := decide_eq_true c39
                      clear c39
                      have H' := Aside0.mk H
                      clear H
                      try go_wp2
                      have n0_ := Aside0.mk (blk_drew BK654.out)
                      have n1_ := Aside0.mk (blk_drew BK657.out)
                      have n2_ := Aside0.mk (below_drew1 HB.out)
                      clear BK654
                      clear BK657
                      clear HB
                      have BK654 := n0_
                      have BK657 := n1_
                      have HB := n2_
                      clear n0_ n1_ n2_
                      have p660 : 0 ≤ (x7_1 : Int) := of_decide_eq_true (by first | (with_reducible assumption) | assumption)
                      have q660 : x7_1 < (l0.length : Int) := of_decide_eq_true (by first | (with_reducible assumption) | assumption)
                      obtain ⟨ad660, e660, hx660_0, hx660_1, hx660_2, hx660_3⟩ := at_T48 HR0.out x7_1 p660 q660
                      have hw660_3 := hx660_3
                      have hw660_2 := hx660_2
                      have hw660_1 := hx660_1
                      have hw660_0 := hx660_0
                      obtain rfl : ad656 = ad660 := (by injection e660)
                      replace hx660_0 := (HB.out.cell (World.block_lt_of_cell? w _ hx660_0)).trans hx660_0
                      replace hx660_1 := (HB.out.cell (World.block_lt_of_cell? w _ hx660_1)).trans hx660_1
                      replace hx660_2 := (HB.out.cell (World.block_lt_of_cell? w _ hx660_2)).trans hx660_2
                      replace hx660_3 := (HB.out.cell (World.block_lt_of_cell? w _ hx660_3)).trans hx660_3
                      replace p660 := eq_true p660
                      replace q660 := eq_true q660
                      refine stz (fun w' => w'.cell? ⟨gb657, 0, none⟩ = some (.int .i64 ((rd_T48 l0 x21_1).f0)) ∧ w'.cell? ⟨gb657, 1, none⟩ = some (.int .i64 ((rd_T48 l0 x21_1).f1)) ∧ w'.cell? ⟨gb657, 2, none⟩ = some (.int .i64 ((rd_T48 l0 x21_1).f2)) ∧ w'.cell? ⟨gb657, 3, none⟩ = some (.int .i64 ((rd_T48 l0 x21_1).f3)) ∧ w'.cell? (ad656.add ((x7_1).toNat * 4)) = some (.int .i64 ((rd_T48 l0 x7_1).f0)) ∧ w'.cell? ⟨(ad656.add ((x7_1).toNat * 4)).block, (ad656.add ((x7_1).toNat * 4)).off + 1, none⟩ = some (.int .i64 ((rd_T48 l0 x7_1).f1)) ∧ w'.cell? ⟨(ad656.add ((x7_1).toNat * 4)).block, (ad656.add ((x7_1).toNat * 4)).off + 2, none⟩ = some (.int .i64 ((rd_T48 l0 x7_1).f2)) ∧ w'.cell? ⟨(ad656.add ((x7_1).toNat * 4)).block, (ad656.add ((x7_1).toNat * 4)).off + 3, none⟩ = some (.int .i64 ((rd_T48 l0 x7_1).f3))) [] (bn 8 0) ⟨(blk_cell BK657.out 0).trans rfl, (blk_cell BK657.out 1).trans rfl, (blk_cell BK657.out 2).trans rfl, (blk_cell BK657.out 3).trans rfl, ((HB.out.cell (World.block_lt_of_cell? w _ hw660_0)).trans hw660_0), ((HB.out.cell (World.block_lt_of_cell? w _ hw660_1)).trans hw660_1), ((HB.out.cell (World.block_lt_of_cell? w _ hw660_2)).trans hw660_2), ((HB.out.cell (World.block_lt_of_cell? w _ hw660_3)).trans hw660_3)⟩ (fun hHeld => ?_); refine with_tabW cover_Meet.tab13 cover_Meet.bits13 (fun HT_ HW_ => ?_)
                      generalize wc.drew = w40 at BK654 BK657 HB hx660_0 hx660_1 hx660_2 hx660_3 hHeld ⊢
                      refine pT HT_.out 0 (some 44) (bn 8 1) ?_
                      refine pT HT_.out 2 (some 46) (bn 8 5) ?_
                      refine pT HT_.out 3 (some 47) (bn 8 13) ?_
                      refine pT HT_.out 4 (some 48) (bn 8 29) ?_
                      refine pT HT_.out 5 (some 49) (bn 8 61) ?_
                      refine tT HT_.out HW_.out 1 (some 45) (bn 8 63) hHeld ?_
                      refine tT HT_.out HW_.out 6 (some 50) (bn 8 127) hHeld ?_
                      refine pT HT_.out 7 (some 51) (bn 8 255) ?_
                      refine done_ (done_of HT_.out (by kernel_rfl)) ?_
                      try go_wp2
                      have n0_ := Aside0.mk (blk_drew BK654.out)
                      have n1_ := Aside0.mk (blk_drew BK657.out)
                      have n2_ := Aside0.mk (below_drew1 HB.out)
                      clear BK654
                      clear BK657
                      clear HB
                      have BK654 := n0_
                      have BK657 := n1_
                      have HB := n2_
                      clear n0_ n1_ n2_
                      have p662 : 0 ≤ (x8_1 : Int) := of_decide_eq_true (by first | (with_reducible assumption) | assumption)
                      have q662 : x8_1 < (l0.length : Int) := of_decide_eq_true (by first | (with_reducible assumption) | assumption)
                      obtain ⟨ad662, e662, hx662_0, hx662_1, hx662_2, hx662_3⟩ := at_T48 HR0.out x8_1 p662 q662
                      have hw662_3 := hx662_3
                      have hw662_2 := hx662_2
                      have hw662_1 := hx662_1
                      have hw662_0 := hx662_0
                      obtain rfl : ad656 = ad662 := (by injection e662)
                      replace hx662_0 := (HB.out.cell (World.block_lt_of_cell? w _ hx662_0)).trans hx662_0
                      replace hx662_1 := (HB.out.cell (World.block_lt_of_cell? w _ hx662_1)).trans hx662_1
                      replace hx662_2 := (HB.out.cell (World.block_lt_of_cell? w _ hx662_2)).trans hx662_2
                      replace hx662_3 := (HB.out.cell (World.block_lt_of_cell? w _ hx662_3)).trans hx662_3
                      replace p662 := eq_true p662
                      replace q662 := eq_true q662
                      refine stz (fun w' => w'.cell? ⟨gb657, 0, none⟩ = some (.int .i64 ((rd_T48 l0 x21_1).f0)) ∧ w'.cell? ⟨gb657, 1, none⟩ = some (.int .i64 ((rd_T48 l0 x21_1).f1)) ∧ w'.cell? ⟨gb657, 2, none⟩ = some (.int .i64 ((rd_T48 l0 x21_1).f2)) ∧ w'.cell? ⟨gb657, 3, none⟩ = some (.int .i64 ((rd_T48 l0 x21_1).f3)) ∧ w'.cell? (ad656.add ((x8_1).toNat * 4)) = some (.int .i64 ((rd_T48 l0 x8_1).f0)) ∧ w'.cell? ⟨(ad656.add ((x8_1).toNat * 4)).block, (ad656.add ((x8_1).toNat * 4)).off + 1, none⟩ = some (.int .i64 ((rd_T48 l0 x8_1).f1)) ∧ w'.cell? ⟨(ad656.add ((x8_1).toNat * 4)).block, (ad656.add ((x8_1).toNat * 4)).off + 2, none⟩ = some (.int .i64 ((rd_T48 l0 x8_1).f2)) ∧ w'.cell? ⟨(ad656.add ((x8_1).toNat * 4)).block, (ad656.add ((x8_1).toNat * 4)).off + 3, none⟩ = some (.int .i64 ((rd_T48 l0 x8_1).f3))) [] (bn 8 0) ⟨(blk_cell BK657.out 0).trans rfl, (blk_cell BK657.out 1).trans rfl, (blk_cell BK657.out 2).trans rfl, (blk_cell BK657.out 3).trans rfl, ((HB.out.cell (World.block_lt_of_cell? w _ hw662_0)).trans hw662_0), ((HB.out.cell (World.block_lt_of_cell? w _ hw662_1)).trans hw662_1), ((HB.out.cell (World.block_lt_of_cell? w _ hw662_2)).trans hw662_2), ((HB.out.cell (World.block_lt_of_cell? w _ hw662_3)).trans hw662_3)⟩ (fun hHeld => ?_); refine with_tabW cover_Meet.tab15 cover_Meet.bits15 (fun HT_ HW_ => ?_)
                      generalize w40.drew = w41 at BK654 BK657 HB hx662_0 hx662_1 hx662_2 hx662_3 hHeld ⊢
                      refine pT HT_.out 0 (some 53) (bn 8 1) ?_
                      refine pT HT_.out 2 (some 55) (bn 8 5) ?_
                      refine pT HT_.out 3 (some 56) (bn 8 13) ?_
                      refine pT HT_.out 4 (some 57) (bn 8 29) ?_
                      refine pT HT_.out 5 (some 58) (bn 8 61) ?_
                      refine tT HT_.out HW_.out 1 (some 54) (bn 8 63) hHeld ?_
                      refine tT HT_.out HW_.out 6 (some 59) (bn 8 127) hHeld ?_
                      refine pT HT_.out 7 (some 60) (bn 8 255) ?_
                      refine done_ (done_of HT_.out (by kernel_rfl)) ?_
                      try go_wp2
                      go_roundg kj23
                      case measure => have := HK1.out; have := HJ14.out; have := HJ23.out; omega
                      case rel => exact ⟨(x5_14), (x6_23), (x7_1), (x21_1), (wrap64 (x21_1 + 1)), (by first | rfl | (simp; done) | (simp [*]; done)), (by first | rfl | (simp; done) | (simp [*]; done)), (by first | rfl | (simp; done) | (simp [*]; done)), (by first | rfl | (simp; done) | (simp [*]; done)), (by first | rfl | (simp; done) | (simp [*]; done)), H', ⟨by have := HK1.out; have := HJ14.out; have := HJ23.out; omega⟩, ⟨by (with_reducible repeat (first | refine blk_drewN ?_ _ | refine blk_drew ?_ | refine blk_alloc ?_ _)); exact BK654.out⟩, ⟨HBz⟩⟩
                     ·rw [if_neg c39] at H
                      have c39b0 : decide (((rd_T48 l0 x21_1).f3) < ((rd_T48 l0 x8_1).f3)) = false := decide_eq_false c39
                      clear c39
                      have H' := Aside0.mk H
                      clear H
                      try go_wp2
                      have n0_ := Aside0.mk (blk_drew BK654.out)
                      have n1_ := Aside0.mk (blk_drew BK657.out)
                      have n2_ := Aside0.mk (below_drew1 HB.out)
                      clear BK654
                      clear BK657
                      clear HB
                      have BK654 := n0_
                      have BK657 := n1_
                      have HB := n2_
                      clear n0_ n1_ n2_
                      have p660 : 0 ≤ (x7_1 : Int) := of_decide_eq_true (by first | (with_reducible assumption) | assumption)
                      have q660 : x7_1 < (l0.length : Int) := of_decide_eq_true (by first | (with_reducible assumption) | assumption)
                      obtain ⟨ad660, e660, hx660_0, hx660_1, hx660_2, hx660_3⟩ := at_T48 HR0.out x7_1 p660 q660
                      have hw660_3 := hx660_3
                      have hw660_2 := hx660_2
                      have hw660_1 := hx660_1
                      have hw660_0 := hx660_0
                      obtain rfl : ad656 = ad660 := (by injection e660)
                      replace hx660_0 := (HB.out.cell (World.block_lt_of_cell? w _ hx660_0)).trans hx660_0
                      replace hx660_1 := (HB.out.cell (World.block_lt_of_cell? w _ hx660_1)).trans hx660_1
                      replace hx660_2 := (HB.out.cell (World.block_lt_of_cell? w _ hx660_2)).trans hx660_2
                      replace hx660_3 := (HB.out.cell (World.block_lt_of_cell? w _ hx660_3)).trans hx660_3
                      replace p660 := eq_true p660
                      replace q660 := eq_true q660
                      refine stz (fun w' => w'.cell? ⟨gb657, 0, none⟩ = some (.int .i64 ((rd_T48 l0 x21_1).f0)) ∧ w'.cell? ⟨gb657, 1, none⟩ = some (.int .i64 ((rd_T48 l0 x21_1).f1)) ∧ w'.cell? ⟨gb657, 2, none⟩ = some (.int .i64 ((rd_T48 l0 x21_1).f2)) ∧ w'.cell? ⟨gb657, 3, none⟩ = some (.int .i64 ((rd_T48 l0 x21_1).f3)) ∧ w'.cell? (ad656.add ((x7_1).toNat * 4)) = some (.int .i64 ((rd_T48 l0 x7_1).f0)) ∧ w'.cell? ⟨(ad656.add ((x7_1).toNat * 4)).block, (ad656.add ((x7_1).toNat * 4)).off + 1, none⟩ = some (.int .i64 ((rd_T48 l0 x7_1).f1)) ∧ w'.cell? ⟨(ad656.add ((x7_1).toNat * 4)).block, (ad656.add ((x7_1).toNat * 4)).off + 2, none⟩ = some (.int .i64 ((rd_T48 l0 x7_1).f2)) ∧ w'.cell? ⟨(ad656.add ((x7_1).toNat * 4)).block, (ad656.add ((x7_1).toNat * 4)).off + 3, none⟩ = some (.int .i64 ((rd_T48 l0 x7_1).f3))) [] (bn 8 0) ⟨(blk_cell BK657.out 0).trans rfl, (blk_cell BK657.out 1).trans rfl, (blk_cell BK657.out 2).trans rfl, (blk_cell BK657.out 3).trans rfl, ((HB.out.cell (World.block_lt_of_cell? w _ hw660_0)).trans hw660_0), ((HB.out.cell (World.block_lt_of_cell? w _ hw660_1)).trans hw660_1), ((HB.out.cell (World.block_lt_of_cell? w _ hw660_2)).trans hw660_2), ((HB.out.cell (World.block_lt_of_cell? w _ hw660_3)).trans hw660_3)⟩ (fun hHeld => ?_); refine with_tabW cover_Meet.tab13 cover_Meet.bits13 (fun HT_ HW_ => ?_)
                      generalize wc.drew = w42 at BK654 BK657 HB hx660_0 hx660_1 hx660_2 hx660_3 hHeld ⊢
                      refine pT HT_.out 0 (some 44) (bn 8 1) ?_
                      refine pT HT_.out 2 (some 46) (bn 8 5) ?_
                      refine pT HT_.out 3 (some 47) (bn 8 13) ?_
                      refine pT HT_.out 4 (some 48) (bn 8 29) ?_
                      refine pT HT_.out 5 (some 49) (bn 8 61) ?_
                      refine tT HT_.out HW_.out 1 (some 45) (bn 8 63) hHeld ?_
                      refine tT HT_.out HW_.out 6 (some 50) (bn 8 127) hHeld ?_
                      refine pT HT_.out 7 (some 51) (bn 8 255) ?_
                      refine done_ (done_of HT_.out (by kernel_rfl)) ?_
                      try go_wp2
                      have n0_ := Aside0.mk (blk_drew BK654.out)
                      have n1_ := Aside0.mk (blk_drew BK657.out)
                      have n2_ := Aside0.mk (below_drew1 HB.out)
                      clear BK654
                      clear BK657
                      clear HB
                      have BK654 := n0_
                      have BK657 := n1_
                      have HB := n2_
                      clear n0_ n1_ n2_
                      have p662 : 0 ≤ (x8_1 : Int) := of_decide_eq_true (by first | (with_reducible assumption) | assumption)
                      have q662 : x8_1 < (l0.length : Int) := of_decide_eq_true (by first | (with_reducible assumption) | assumption)
                      obtain ⟨ad662, e662, hx662_0, hx662_1, hx662_2, hx662_3⟩ := at_T48 HR0.out x8_1 p662 q662
                      have hw662_3 := hx662_3
                      have hw662_2 := hx662_2
                      have hw662_1 := hx662_1
                      have hw662_0 := hx662_0
                      obtain rfl : ad656 = ad662 := (by injection e662)
                      replace hx662_0 := (HB.out.cell (World.block_lt_of_cell? w _ hx662_0)).trans hx662_0
                      replace hx662_1 := (HB.out.cell (World.block_lt_of_cell? w _ hx662_1)).trans hx662_1
                      replace hx662_2 := (HB.out.cell (World.block_lt_of_cell? w _ hx662_2)).trans hx662_2
                      replace hx662_3 := (HB.out.cell (World.block_lt_of_cell? w _ hx662_3)).trans hx662_3
                      replace p662 := eq_true p662
                      replace q662 := eq_true q662
                      refine stz (fun w' => w'.cell? ⟨gb657, 0, none⟩ = some (.int .i64 ((rd_T48 l0 x21_1).f0)) ∧ w'.cell? ⟨gb657, 1, none⟩ = some (.int .i64 ((rd_T48 l0 x21_1).f1)) ∧ w'.cell? ⟨gb657, 2, none⟩ = some (.int .i64 ((rd_T48 l0 x21_1).f2)) ∧ w'.cell? ⟨gb657, 3, none⟩ = some (.int .i64 ((rd_T48 l0 x21_1).f3)) ∧ w'.cell? (ad656.add ((x8_1).toNat * 4)) = some (.int .i64 ((rd_T48 l0 x8_1).f0)) ∧ w'.cell? ⟨(ad656.add ((x8_1).toNat * 4)).block, (ad656.add ((x8_1).toNat * 4)).off + 1, none⟩ = some (.int .i64 ((rd_T48 l0 x8_1).f1)) ∧ w'.cell? ⟨(ad656.add ((x8_1).toNat * 4)).block, (ad656.add ((x8_1).toNat * 4)).off + 2, none⟩ = some (.int .i64 ((rd_T48 l0 x8_1).f2)) ∧ w'.cell? ⟨(ad656.add ((x8_1).toNat * 4)).block, (ad656.add ((x8_1).toNat * 4)).off + 3, none⟩ = some (.int .i64 ((rd_T48 l0 x8_1).f3))) [] (bn 8 0) ⟨(blk_cell BK657.out 0).trans rfl, (blk_cell BK657.out 1).trans rfl, (blk_cell BK657.out 2).trans rfl, (blk_cell BK657.out 3).trans rfl, ((HB.out.cell (World.block_lt_of_cell? w _ hw662_0)).trans hw662_0), ((HB.out.cell (World.block_lt_of_cell? w _ hw662_1)).trans hw662_1), ((HB.out.cell (World.block_lt_of_cell? w _ hw662_2)).trans hw662_2), ((HB.out.cell (World.block_lt_of_cell? w _ hw662_3)).trans hw662_3)⟩ (fun hHeld => ?_); refine with_tabW cover_Meet.tab15 cover_Meet.bits15 (fun HT_ HW_ => ?_)
                      generalize w42.drew = w43 at BK654 BK657 HB hx662_0 hx662_1 hx662_2 hx662_3 hHeld ⊢
                      refine pT HT_.out 0 (some 53) (bn 8 1) ?_
                      refine pT HT_.out 2 (some 55) (bn 8 5) ?_
                      refine pT HT_.out 3 (some 56) (bn 8 13) ?_
                      refine pT HT_.out 4 (some 57) (bn 8 29) ?_
                      refine pT HT_.out 5 (some 58) (bn 8 61) ?_
                      refine tT HT_.out HW_.out 1 (some 54) (bn 8 63) hHeld ?_
                      refine tT HT_.out HW_.out 6 (some 59) (bn 8 127) hHeld ?_
                      refine pT HT_.out 7 (some 60) (bn 8 255) ?_
                      refine done_ (done_of HT_.out (by kernel_rfl)) ?_
                      try go_wp2
                      go_roundg kj23
                      case measure => have := HK1.out; have := HJ14.out; have := HJ23.out; omega
                      case rel => exact ⟨(x5_14), (x6_23), (x7_1), (x8_1), (wrap64 (x21_1 + 1)), (by first | rfl | (simp; done) | (simp [*]; done)), (by first | rfl | (simp; done) | (simp [*]; done)), (by first | rfl | (simp; done) | (simp [*]; done)), (by first | rfl | (simp; done) | (simp [*]; done)), (by first | rfl | (simp; done) | (simp [*]; done)), H', ⟨by have := HK1.out; have := HJ14.out; have := HJ23.out; omega⟩, ⟨by (with_reducible repeat (first | refine blk_drewN ?_ _ | refine blk_drew ?_ | refine blk_alloc ?_ _)); exact BK654.out⟩, ⟨HBz⟩⟩
                    ·rw [if_neg c38] at H
                     exact absurd H (by simp)
                   ·rw [if_neg c37] at H
                    exact absurd H (by simp)
                 ·rw [if_neg c28] at H
                  exact absurd H (by simp)
                ·rw [if_neg c27] at H
                 exact absurd H (by simp)
             ·rw [if_neg c23] at H
              exact absurd H (by simp)
            ·rw [if_neg c22] at H
             exact absurd H (by simp)
         ·rw [if_neg c14] at H
          exact absurd H (by simp)
        ·rw [if_neg c13] at H
         exact absurd H (by simp)
       ·rw [if_neg c12] at H
        exact absurd H (by simp)
      ·rw [if_neg c11] at H
       exact absurd H (by simp)
     ·rw [if_neg c10] at H
      have c10b0 : decide (x21_1 < (l0.length : Int)) = false := decide_eq_false c10
      clear c10
      by_cases c44 : 0 ≤ x5_1
      ·rw [if_pos c44] at H
       have c44b0 : decide (0 ≤ x5_1) = true := decide_eq_true c44
       clear c44
       by_cases c45 : x5_1 < (l0.length : Int)
       ·rw [if_pos c45] at H
        have c45b0 : decide (x5_1 < (l0.length : Int)) = true := decide_eq_true c45
        clear c45
        by_cases c46 : 0 ≤ x6_1
        ·rw [if_pos c46] at H
         have c46b0 : decide (0 ≤ x6_1) = true := decide_eq_true c46
         clear c46
         by_cases c47 : x6_1 < (l0.length : Int)
         ·rw [if_pos c47] at H
          have c47b0 : decide (x6_1 < (l0.length : Int)) = true := decide_eq_true c47
          clear c47
          by_cases c48 : ((rd_T48 l0 x5_1).f0) > ((rd_T48 l0 x6_1).f2)
          ·rw [if_pos c48] at H
           have c48b0 : decide (((rd_T48 l0 x6_1).f2) < ((rd_T48 l0 x5_1).f0)) = true := decide_eq_true c48
           clear c48
           obtain ⟨ji49, hji49⟩ : ∃ j_ : Int, (mn x6_1 x5_1) = j_ := ⟨_, rfl⟩
           replace H : (some (0, 0, (([ji49, mx x6_1 x5_1] : List Int)), 0)) = some (r1, r2, r3, r4) := by first | (rw [hji49] at H; exact H) | (simp only [hji49] at H ⊢; exact H)
           have hji49_ : (if x5_1 < x6_1 then x5_1 else x6_1) = ji49 := hji49
           obtain ⟨ji50, hji50⟩ : ∃ j_ : Int, (mx x6_1 x5_1) = j_ := ⟨_, rfl⟩
           replace H : (some (0, 0, (([ji49, ji50] : List Int)), 0)) = some (r1, r2, r3, r4) := by first | (rw [hji50] at H; exact H) | (simp only [hji50] at H ⊢; exact H)
           have hji50_ : (if x6_1 < x5_1 then x5_1 else x6_1) = ji50 := hji50
           obtain ⟨y665, hy665⟩ : ∃ y_ : List Int, y_ = (([ji49, ji50] : List Int)) := ⟨_, rfl⟩
           replace H : (some (0, 0, y665, 0)) = some (r1, r2, r3, r4) := by first | (rw [hy665]; with_reducible exact H) | (have H2_ := (Option.bind_some _ _).symm.trans H; rw [hy665]; with_reducible exact H2_) | (have H2_ := (Option.bind_some _ _).symm.trans H; with_reducible exact H2_) | with_reducible exact H | (rw [hy665]; exact H) | exact H
           have Ny665 := Aside0.mk hy665
           clear hy665
           simp only [Option.some.injEq, Prod.mk.injEq] at H
           obtain ⟨rfl, rfl, rfl, rfl⟩ := H
           try go_wp2
           have n0_ := Aside0.mk (blk_drew BK654.out)
           have n1_ := Aside0.mk (below_drew1 HB.out)
           clear BK654
           clear HB
           have BK654 := n0_
           have HB := n1_
           clear n0_ n1_
           have p663 : 0 ≤ (x5_1 : Int) := of_decide_eq_true (by first | (with_reducible assumption) | assumption)
           have q663 : x5_1 < (l0.length : Int) := of_decide_eq_true (by first | (with_reducible assumption) | assumption)
           obtain ⟨ad663, e663, hx663_0, hx663_1, hx663_2, hx663_3⟩ := at_T48 HR0.out x5_1 p663 q663
           have hw663_3 := hx663_3
           have hw663_2 := hx663_2
           have hw663_1 := hx663_1
           have hw663_0 := hx663_0
           cases e663
           replace hx663_0 := (HB.out.cell (World.block_lt_of_cell? w _ hx663_0)).trans hx663_0
           replace hx663_1 := (HB.out.cell (World.block_lt_of_cell? w _ hx663_1)).trans hx663_1
           replace hx663_2 := (HB.out.cell (World.block_lt_of_cell? w _ hx663_2)).trans hx663_2
           replace hx663_3 := (HB.out.cell (World.block_lt_of_cell? w _ hx663_3)).trans hx663_3
           replace p663 := eq_true p663
           replace q663 := eq_true q663
           have p664 : 0 ≤ (x6_1 : Int) := of_decide_eq_true (by first | (with_reducible assumption) | assumption)
           have q664 : x6_1 < (l0.length : Int) := of_decide_eq_true (by first | (with_reducible assumption) | assumption)
           obtain ⟨ad664, e664, hx664_0, hx664_1, hx664_2, hx664_3⟩ := at_T48 HR0.out x6_1 p664 q664
           have hw664_3 := hx664_3
           have hw664_2 := hx664_2
           have hw664_1 := hx664_1
           have hw664_0 := hx664_0
           obtain rfl : ad663 = ad664 := (by injection e664)
           replace hx664_0 := (HB.out.cell (World.block_lt_of_cell? w _ hx664_0)).trans hx664_0
           replace hx664_1 := (HB.out.cell (World.block_lt_of_cell? w _ hx664_1)).trans hx664_1
           replace hx664_2 := (HB.out.cell (World.block_lt_of_cell? w _ hx664_2)).trans hx664_2
           replace hx664_3 := (HB.out.cell (World.block_lt_of_cell? w _ hx664_3)).trans hx664_3
           replace p664 := eq_true p664
           replace q664 := eq_true q664
           refine stz (fun w' => w'.cell? (ad663.add ((x5_1).toNat * 4)) = some (.int .i64 ((rd_T48 l0 x5_1).f0)) ∧ w'.cell? ⟨(ad663.add ((x5_1).toNat * 4)).block, (ad663.add ((x5_1).toNat * 4)).off + 1, none⟩ = some (.int .i64 ((rd_T48 l0 x5_1).f1)) ∧ w'.cell? ⟨(ad663.add ((x5_1).toNat * 4)).block, (ad663.add ((x5_1).toNat * 4)).off + 2, none⟩ = some (.int .i64 ((rd_T48 l0 x5_1).f2)) ∧ w'.cell? ⟨(ad663.add ((x5_1).toNat * 4)).block, (ad663.add ((x5_1).toNat * 4)).off + 3, none⟩ = some (.int .i64 ((rd_T48 l0 x5_1).f3)) ∧ w'.cell? (ad663.add ((x6_1).toNat * 4)) = some (.int .i64 ((rd_T48 l0 x6_1).f0)) ∧ w'.cell? ⟨(ad663.add ((x6_1).toNat * 4)).block, (ad663.add ((x6_1).toNat * 4)).off + 1, none⟩ = some (.int .i64 ((rd_T48 l0 x6_1).f1)) ∧ w'.cell? ⟨(ad663.add ((x6_1).toNat * 4)).block, (ad663.add ((x6_1).toNat * 4)).off + 2, none⟩ = some (.int .i64 ((rd_T48 l0 x6_1).f2)) ∧ w'.cell? ⟨(ad663.add ((x6_1).toNat * 4)).block, (ad663.add ((x6_1).toNat * 4)).off + 3, none⟩ = some (.int .i64 ((rd_T48 l0 x6_1).f3))) [] (bn 12 0) ⟨((HB.out.cell (World.block_lt_of_cell? w _ hw663_0)).trans hw663_0), ((HB.out.cell (World.block_lt_of_cell? w _ hw663_1)).trans hw663_1), ((HB.out.cell (World.block_lt_of_cell? w _ hw663_2)).trans hw663_2), ((HB.out.cell (World.block_lt_of_cell? w _ hw663_3)).trans hw663_3), ((HB.out.cell (World.block_lt_of_cell? w _ hw664_0)).trans hw664_0), ((HB.out.cell (World.block_lt_of_cell? w _ hw664_1)).trans hw664_1), ((HB.out.cell (World.block_lt_of_cell? w _ hw664_2)).trans hw664_2), ((HB.out.cell (World.block_lt_of_cell? w _ hw664_3)).trans hw664_3)⟩ (fun hHeld => ?_); refine with_tabW cover_Meet.tab18 cover_Meet.bits18 (fun HT_ HW_ => ?_)
           generalize wr.drew = w51 at BK654 HB hx663_0 hx663_1 hx663_2 hx663_3 hx664_0 hx664_1 hx664_2 hx664_3 hHeld ⊢
           refine pT HT_.out 0 (some 64) (bn 12 1) ?_
           refine pT HT_.out 1 (some 65) (bn 12 3) ?_
           refine pT HT_.out 2 (some 66) (bn 12 7) ?_
           refine pT HT_.out 3 (some 67) (bn 12 15) ?_
           refine pT HT_.out 5 (some 69) (bn 12 47) ?_
           refine pT HT_.out 6 (some 70) (bn 12 111) ?_
           refine pT HT_.out 7 (some 71) (bn 12 239) ?_
           refine pT HT_.out 8 (some 72) (bn 12 495) ?_
           refine tT HT_.out HW_.out 4 (some 68) (bn 12 511) hHeld ?_
           refine tT HT_.out HW_.out 9 (some 73) (bn 12 1023) hHeld ?_
           refine pT HT_.out 10 (some 74) (bn 12 2047) ?_
           refine pT HT_.out 11 (some 63) (bn 12 4095) ?_
           refine done_ (done_of HT_.out (by kernel_rfl)) ?_
           try go_wp2_with (first | ((with_reducible refine gate_dst (N := 82) rfl ?_); refine Kd.R_lit (Kd.int .i64) _ 3 ?hg (N := 82) ?hd (xs := ([ji49, ji50] : List Int)) (inner := [.int .i64 ji49, .int .i64 ji50]) (ok := fun _ => True) (okp := fun _ => True) ?hr ?hp (fun _ hk => hk) trivial (Below.refl _ _) (Nat.le_refl _) (by simp) ?_; (case hd => rfl); (case hg => rfl); (case hr => first | (go_simp; done) | (go_simp; rfl)); (case hp => exact (Reps.one (show Kd.M (Kd.int .i64) _ _ _ ji49 [.int .i64 ji49] from rfl) (Reps.one (show Kd.M (Kd.int .i64) _ _ _ ji50 [.int .i64 ji50] from rfl) (Reps.none _ _)))); intro v666 w52 ho53 hb hg_ hnew_; clear hg_ hnew_; (first | rw [← Ny665.out] at ho53 | (simp only [Int.reduceToNat] at ho53; rw [← Ny665.out] at ho53)); have n0_ := Aside0.mk (Kd.R_lower ho53 (below_size HBz)); have n1_ := Aside0.mk (blk_below (g := gb654) BKz hb); have n2_ := Aside0.mk (below_step HBz hb); clear BK654; clear HB; have HO667 := n0_; have BK654 := n1_; have HB := n2_; clear n0_ n1_ n2_; clear hb ho53; have hcz54_0 : w52.cell? ⟨gb654, 0, none⟩ = some (.int .i64 0) := (blk_cell BK654.out 0).trans rfl; have hcz54_1 : w52.cell? ⟨gb654, 1, none⟩ = some (.int .i64 0) := (blk_cell BK654.out 1).trans rfl; have hfz54_0 := blk_frozen BK654.out 0; have hfz54_1 := blk_frozen BK654.out 1))
           refine bodyPost_ret (results_ctt rfl _ _ gb654 28 #[.int .i64 0, .int .i64 0] (0, 0) _ rfl (by (with_reducible repeat (first | refine blk_drewN ?_ _ | refine blk_drew ?_ | refine blk_alloc ?_ _)); refine blk_put (cs := #[.int .i64 0, .int .i64 0]) ?_ 1 _ rfl; (with_reducible repeat (first | refine blk_drewN ?_ _ | refine blk_drew ?_ | refine blk_alloc ?_ _)); refine blk_put (cs := #[.int .i64 0, .int .i64 0]) ?_ 0 _ rfl; (with_reducible repeat (first | refine blk_drewN ?_ _ | refine blk_drew ?_ | refine blk_alloc ?_ _)); exact BK654.out) Try.underlying28 rfl (by kernel_rfl)) rfl ?_
           exact ⟨_, by first | rfl | (simp [errW_none, errW_some] <;> rfl) | (simp only [← hji49, ← hji50]; first | rfl | (simp [errW_none, errW_some] <;> rfl)) | (simp [*, errW_none, errW_some] <;> rfl), by (with_reducible repeat (first | apply Kd.R_alloc | apply Kd.R_drewN | apply Kd.R_drew)); exact Kd.R_mono (Kd.R_far (p := ⟨gb654, 1, none⟩) (Kd.R_far (p := ⟨gb654, 0, none⟩) (Kd.R_types HO667.out BK654.out (by decide)) (fun _ hk => hk.2) (.int .i64 0)) (fun _ hk => hk.2) (.int .i64 0)) (fun _ hk => trivial), HBz⟩
          ·rw [if_neg c48] at H
           have c48b0 : decide (((rd_T48 l0 x6_1).f2) < ((rd_T48 l0 x5_1).f0)) = false := decide_eq_false c48
           clear c48
           by_cases c55 : 0 ≤ x7_1
           ·rw [if_pos c55] at H
            have c55b0 : decide (0 ≤ x7_1) = true := decide_eq_true c55
            clear c55
            by_cases c56 : x7_1 < (l0.length : Int)
            ·rw [if_pos c56] at H
             have c56b0 : decide (x7_1 < (l0.length : Int)) = true := decide_eq_true c56
             clear c56
             by_cases c57 : 0 ≤ x8_1
             ·rw [if_pos c57] at H
              have c57b0 : decide (0 ≤ x8_1) = true := decide_eq_true c57
              clear c57
              by_cases c58 : x8_1 < (l0.length : Int)
              ·rw [if_pos c58] at H
               have c58b0 : decide (x8_1 < (l0.length : Int)) = true := decide_eq_true c58
               clear c58
               by_cases c59 : ((rd_T48 l0 x7_1).f1) > ((rd_T48 l0 x8_1).f3)
               ·rw [if_pos c59] at H
                have c59b0 : decide (((rd_T48 l0 x8_1).f3) < ((rd_T48 l0 x7_1).f1)) = true := decide_eq_true c59
                clear c59
                obtain ⟨ji60, hji60⟩ : ∃ j_ : Int, (mn x8_1 x7_1) = j_ := ⟨_, rfl⟩
                replace H : (some (0, 0, (([ji60, mx x8_1 x7_1] : List Int)), 0)) = some (r1, r2, r3, r4) := by first | (rw [hji60] at H; exact H) | (simp only [hji60] at H ⊢; exact H)
                have hji60_ : (if x7_1 < x8_1 then x7_1 else x8_1) = ji60 := hji60
                obtain ⟨ji61, hji61⟩ : ∃ j_ : Int, (mx x8_1 x7_1) = j_ := ⟨_, rfl⟩
                replace H : (some (0, 0, (([ji60, ji61] : List Int)), 0)) = some (r1, r2, r3, r4) := by first | (rw [hji61] at H; exact H) | (simp only [hji61] at H ⊢; exact H)
                have hji61_ : (if x8_1 < x7_1 then x7_1 else x8_1) = ji61 := hji61
                obtain ⟨y670, hy670⟩ : ∃ y_ : List Int, y_ = (([ji60, ji61] : List Int)) := ⟨_, rfl⟩
                replace H : (some (0, 0, y670, 0)) = some (r1, r2, r3, r4) := by first | (rw [hy670]; with_reducible exact H) | (have H2_ := (Option.bind_some _ _).symm.trans H; rw [hy670]; with_reducible exact H2_) | (have H2_ := (Option.bind_some _ _).symm.trans H; with_reducible exact H2_) | with_reducible exact H | (rw [hy670]; exact H) | exact H
                have Ny670 := Aside0.mk hy670
                clear hy670
                simp only [Option.some.injEq, Prod.mk.injEq] at H
                obtain ⟨rfl, rfl, rfl, rfl⟩ := H
                try go_wp2
                have n0_ := Aside0.mk (blk_drew BK654.out)
                have n1_ := Aside0.mk (below_drew1 HB.out)
                clear BK654
                clear HB
                have BK654 := n0_
                have HB := n1_
                clear n0_ n1_
                have p663 : 0 ≤ (x5_1 : Int) := of_decide_eq_true (by first | (with_reducible assumption) | assumption)
                have q663 : x5_1 < (l0.length : Int) := of_decide_eq_true (by first | (with_reducible assumption) | assumption)
                obtain ⟨ad663, e663, hx663_0, hx663_1, hx663_2, hx663_3⟩ := at_T48 HR0.out x5_1 p663 q663
                have hw663_3 := hx663_3
                have hw663_2 := hx663_2
                have hw663_1 := hx663_1
                have hw663_0 := hx663_0
                cases e663
                replace hx663_0 := (HB.out.cell (World.block_lt_of_cell? w _ hx663_0)).trans hx663_0
                replace hx663_1 := (HB.out.cell (World.block_lt_of_cell? w _ hx663_1)).trans hx663_1
                replace hx663_2 := (HB.out.cell (World.block_lt_of_cell? w _ hx663_2)).trans hx663_2
                replace hx663_3 := (HB.out.cell (World.block_lt_of_cell? w _ hx663_3)).trans hx663_3
                replace p663 := eq_true p663
                replace q663 := eq_true q663
                have p664 : 0 ≤ (x6_1 : Int) := of_decide_eq_true (by first | (with_reducible assumption) | assumption)
                have q664 : x6_1 < (l0.length : Int) := of_decide_eq_true (by first | (with_reducible assumption) | assumption)
                obtain ⟨ad664, e664, hx664_0, hx664_1, hx664_2, hx664_3⟩ := at_T48 HR0.out x6_1 p664 q664
                have hw664_3 := hx664_3
                have hw664_2 := hx664_2
                have hw664_1 := hx664_1
                have hw664_0 := hx664_0
                obtain rfl : ad663 = ad664 := (by injection e664)
                replace hx664_0 := (HB.out.cell (World.block_lt_of_cell? w _ hx664_0)).trans hx664_0
                replace hx664_1 := (HB.out.cell (World.block_lt_of_cell? w _ hx664_1)).trans hx664_1
                replace hx664_2 := (HB.out.cell (World.block_lt_of_cell? w _ hx664_2)).trans hx664_2
                replace hx664_3 := (HB.out.cell (World.block_lt_of_cell? w _ hx664_3)).trans hx664_3
                replace p664 := eq_true p664
                replace q664 := eq_true q664
                refine stz (fun w' => w'.cell? (ad663.add ((x5_1).toNat * 4)) = some (.int .i64 ((rd_T48 l0 x5_1).f0)) ∧ w'.cell? ⟨(ad663.add ((x5_1).toNat * 4)).block, (ad663.add ((x5_1).toNat * 4)).off + 1, none⟩ = some (.int .i64 ((rd_T48 l0 x5_1).f1)) ∧ w'.cell? ⟨(ad663.add ((x5_1).toNat * 4)).block, (ad663.add ((x5_1).toNat * 4)).off + 2, none⟩ = some (.int .i64 ((rd_T48 l0 x5_1).f2)) ∧ w'.cell? ⟨(ad663.add ((x5_1).toNat * 4)).block, (ad663.add ((x5_1).toNat * 4)).off + 3, none⟩ = some (.int .i64 ((rd_T48 l0 x5_1).f3)) ∧ w'.cell? (ad663.add ((x6_1).toNat * 4)) = some (.int .i64 ((rd_T48 l0 x6_1).f0)) ∧ w'.cell? ⟨(ad663.add ((x6_1).toNat * 4)).block, (ad663.add ((x6_1).toNat * 4)).off + 1, none⟩ = some (.int .i64 ((rd_T48 l0 x6_1).f1)) ∧ w'.cell? ⟨(ad663.add ((x6_1).toNat * 4)).block, (ad663.add ((x6_1).toNat * 4)).off + 2, none⟩ = some (.int .i64 ((rd_T48 l0 x6_1).f2)) ∧ w'.cell? ⟨(ad663.add ((x6_1).toNat * 4)).block, (ad663.add ((x6_1).toNat * 4)).off + 3, none⟩ = some (.int .i64 ((rd_T48 l0 x6_1).f3))) [] (bn 12 0) ⟨((HB.out.cell (World.block_lt_of_cell? w _ hw663_0)).trans hw663_0), ((HB.out.cell (World.block_lt_of_cell? w _ hw663_1)).trans hw663_1), ((HB.out.cell (World.block_lt_of_cell? w _ hw663_2)).trans hw663_2), ((HB.out.cell (World.block_lt_of_cell? w _ hw663_3)).trans hw663_3), ((HB.out.cell (World.block_lt_of_cell? w _ hw664_0)).trans hw664_0), ((HB.out.cell (World.block_lt_of_cell? w _ hw664_1)).trans hw664_1), ((HB.out.cell (World.block_lt_of_cell? w _ hw664_2)).trans hw664_2), ((HB.out.cell (World.block_lt_of_cell? w _ hw664_3)).trans hw664_3)⟩ (fun hHeld => ?_); refine with_tabW cover_Meet.tab18 cover_Meet.bits18 (fun HT_ HW_ => ?_)
                generalize wr.drew = w62 at BK654 HB hx663_0 hx663_1 hx663_2 hx663_3 hx664_0 hx664_1 hx664_2 hx664_3 hHeld ⊢
                refine pT HT_.out 0 (some 64) (bn 12 1) ?_
                refine pT HT_.out 1 (some 65) (bn 12 3) ?_
                refine pT HT_.out 2 (some 66) (bn 12 7) ?_
                refine pT HT_.out 3 (some 67) (bn 12 15) ?_
                refine pT HT_.out 5 (some 69) (bn 12 47) ?_
                refine pT HT_.out 6 (some 70) (bn 12 111) ?_
                refine pT HT_.out 7 (some 71) (bn 12 239) ?_
                refine pT HT_.out 8 (some 72) (bn 12 495) ?_
                refine tT HT_.out HW_.out 4 (some 68) (bn 12 511) hHeld ?_
                refine tT HT_.out HW_.out 9 (some 73) (bn 12 1023) hHeld ?_
                refine pT HT_.out 10 (some 74) (bn 12 2047) ?_
                refine pT HT_.out 11 (some 63) (bn 12 4095) ?_
                refine done_ (done_of HT_.out (by kernel_rfl)) ?_
                try go_wp2
                have n0_ := Aside0.mk (blk_drew BK654.out)
                have n1_ := Aside0.mk (below_drew1 HB.out)
                clear BK654
                clear HB
                have BK654 := n0_
                have HB := n1_
                clear n0_ n1_
                have p668 : 0 ≤ (x7_1 : Int) := of_decide_eq_true (by first | (with_reducible assumption) | assumption)
                have q668 : x7_1 < (l0.length : Int) := of_decide_eq_true (by first | (with_reducible assumption) | assumption)
                obtain ⟨ad668, e668, hx668_0, hx668_1, hx668_2, hx668_3⟩ := at_T48 HR0.out x7_1 p668 q668
                have hw668_3 := hx668_3
                have hw668_2 := hx668_2
                have hw668_1 := hx668_1
                have hw668_0 := hx668_0
                obtain rfl : ad663 = ad668 := (by injection e668)
                replace hx668_0 := (HB.out.cell (World.block_lt_of_cell? w _ hx668_0)).trans hx668_0
                replace hx668_1 := (HB.out.cell (World.block_lt_of_cell? w _ hx668_1)).trans hx668_1
                replace hx668_2 := (HB.out.cell (World.block_lt_of_cell? w _ hx668_2)).trans hx668_2
                replace hx668_3 := (HB.out.cell (World.block_lt_of_cell? w _ hx668_3)).trans hx668_3
                replace p668 := eq_true p668
                replace q668 := eq_true q668
                have p669 : 0 ≤ (x8_1 : Int) := of_decide_eq_true (by first | (with_reducible assumption) | assumption)
                have q669 : x8_1 < (l0.length : Int) := of_decide_eq_true (by first | (with_reducible assumption) | assumption)
                obtain ⟨ad669, e669, hx669_0, hx669_1, hx669_2, hx669_3⟩ := at_T48 HR0.out x8_1 p669 q669
                have hw669_3 := hx669_3
                have hw669_2 := hx669_2
                have hw669_1 := hx669_1
                have hw669_0 := hx669_0
                obtain rfl : ad663 = ad669 := (by injection e669)
                replace hx669_0 := (HB.out.cell (World.block_lt_of_cell? w _ hx669_0)).trans hx669_0
                replace hx669_1 := (HB.out.cell (World.block_lt_of_cell? w _ hx669_1)).trans hx669_1
                replace hx669_2 := (HB.out.cell (World.block_lt_of_cell? w _ hx669_2)).trans hx669_2
                replace hx669_3 := (HB.out.cell (World.block_lt_of_cell? w _ hx669_3)).trans hx669_3
                replace p669 := eq_true p669
                replace q669 := eq_true q669
                refine stz (fun w' => w'.cell? (ad663.add ((x7_1).toNat * 4)) = some (.int .i64 ((rd_T48 l0 x7_1).f0)) ∧ w'.cell? ⟨(ad663.add ((x7_1).toNat * 4)).block, (ad663.add ((x7_1).toNat * 4)).off + 1, none⟩ = some (.int .i64 ((rd_T48 l0 x7_1).f1)) ∧ w'.cell? ⟨(ad663.add ((x7_1).toNat * 4)).block, (ad663.add ((x7_1).toNat * 4)).off + 2, none⟩ = some (.int .i64 ((rd_T48 l0 x7_1).f2)) ∧ w'.cell? ⟨(ad663.add ((x7_1).toNat * 4)).block, (ad663.add ((x7_1).toNat * 4)).off + 3, none⟩ = some (.int .i64 ((rd_T48 l0 x7_1).f3)) ∧ w'.cell? (ad663.add ((x8_1).toNat * 4)) = some (.int .i64 ((rd_T48 l0 x8_1).f0)) ∧ w'.cell? ⟨(ad663.add ((x8_1).toNat * 4)).block, (ad663.add ((x8_1).toNat * 4)).off + 1, none⟩ = some (.int .i64 ((rd_T48 l0 x8_1).f1)) ∧ w'.cell? ⟨(ad663.add ((x8_1).toNat * 4)).block, (ad663.add ((x8_1).toNat * 4)).off + 2, none⟩ = some (.int .i64 ((rd_T48 l0 x8_1).f2)) ∧ w'.cell? ⟨(ad663.add ((x8_1).toNat * 4)).block, (ad663.add ((x8_1).toNat * 4)).off + 3, none⟩ = some (.int .i64 ((rd_T48 l0 x8_1).f3))) [] (bn 12 0) ⟨((HB.out.cell (World.block_lt_of_cell? w _ hw668_0)).trans hw668_0), ((HB.out.cell (World.block_lt_of_cell? w _ hw668_1)).trans hw668_1), ((HB.out.cell (World.block_lt_of_cell? w _ hw668_2)).trans hw668_2), ((HB.out.cell (World.block_lt_of_cell? w _ hw668_3)).trans hw668_3), ((HB.out.cell (World.block_lt_of_cell? w _ hw669_0)).trans hw669_0), ((HB.out.cell (World.block_lt_of_cell? w _ hw669_1)).trans hw669_1), ((HB.out.cell (World.block_lt_of_cell? w _ hw669_2)).trans hw669_2), ((HB.out.cell (World.block_lt_of_cell? w _ hw669_3)).trans hw669_3)⟩ (fun hHeld => ?_); refine with_tabW cover_Meet.tab20 cover_Meet.bits20 (fun HT_ HW_ => ?_)
                generalize w62.drew = w63 at BK654 HB hx668_0 hx668_1 hx668_2 hx668_3 hx669_0 hx669_1 hx669_2 hx669_3 hHeld ⊢
                refine pT HT_.out 0 (some 84) (bn 12 1) ?_
                refine pT HT_.out 1 (some 85) (bn 12 3) ?_
                refine pT HT_.out 2 (some 86) (bn 12 7) ?_
                refine pT HT_.out 3 (some 87) (bn 12 15) ?_
                refine pT HT_.out 5 (some 89) (bn 12 47) ?_
                refine pT HT_.out 6 (some 90) (bn 12 111) ?_
                refine pT HT_.out 7 (some 91) (bn 12 239) ?_
                refine pT HT_.out 8 (some 92) (bn 12 495) ?_
                refine tT HT_.out HW_.out 4 (some 88) (bn 12 511) hHeld ?_
                refine tT HT_.out HW_.out 9 (some 93) (bn 12 1023) hHeld ?_
                refine pT HT_.out 10 (some 94) (bn 12 2047) ?_
                refine pT HT_.out 11 (some 83) (bn 12 4095) ?_
                refine done_ (done_of HT_.out (by kernel_rfl)) ?_
                try go_wp2_with (first | ((with_reducible refine gate_dst (N := 102) rfl ?_); refine Kd.R_lit (Kd.int .i64) _ 3 ?hg (N := 102) ?hd (xs := ([ji60, ji61] : List Int)) (inner := [.int .i64 ji60, .int .i64 ji61]) (ok := fun _ => True) (okp := fun _ => True) ?hr ?hp (fun _ hk => hk) trivial (Below.refl _ _) (Nat.le_refl _) (by simp) ?_; (case hd => rfl); (case hg => rfl); (case hr => first | (go_simp; done) | (go_simp; rfl)); (case hp => exact (Reps.one (show Kd.M (Kd.int .i64) _ _ _ ji60 [.int .i64 ji60] from rfl) (Reps.one (show Kd.M (Kd.int .i64) _ _ _ ji61 [.int .i64 ji61] from rfl) (Reps.none _ _)))); intro v671 w64 ho65 hb hg_ hnew_; clear hg_ hnew_; (first | rw [← Ny670.out] at ho65 | (simp only [Int.reduceToNat] at ho65; rw [← Ny670.out] at ho65)); have n0_ := Aside0.mk (Kd.R_lower ho65 (below_size HBz)); have n1_ := Aside0.mk (blk_below (g := gb654) BKz hb); have n2_ := Aside0.mk (below_step HBz hb); clear BK654; clear HB; have HO672 := n0_; have BK654 := n1_; have HB := n2_; clear n0_ n1_ n2_; clear hb ho65; have hcz66_0 : w64.cell? ⟨gb654, 0, none⟩ = some (.int .i64 0) := (blk_cell BK654.out 0).trans rfl; have hcz66_1 : w64.cell? ⟨gb654, 1, none⟩ = some (.int .i64 0) := (blk_cell BK654.out 1).trans rfl; have hfz66_0 := blk_frozen BK654.out 0; have hfz66_1 := blk_frozen BK654.out 1))
                refine bodyPost_ret (results_ctt rfl _ _ gb654 28 #[.int .i64 0, .int .i64 0] (0, 0) _ rfl (by (with_reducible repeat (first | refine blk_drewN ?_ _ | refine blk_drew ?_ | refine blk_alloc ?_ _)); refine blk_put (cs := #[.int .i64 0, .int .i64 0]) ?_ 1 _ rfl; (with_reducible repeat (first | refine blk_drewN ?_ _ | refine blk_drew ?_ | refine blk_alloc ?_ _)); refine blk_put (cs := #[.int .i64 0, .int .i64 0]) ?_ 0 _ rfl; (with_reducible repeat (first | refine blk_drewN ?_ _ | refine blk_drew ?_ | refine blk_alloc ?_ _)); exact BK654.out) Try.underlying28 rfl (by kernel_rfl)) rfl ?_
                exact ⟨_, by first | rfl | (simp [errW_none, errW_some] <;> rfl) | (simp only [← hji60, ← hji61]; first | rfl | (simp [errW_none, errW_some] <;> rfl)) | (simp [*, errW_none, errW_some] <;> rfl), by (with_reducible repeat (first | apply Kd.R_alloc | apply Kd.R_drewN | apply Kd.R_drew)); exact Kd.R_mono (Kd.R_far (p := ⟨gb654, 1, none⟩) (Kd.R_far (p := ⟨gb654, 0, none⟩) (Kd.R_types HO672.out BK654.out (by decide)) (fun _ hk => hk.2) (.int .i64 0)) (fun _ hk => hk.2) (.int .i64 0)) (fun _ hk => trivial), HBz⟩
               ·rw [if_neg c59] at H
                have c59b0 : decide (((rd_T48 l0 x8_1).f3) < ((rd_T48 l0 x7_1).f1)) = false := decide_eq_false c59
                clear c59
                simp only [Option.some.injEq, Prod.mk.injEq] at H
                obtain ⟨rfl, rfl, rfl, rfl⟩ := H
                try go_wp2
                have n0_ := Aside0.mk (blk_drew BK654.out)
                have n1_ := Aside0.mk (below_drew1 HB.out)
                clear BK654
                clear HB
                have BK654 := n0_
                have HB := n1_
                clear n0_ n1_
                have p663 : 0 ≤ (x5_1 : Int) := of_decide_eq_true (by first | (with_reducible assumption) | assumption)
                have q663 : x5_1 < (l0.length : Int) := of_decide_eq_true (by first | (with_reducible assumption) | assumption)
                obtain ⟨ad663, e663, hx663_0, hx663_1, hx663_2, hx663_3⟩ := at_T48 HR0.out x5_1 p663 q663
                have hw663_3 := hx663_3
                have hw663_2 := hx663_2
                have hw663_1 := hx663_1
                have hw663_0 := hx663_0
                cases e663
                replace hx663_0 := (HB.out.cell (World.block_lt_of_cell? w _ hx663_0)).trans hx663_0
                replace hx663_1 := (HB.out.cell (World.block_lt_of_cell? w _ hx663_1)).trans hx663_1
                replace hx663_2 := (HB.out.cell (World.block_lt_of_cell? w _ hx663_2)).trans hx663_2
                replace hx663_3 := (HB.out.cell (World.block_lt_of_cell? w _ hx663_3)).trans hx663_3
                replace p663 := eq_true p663
                replace q663 := eq_true q663
                have p664 : 0 ≤ (x6_1 : Int) := of_decide_eq_true (by first | (with_reducible assumption) | assumption)
                have q664 : x6_1 < (l0.length : Int) := of_decide_eq_true (by first | (with_reducible assumption) | assumption)
                obtain ⟨ad664, e664, hx664_0, hx664_1, hx664_2, hx664_3⟩ := at_T48 HR0.out x6_1 p664 q664
                have hw664_3 := hx664_3
                have hw664_2 := hx664_2
                have hw664_1 := hx664_1
                have hw664_0 := hx664_0
                obtain rfl : ad663 = ad664 := (by injection e664)
                replace hx664_0 := (HB.out.cell (World.block_lt_of_cell? w _ hx664_0)).trans hx664_0
                replace hx664_1 := (HB.out.cell (World.block_lt_of_cell? w _ hx664_1)).trans hx664_1
                replace hx664_2 := (HB.out.cell (World.block_lt_of_cell? w _ hx664_2)).trans hx664_2
                replace hx664_3 := (HB.out.cell (World.block_lt_of_cell? w _ hx664_3)).trans hx664_3
                replace p664 := eq_true p664
                replace q664 := eq_true q664
                refine stz (fun w' => w'.cell? (ad663.add ((x5_1).toNat * 4)) = some (.int .i64 ((rd_T48 l0 x5_1).f0)) ∧ w'.cell? ⟨(ad663.add ((x5_1).toNat * 4)).block, (ad663.add ((x5_1).toNat * 4)).off + 1, none⟩ = some (.int .i64 ((rd_T48 l0 x5_1).f1)) ∧ w'.cell? ⟨(ad663.add ((x5_1).toNat * 4)).block, (ad663.add ((x5_1).toNat * 4)).off + 2, none⟩ = some (.int .i64 ((rd_T48 l0 x5_1).f2)) ∧ w'.cell? ⟨(ad663.add ((x5_1).toNat * 4)).block, (ad663.add ((x5_1).toNat * 4)).off + 3, none⟩ = some (.int .i64 ((rd_T48 l0 x5_1).f3)) ∧ w'.cell? (ad663.add ((x6_1).toNat * 4)) = some (.int .i64 ((rd_T48 l0 x6_1).f0)) ∧ w'.cell? ⟨(ad663.add ((x6_1).toNat * 4)).block, (ad663.add ((x6_1).toNat * 4)).off + 1, none⟩ = some (.int .i64 ((rd_T48 l0 x6_1).f1)) ∧ w'.cell? ⟨(ad663.add ((x6_1).toNat * 4)).block, (ad663.add ((x6_1).toNat * 4)).off + 2, none⟩ = some (.int .i64 ((rd_T48 l0 x6_1).f2)) ∧ w'.cell? ⟨(ad663.add ((x6_1).toNat * 4)).block, (ad663.add ((x6_1).toNat * 4)).off + 3, none⟩ = some (.int .i64 ((rd_T48 l0 x6_1).f3))) [] (bn 12 0) ⟨((HB.out.cell (World.block_lt_of_cell? w _ hw663_0)).trans hw663_0), ((HB.out.cell (World.block_lt_of_cell? w _ hw663_1)).trans hw663_1), ((HB.out.cell (World.block_lt_of_cell? w _ hw663_2)).trans hw663_2), ((HB.out.cell (World.block_lt_of_cell? w _ hw663_3)).trans hw663_3), ((HB.out.cell (World.block_lt_of_cell? w _ hw664_0)).trans hw664_0), ((HB.out.cell (World.block_lt_of_cell? w _ hw664_1)).trans hw664_1), ((HB.out.cell (World.block_lt_of_cell? w _ hw664_2)).trans hw664_2), ((HB.out.cell (World.block_lt_of_cell? w _ hw664_3)).trans hw664_3)⟩ (fun hHeld => ?_); refine with_tabW cover_Meet.tab18 cover_Meet.bits18 (fun HT_ HW_ => ?_)
                generalize wr.drew = w67 at BK654 HB hx663_0 hx663_1 hx663_2 hx663_3 hx664_0 hx664_1 hx664_2 hx664_3 hHeld ⊢
                refine pT HT_.out 0 (some 64) (bn 12 1) ?_
                refine pT HT_.out 1 (some 65) (bn 12 3) ?_
                refine pT HT_.out 2 (some 66) (bn 12 7) ?_
                refine pT HT_.out 3 (some 67) (bn 12 15) ?_
                refine pT HT_.out 5 (some 69) (bn 12 47) ?_
                refine pT HT_.out 6 (some 70) (bn 12 111) ?_
                refine pT HT_.out 7 (some 71) (bn 12 239) ?_
                refine pT HT_.out 8 (some 72) (bn 12 495) ?_
                refine tT HT_.out HW_.out 4 (some 68) (bn 12 511) hHeld ?_
                refine tT HT_.out HW_.out 9 (some 73) (bn 12 1023) hHeld ?_
                refine pT HT_.out 10 (some 74) (bn 12 2047) ?_
                refine pT HT_.out 11 (some 63) (bn 12 4095) ?_
                refine done_ (done_of HT_.out (by kernel_rfl)) ?_
                try go_wp2
                have n0_ := Aside0.mk (blk_drew BK654.out)
                have n1_ := Aside0.mk (below_drew1 HB.out)
                clear BK654
                clear HB
                have BK654 := n0_
                have HB := n1_
                clear n0_ n1_
                have p668 : 0 ≤ (x7_1 : Int) := of_decide_eq_true (by first | (with_reducible assumption) | assumption)
                have q668 : x7_1 < (l0.length : Int) := of_decide_eq_true (by first | (with_reducible assumption) | assumption)
                obtain ⟨ad668, e668, hx668_0, hx668_1, hx668_2, hx668_3⟩ := at_T48 HR0.out x7_1 p668 q668
                have hw668_3 := hx668_3
                have hw668_2 := hx668_2
                have hw668_1 := hx668_1
                have hw668_0 := hx668_0
                obtain rfl : ad663 = ad668 := (by injection e668)
                replace hx668_0 := (HB.out.cell (World.block_lt_of_cell? w _ hx668_0)).trans hx668_0
                replace hx668_1 := (HB.out.cell (World.block_lt_of_cell? w _ hx668_1)).trans hx668_1
                replace hx668_2 := (HB.out.cell (World.block_lt_of_cell? w _ hx668_2)).trans hx668_2
                replace hx668_3 := (HB.out.cell (World.block_lt_of_cell? w _ hx668_3)).trans hx668_3
                replace p668 := eq_true p668
                replace q668 := eq_true q668
                have p669 : 0 ≤ (x8_1 : Int) := of_decide_eq_true (by first | (with_reducible assumption) | assumption)
                have q669 : x8_1 < (l0.length : Int) := of_decide_eq_true (by first | (with_reducible assumption) | assumption)
                obtain ⟨ad669, e669, hx669_0, hx669_1, hx669_2, hx669_3⟩ := at_T48 HR0.out x8_1 p669 q669
                have hw669_3 := hx669_3
                have hw669_2 := hx669_2
                have hw669_1 := hx669_1
                have hw669_0 := hx669_0
                obtain rfl : ad663 = ad669 := (by injection e669)
                replace hx669_0 := (HB.out.cell (World.block_lt_of_cell? w _ hx669_0)).trans hx669_0
                replace hx669_1 := (HB.out.cell (World.block_lt_of_cell? w _ hx669_1)).trans hx669_1
                replace hx669_2 := (HB.out.cell (World.block_lt_of_cell? w _ hx669_2)).trans hx669_2
                replace hx669_3 := (HB.out.cell (World.block_lt_of_cell? w _ hx669_3)).trans hx669_3
                replace p669 := eq_true p669
                replace q669 := eq_true q669
                refine stz (fun w' => w'.cell? (ad663.add ((x7_1).toNat * 4)) = some (.int .i64 ((rd_T48 l0 x7_1).f0)) ∧ w'.cell? ⟨(ad663.add ((x7_1).toNat * 4)).block, (ad663.add ((x7_1).toNat * 4)).off + 1, none⟩ = some (.int .i64 ((rd_T48 l0 x7_1).f1)) ∧ w'.cell? ⟨(ad663.add ((x7_1).toNat * 4)).block, (ad663.add ((x7_1).toNat * 4)).off + 2, none⟩ = some (.int .i64 ((rd_T48 l0 x7_1).f2)) ∧ w'.cell? ⟨(ad663.add ((x7_1).toNat * 4)).block, (ad663.add ((x7_1).toNat * 4)).off + 3, none⟩ = some (.int .i64 ((rd_T48 l0 x7_1).f3)) ∧ w'.cell? (ad663.add ((x8_1).toNat * 4)) = some (.int .i64 ((rd_T48 l0 x8_1).f0)) ∧ w'.cell? ⟨(ad663.add ((x8_1).toNat * 4)).block, (ad663.add ((x8_1).toNat * 4)).off + 1, none⟩ = some (.int .i64 ((rd_T48 l0 x8_1).f1)) ∧ w'.cell? ⟨(ad663.add ((x8_1).toNat * 4)).block, (ad663.add ((x8_1).toNat * 4)).off + 2, none⟩ = some (.int .i64 ((rd_T48 l0 x8_1).f2)) ∧ w'.cell? ⟨(ad663.add ((x8_1).toNat * 4)).block, (ad663.add ((x8_1).toNat * 4)).off + 3, none⟩ = some (.int .i64 ((rd_T48 l0 x8_1).f3))) [] (bn 12 0) ⟨((HB.out.cell (World.block_lt_of_cell? w _ hw668_0)).trans hw668_0), ((HB.out.cell (World.block_lt_of_cell? w _ hw668_1)).trans hw668_1), ((HB.out.cell (World.block_lt_of_cell? w _ hw668_2)).trans hw668_2), ((HB.out.cell (World.block_lt_of_cell? w _ hw668_3)).trans hw668_3), ((HB.out.cell (World.block_lt_of_cell? w _ hw669_0)).trans hw669_0), ((HB.out.cell (World.block_lt_of_cell? w _ hw669_1)).trans hw669_1), ((HB.out.cell (World.block_lt_of_cell? w _ hw669_2)).trans hw669_2), ((HB.out.cell (World.block_lt_of_cell? w _ hw669_3)).trans hw669_3)⟩ (fun hHeld => ?_); refine with_tabW cover_Meet.tab20 cover_Meet.bits20 (fun HT_ HW_ => ?_)
                generalize w67.drew = w68 at BK654 HB hx668_0 hx668_1 hx668_2 hx668_3 hx669_0 hx669_1 hx669_2 hx669_3 hHeld ⊢
                refine pT HT_.out 0 (some 84) (bn 12 1) ?_
                refine pT HT_.out 1 (some 85) (bn 12 3) ?_
                refine pT HT_.out 2 (some 86) (bn 12 7) ?_
                refine pT HT_.out 3 (some 87) (bn 12 15) ?_
                refine pT HT_.out 5 (some 89) (bn 12 47) ?_
                refine pT HT_.out 6 (some 90) (bn 12 111) ?_
                refine pT HT_.out 7 (some 91) (bn 12 239) ?_
                refine pT HT_.out 8 (some 92) (bn 12 495) ?_
                refine tT HT_.out HW_.out 4 (some 88) (bn 12 511) hHeld ?_
                refine tT HT_.out HW_.out 9 (some 93) (bn 12 1023) hHeld ?_
                refine pT HT_.out 10 (some 94) (bn 12 2047) ?_
                refine pT HT_.out 11 (some 83) (bn 12 4095) ?_
                refine done_ (done_of HT_.out (by kernel_rfl)) ?_
                try go_wp2
                have n0_ := Aside0.mk (blk_drew BK654.out)
                have n1_ := Aside0.mk (below_drew1 HB.out)
                clear BK654
                clear HB
                have BK654 := n0_
                have HB := n1_
                clear n0_ n1_
                have p673 : 0 ≤ (x5_1 : Int) := of_decide_eq_true (by first | (with_reducible assumption) | assumption)
                have q673 : x5_1 < (l0.length : Int) := of_decide_eq_true (by first | (with_reducible assumption) | assumption)
                obtain ⟨ad673, e673, hx673_0, hx673_1, hx673_2, hx673_3⟩ := at_T48 HR0.out x5_1 p673 q673
                have hw673_3 := hx673_3
                have hw673_2 := hx673_2
                have hw673_1 := hx673_1
                have hw673_0 := hx673_0
                obtain rfl : ad663 = ad673 := (by injection e673)
                replace hx673_0 := (HB.out.cell (World.block_lt_of_cell? w _ hx673_0)).trans hx673_0
                replace hx673_1 := (HB.out.cell (World.block_lt_of_cell? w _ hx673_1)).trans hx673_1
                replace hx673_2 := (HB.out.cell (World.block_lt_of_cell? w _ hx673_2)).trans hx673_2
                replace hx673_3 := (HB.out.cell (World.block_lt_of_cell? w _ hx673_3)).trans hx673_3
                replace p673 := eq_true p673
                replace q673 := eq_true q673
                have p674 : 0 ≤ (x7_1 : Int) := of_decide_eq_true (by first | (with_reducible assumption) | assumption)
                have q674 : x7_1 < (l0.length : Int) := of_decide_eq_true (by first | (with_reducible assumption) | assumption)
                obtain ⟨ad674, e674, hx674_0, hx674_1, hx674_2, hx674_3⟩ := at_T48 HR0.out x7_1 p674 q674
                have hw674_3 := hx674_3
                have hw674_2 := hx674_2
                have hw674_1 := hx674_1
                have hw674_0 := hx674_0
                obtain rfl : ad663 = ad674 := (by injection e674)
                replace hx674_0 := (HB.out.cell (World.block_lt_of_cell? w _ hx674_0)).trans hx674_0
                replace hx674_1 := (HB.out.cell (World.block_lt_of_cell? w _ hx674_1)).trans hx674_1
                replace hx674_2 := (HB.out.cell (World.block_lt_of_cell? w _ hx674_2)).trans hx674_2
                replace hx674_3 := (HB.out.cell (World.block_lt_of_cell? w _ hx674_3)).trans hx674_3
                replace p674 := eq_true p674
                replace q674 := eq_true q674
                refine stz (fun w' => w'.cell? (ad663.add ((x5_1).toNat * 4)) = some (.int .i64 ((rd_T48 l0 x5_1).f0)) ∧ w'.cell? ⟨(ad663.add ((x5_1).toNat * 4)).block, (ad663.add ((x5_1).toNat * 4)).off + 1, none⟩ = some (.int .i64 ((rd_T48 l0 x5_1).f1)) ∧ w'.cell? ⟨(ad663.add ((x5_1).toNat * 4)).block, (ad663.add ((x5_1).toNat * 4)).off + 2, none⟩ = some (.int .i64 ((rd_T48 l0 x5_1).f2)) ∧ w'.cell? ⟨(ad663.add ((x5_1).toNat * 4)).block, (ad663.add ((x5_1).toNat * 4)).off + 3, none⟩ = some (.int .i64 ((rd_T48 l0 x5_1).f3)) ∧ w'.cell? (ad663.add ((x7_1).toNat * 4)) = some (.int .i64 ((rd_T48 l0 x7_1).f0)) ∧ w'.cell? ⟨(ad663.add ((x7_1).toNat * 4)).block, (ad663.add ((x7_1).toNat * 4)).off + 1, none⟩ = some (.int .i64 ((rd_T48 l0 x7_1).f1)) ∧ w'.cell? ⟨(ad663.add ((x7_1).toNat * 4)).block, (ad663.add ((x7_1).toNat * 4)).off + 2, none⟩ = some (.int .i64 ((rd_T48 l0 x7_1).f2)) ∧ w'.cell? ⟨(ad663.add ((x7_1).toNat * 4)).block, (ad663.add ((x7_1).toNat * 4)).off + 3, none⟩ = some (.int .i64 ((rd_T48 l0 x7_1).f3))) [] (bn 14 0) ⟨((HB.out.cell (World.block_lt_of_cell? w _ hw673_0)).trans hw673_0), ((HB.out.cell (World.block_lt_of_cell? w _ hw673_1)).trans hw673_1), ((HB.out.cell (World.block_lt_of_cell? w _ hw673_2)).trans hw673_2), ((HB.out.cell (World.block_lt_of_cell? w _ hw673_3)).trans hw673_3), ((HB.out.cell (World.block_lt_of_cell? w _ hw674_0)).trans hw674_0), ((HB.out.cell (World.block_lt_of_cell? w _ hw674_1)).trans hw674_1), ((HB.out.cell (World.block_lt_of_cell? w _ hw674_2)).trans hw674_2), ((HB.out.cell (World.block_lt_of_cell? w _ hw674_3)).trans hw674_3)⟩ (fun hHeld => ?_); refine with_tabW cover_Meet.tab22 cover_Meet.bits22 (fun HT_ HW_ => ?_)
                generalize w68.drew = w69 at BK654 HB hx673_0 hx673_1 hx673_2 hx673_3 hx674_0 hx674_1 hx674_2 hx674_3 hHeld ⊢
                refine pT HT_.out 0 (some 103) (bn 14 1) ?_
                refine pT HT_.out 1 (some 104) (bn 14 3) ?_
                refine pT HT_.out 2 (some 105) (bn 14 7) ?_
                refine pT HT_.out 3 (some 106) (bn 14 15) ?_
                refine pT HT_.out 5 (some 108) (bn 14 47) ?_
                refine pT HT_.out 6 (some 109) (bn 14 111) ?_
                refine pT HT_.out 7 (some 110) (bn 14 239) ?_
                refine pT HT_.out 8 (some 111) (bn 14 495) ?_
                refine tT HT_.out HW_.out 4 (some 107) (bn 14 511) hHeld ?_
                refine tT HT_.out HW_.out 9 (some 112) (bn 14 1023) hHeld ?_
                refine pT HT_.out 10 (some 113) (bn 14 2047) ?_
                refine oT HT_.out 11 none (bn 14 4095) (fun K hK => ?_)
                have hs70 : w69.cell? ⟨gb654, 0, none⟩ = some (.int .i64 0) := (blk_cell BK654.out 0).trans rfl
                have hfs70 := blk_frozen BK654.out 0
                have hs71 : w69.cell? ⟨gb654, 1, none⟩ = some (.int .i64 0) := (blk_cell BK654.out 1).trans rfl
                have hfs71 := blk_frozen BK654.out 1
                refine sz ?_
                refine hK.out _ _ ⟨((cell_far (p := ⟨gb654, _, none⟩) (by first | exact Nat.ne_of_lt (Nat.lt_of_lt_of_le (by have := World.block_lt_of_cell? _ _ hw673_0; first | rwa [add_block] at this | exact this) GW654.out) | (rw [add_block]; exact Nat.ne_of_lt (Nat.lt_of_lt_of_le (by have := World.block_lt_of_cell? _ _ hw673_0; first | rwa [add_block] at this | exact this) GW654.out)) | (show (Addr.add _ _).block ≠ _; rw [add_block]; exact Nat.ne_of_lt (Nat.lt_of_lt_of_le (by have := World.block_lt_of_cell? _ _ hw673_0; first | rwa [add_block] at this | exact this) GW654.out)) | (dsimp only; exact Nat.ne_of_lt (Nat.lt_of_lt_of_le (by have := World.block_lt_of_cell? _ _ hw673_0; first | rwa [add_block] at this | exact this) GW654.out))) _).trans (((cell_far (p := ⟨gb654, _, none⟩) (by first | exact Nat.ne_of_lt (Nat.lt_of_lt_of_le (by have := World.block_lt_of_cell? _ _ hw673_0; first | rwa [add_block] at this | exact this) GW654.out) | (rw [add_block]; exact Nat.ne_of_lt (Nat.lt_of_lt_of_le (by have := World.block_lt_of_cell? _ _ hw673_0; first | rwa [add_block] at this | exact this) GW654.out)) | (show (Addr.add _ _).block ≠ _; rw [add_block]; exact Nat.ne_of_lt (Nat.lt_of_lt_of_le (by have := World.block_lt_of_cell? _ _ hw673_0; first | rwa [add_block] at this | exact this) GW654.out)) | (dsimp only; exact Nat.ne_of_lt (Nat.lt_of_lt_of_le (by have := World.block_lt_of_cell? _ _ hw673_0; first | rwa [add_block] at this | exact this) GW654.out))) _).trans (hHeld.1)))), ((cell_far (p := ⟨gb654, _, none⟩) (by first | exact Nat.ne_of_lt (Nat.lt_of_lt_of_le (by have := World.block_lt_of_cell? _ _ hw673_1; first | rwa [add_block] at this | exact this) GW654.out) | (rw [add_block]; exact Nat.ne_of_lt (Nat.lt_of_lt_of_le (by have := World.block_lt_of_cell? _ _ hw673_1; first | rwa [add_block] at this | exact this) GW654.out)) | (show (Addr.add _ _).block ≠ _; rw [add_block]; exact Nat.ne_of_lt (Nat.lt_of_lt_of_le (by have := World.block_lt_of_cell? _ _ hw673_1; first | rwa [add_block] at this | exact this) GW654.out)) | (dsimp only; exact Nat.ne_of_lt (Nat.lt_of_lt_of_le (by have := World.block_lt_of_cell? _ _ hw673_1; first | rwa [add_block] at this | exact this) GW654.out))) _).trans (((cell_far (p := ⟨gb654, _, none⟩) (by first | exact Nat.ne_of_lt (Nat.lt_of_lt_of_le (by have := World.block_lt_of_cell? _ _ hw673_1; first | rwa [add_block] at this | exact this) GW654.out) | (rw [add_block]; exact Nat.ne_of_lt (Nat.lt_of_lt_of_le (by have := World.block_lt_of_cell? _ _ hw673_1; first | rwa [add_block] at this | exact this) GW654.out)) | (show (Addr.add _ _).block ≠ _; rw [add_block]; exact Nat.ne_of_lt (Nat.lt_of_lt_of_le (by have := World.block_lt_of_cell? _ _ hw673_1; first | rwa [add_block] at this | exact this) GW654.out)) | (dsimp only; exact Nat.ne_of_lt (Nat.lt_of_lt_of_le (by have := World.block_lt_of_cell? _ _ hw673_1; first | rwa [add_block] at this | exact this) GW654.out))) _).trans (hHeld.2.1)))), ((cell_far (p := ⟨gb654, _, none⟩) (by first | exact Nat.ne_of_lt (Nat.lt_of_lt_of_le (by have := World.block_lt_of_cell? _ _ hw673_2; first | rwa [add_block] at this | exact this) GW654.out) | (rw [add_block]; exact Nat.ne_of_lt (Nat.lt_of_lt_of_le (by have := World.block_lt_of_cell? _ _ hw673_2; first | rwa [add_block] at this | exact this) GW654.out)) | (show (Addr.add _ _).block ≠ _; rw [add_block]; exact Nat.ne_of_lt (Nat.lt_of_lt_of_le (by have := World.block_lt_of_cell? _ _ hw673_2; first | rwa [add_block] at this | exact this) GW654.out)) | (dsimp only; exact Nat.ne_of_lt (Nat.lt_of_lt_of_le (by have := World.block_lt_of_cell? _ _ hw673_2; first | rwa [add_block] at this | exact this) GW654.out))) _).trans (((cell_far (p := ⟨gb654, _, none⟩) (by first | exact Nat.ne_of_lt (Nat.lt_of_lt_of_le (by have := World.block_lt_of_cell? _ _ hw673_2; first | rwa [add_block] at this | exact this) GW654.out) | (rw [add_block]; exact Nat.ne_of_lt (Nat.lt_of_lt_of_le (by have := World.block_lt_of_cell? _ _ hw673_2; first | rwa [add_block] at this | exact this) GW654.out)) | (show (Addr.add _ _).block ≠ _; rw [add_block]; exact Nat.ne_of_lt (Nat.lt_of_lt_of_le (by have := World.block_lt_of_cell? _ _ hw673_2; first | rwa [add_block] at this | exact this) GW654.out)) | (dsimp only; exact Nat.ne_of_lt (Nat.lt_of_lt_of_le (by have := World.block_lt_of_cell? _ _ hw673_2; first | rwa [add_block] at this | exact this) GW654.out))) _).trans (hHeld.2.2.1)))), ((cell_far (p := ⟨gb654, _, none⟩) (by first | exact Nat.ne_of_lt (Nat.lt_of_lt_of_le (by have := World.block_lt_of_cell? _ _ hw673_3; first | rwa [add_block] at this | exact this) GW654.out) | (rw [add_block]; exact Nat.ne_of_lt (Nat.lt_of_lt_of_le (by have := World.block_lt_of_cell? _ _ hw673_3; first | rwa [add_block] at this | exact this) GW654.out)) | (show (Addr.add _ _).block ≠ _; rw [add_block]; exact Nat.ne_of_lt (Nat.lt_of_lt_of_le (by have := World.block_lt_of_cell? _ _ hw673_3; first | rwa [add_block] at this | exact this) GW654.out)) | (dsimp only; exact Nat.ne_of_lt (Nat.lt_of_lt_of_le (by have := World.block_lt_of_cell? _ _ hw673_3; first | rwa [add_block] at this | exact this) GW654.out))) _).trans (((cell_far (p := ⟨gb654, _, none⟩) (by first | exact Nat.ne_of_lt (Nat.lt_of_lt_of_le (by have := World.block_lt_of_cell? _ _ hw673_3; first | rwa [add_block] at this | exact this) GW654.out) | (rw [add_block]; exact Nat.ne_of_lt (Nat.lt_of_lt_of_le (by have := World.block_lt_of_cell? _ _ hw673_3; first | rwa [add_block] at this | exact this) GW654.out)) | (show (Addr.add _ _).block ≠ _; rw [add_block]; exact Nat.ne_of_lt (Nat.lt_of_lt_of_le (by have := World.block_lt_of_cell? _ _ hw673_3; first | rwa [add_block] at this | exact this) GW654.out)) | (dsimp only; exact Nat.ne_of_lt (Nat.lt_of_lt_of_le (by have := World.block_lt_of_cell? _ _ hw673_3; first | rwa [add_block] at this | exact this) GW654.out))) _).trans (hHeld.2.2.2.1)))), ((cell_far (p := ⟨gb654, _, none⟩) (by first | exact Nat.ne_of_lt (Nat.lt_of_lt_of_le (by have := World.block_lt_of_cell? _ _ hw674_0; first | rwa [add_block] at this | exact this) GW654.out) | (rw [add_block]; exact Nat.ne_of_lt (Nat.lt_of_lt_of_le (by have := World.block_lt_of_cell? _ _ hw674_0; first | rwa [add_block] at this | exact this) GW654.out)) | (show (Addr.add _ _).block ≠ _; rw [add_block]; exact Nat.ne_of_lt (Nat.lt_of_lt_of_le (by have := World.block_lt_of_cell? _ _ hw674_0; first | rwa [add_block] at this | exact this) GW654.out)) | (dsimp only; exact Nat.ne_of_lt (Nat.lt_of_lt_of_le (by have := World.block_lt_of_cell? _ _ hw674_0; first | rwa [add_block] at this | exact this) GW654.out))) _).trans (((cell_far (p := ⟨gb654, _, none⟩) (by first | exact Nat.ne_of_lt (Nat.lt_of_lt_of_le (by have := World.block_lt_of_cell? _ _ hw674_0; first | rwa [add_block] at this | exact this) GW654.out) | (rw [add_block]; exact Nat.ne_of_lt (Nat.lt_of_lt_of_le (by have := World.block_lt_of_cell? _ _ hw674_0; first | rwa [add_block] at this | exact this) GW654.out)) | (show (Addr.add _ _).block ≠ _; rw [add_block]; exact Nat.ne_of_lt (Nat.lt_of_lt_of_le (by have := World.block_lt_of_cell? _ _ hw674_0; first | rwa [add_block] at this | exact this) GW654.out)) | (dsimp only; exact Nat.ne_of_lt (Nat.lt_of_lt_of_le (by have := World.block_lt_of_cell? _ _ hw674_0; first | rwa [add_block] at this | exact this) GW654.out))) _).trans (hHeld.2.2.2.2.1)))), ((cell_far (p := ⟨gb654, _, none⟩) (by first | exact Nat.ne_of_lt (Nat.lt_of_lt_of_le (by have := World.block_lt_of_cell? _ _ hw674_1; first | rwa [add_block] at this | exact this) GW654.out) | (rw [add_block]; exact Nat.ne_of_lt (Nat.lt_of_lt_of_le (by have := World.block_lt_of_cell? _ _ hw674_1; first | rwa [add_block] at this | exact this) GW654.out)) | (show (Addr.add _ _).block ≠ _; rw [add_block]; exact Nat.ne_of_lt (Nat.lt_of_lt_of_le (by have := World.block_lt_of_cell? _ _ hw674_1; first | rwa [add_block] at this | exact this) GW654.out)) | (dsimp only; exact Nat.ne_of_lt (Nat.lt_of_lt_of_le (by have := World.block_lt_of_cell? _ _ hw674_1; first | rwa [add_block] at this | exact this) GW654.out))) _).trans (((cell_far (p := ⟨gb654, _, none⟩) (by first | exact Nat.ne_of_lt (Nat.lt_of_lt_of_le (by have := World.block_lt_of_cell? _ _ hw674_1; first | rwa [add_block] at this | exact this) GW654.out) | (rw [add_block]; exact Nat.ne_of_lt (Nat.lt_of_lt_of_le (by have := World.block_lt_of_cell? _ _ hw674_1; first | rwa [add_block] at this | exact this) GW654.out)) | (show (Addr.add _ _).block ≠ _; rw [add_block]; exact Nat.ne_of_lt (Nat.lt_of_lt_of_le (by have := World.block_lt_of_cell? _ _ hw674_1; first | rwa [add_block] at this | exact this) GW654.out)) | (dsimp only; exact Nat.ne_of_lt (Nat.lt_of_lt_of_le (by have := World.block_lt_of_cell? _ _ hw674_1; first | rwa [add_block] at this | exact this) GW654.out))) _).trans (hHeld.2.2.2.2.2.1)))), ((cell_far (p := ⟨gb654, _, none⟩) (by first | exact Nat.ne_of_lt (Nat.lt_of_lt_of_le (by have := World.block_lt_of_cell? _ _ hw674_2; first | rwa [add_block] at this | exact this) GW654.out) | (rw [add_block]; exact Nat.ne_of_lt (Nat.lt_of_lt_of_le (by have := World.block_lt_of_cell? _ _ hw674_2; first | rwa [add_block] at this | exact this) GW654.out)) | (show (Addr.add _ _).block ≠ _; rw [add_block]; exact Nat.ne_of_lt (Nat.lt_of_lt_of_le (by have := World.block_lt_of_cell? _ _ hw674_2; first | rwa [add_block] at this | exact this) GW654.out)) | (dsimp only; exact Nat.ne_of_lt (Nat.lt_of_lt_of_le (by have := World.block_lt_of_cell? _ _ hw674_2; first | rwa [add_block] at this | exact this) GW654.out))) _).trans (((cell_far (p := ⟨gb654, _, none⟩) (by first | exact Nat.ne_of_lt (Nat.lt_of_lt_of_le (by have := World.block_lt_of_cell? _ _ hw674_2; first | rwa [add_block] at this | exact this) GW654.out) | (rw [add_block]; exact Nat.ne_of_lt (Nat.lt_of_lt_of_le (by have := World.block_lt_of_cell? _ _ hw674_2; first | rwa [add_block] at this | exact this) GW654.out)) | (show (Addr.add _ _).block ≠ _; rw [add_block]; exact Nat.ne_of_lt (Nat.lt_of_lt_of_le (by have := World.block_lt_of_cell? _ _ hw674_2; first | rwa [add_block] at this | exact this) GW654.out)) | (dsimp only; exact Nat.ne_of_lt (Nat.lt_of_lt_of_le (by have := World.block_lt_of_cell? _ _ hw674_2; first | rwa [add_block] at this | exact this) GW654.out))) _).trans (hHeld.2.2.2.2.2.2.1)))), ((cell_far (p := ⟨gb654, _, none⟩) (by first | exact Nat.ne_of_lt (Nat.lt_of_lt_of_le (by have := World.block_lt_of_cell? _ _ hw674_3; first | rwa [add_block] at this | exact this) GW654.out) | (rw [add_block]; exact Nat.ne_of_lt (Nat.lt_of_lt_of_le (by have := World.block_lt_of_cell? _ _ hw674_3; first | rwa [add_block] at this | exact this) GW654.out)) | (show (Addr.add _ _).block ≠ _; rw [add_block]; exact Nat.ne_of_lt (Nat.lt_of_lt_of_le (by have := World.block_lt_of_cell? _ _ hw674_3; first | rwa [add_block] at this | exact this) GW654.out)) | (dsimp only; exact Nat.ne_of_lt (Nat.lt_of_lt_of_le (by have := World.block_lt_of_cell? _ _ hw674_3; first | rwa [add_block] at this | exact this) GW654.out))) _).trans (((cell_far (p := ⟨gb654, _, none⟩) (by first | exact Nat.ne_of_lt (Nat.lt_of_lt_of_le (by have := World.block_lt_of_cell? _ _ hw674_3; first | rwa [add_block] at this | exact this) GW654.out) | (rw [add_block]; exact Nat.ne_of_lt (Nat.lt_of_lt_of_le (by have := World.block_lt_of_cell? _ _ hw674_3; first | rwa [add_block] at this | exact this) GW654.out)) | (show (Addr.add _ _).block ≠ _; rw [add_block]; exact Nat.ne_of_lt (Nat.lt_of_lt_of_le (by have := World.block_lt_of_cell? _ _ hw674_3; first | rwa [add_block] at this | exact this) GW654.out)) | (dsimp only; exact Nat.ne_of_lt (Nat.lt_of_lt_of_le (by have := World.block_lt_of_cell? _ _ hw674_3; first | rwa [add_block] at this | exact this) GW654.out))) _).trans (hHeld.2.2.2.2.2.2.2))))⟩ (fun hHeld => ?_)
                clear hK K
                refine pT HT_.out 12 (some 3) (bn 14 8191) ?_
                refine pT HT_.out 13 (some 4) (bn 14 16383) ?_
                refine done_ (done_of HT_.out (by kernel_rfl)) ?_
                try go_wp2
                refine bodyPost_ret (results_ctt rfl _ _ gb654 28 #[.int .i64 ((rd_T48 l0 x5_1).f0), .int .i64 ((rd_T48 l0 x7_1).f1)] (0, 0) _ rfl (by (with_reducible repeat (first | refine blk_drewN ?_ _ | refine blk_drew ?_ | refine blk_alloc ?_ _)); refine blk_put (cs := #[.int .i64 ((rd_T48 l0 x5_1).f0), .int .i64 0]) ?_ 1 _ rfl; (with_reducible repeat (first | refine blk_drewN ?_ _ | refine blk_drew ?_ | refine blk_alloc ?_ _)); refine blk_put (cs := #[.int .i64 0, .int .i64 0]) ?_ 0 _ rfl; (with_reducible repeat (first | refine blk_drewN ?_ _ | refine blk_drew ?_ | refine blk_alloc ?_ _)); exact BK654.out) Try.underlying28 rfl (by kernel_rfl)) rfl ?_
                exact ⟨_, by first | rfl | (simp [errW_none, errW_some] <;> rfl) | (simp [*, errW_none, errW_some] <;> rfl), by first | exact Kd.R_nil _ _ _ _ _ | exact Kd.N_nil _ _ _ _ _ | exact Kd.V_nil _ _ _ _ _ | exact Kd.Q_nil _ _ _ _ _ | exact Kd.S_nil _ _ _ _ _, HBz⟩
              ·rw [if_neg c58] at H
               exact absurd H (by simp)
             ·rw [if_neg c57] at H
              exact absurd H (by simp)
            ·rw [if_neg c56] at H
             exact absurd H (by simp)
           ·rw [if_neg c55] at H
            exact absurd H (by simp)
         ·rw [if_neg c47] at H
          exact absurd H (by simp)
        ·rw [if_neg c46] at H
         exact absurd H (by simp)
       ·rw [if_neg c45] at H
        exact absurd H (by simp)
      ·rw [if_neg c44] at H
       exact absurd H (by simp)
 ·replace c3 := Bool.eq_false_iff.mpr c3
  subst c3
  have H1 : (some (0, 0, ([] : List Int), 2)) = some (r1, r2, r3, r4) := by rw [if_neg (show ¬ (false = true) by decide)] at H; exact H
  clear H
  have H := H1
  clear H1
  simp only [Option.some.injEq, Prod.mk.injEq] at H
  obtain ⟨rfl, rfl, rfl, rfl⟩ := H
  go_enter Try.func40, Try.ntmps40
  go_wp2_with (first | ((with_reducible refine gate_dst (N := 2) rfl ?_); refine bxE 2 #[.int .i64 0, .int .i64 0] 28 ?_; intro gb654 hg w72 hbox hb; have n0_ := Aside0.mk (below_step HBz hb); have n1_ := Aside0.mk (hbox); have n2_ := Aside0.mk ((by rw [hg]; exact (below_size HBz) : w.heap.size ≤ gb654)); have n3_ := Aside0.mk ((by rw [hg]; exact (below_size HBz) : w.heap.size ≤ gb654)); clear HB; have HB := n0_; have BK654 := n1_; have GW654 := n2_; have GE654 := n3_; clear n0_ n1_ n2_ n3_; clear hb hbox hg) | ((with_reducible refine gate_callee (f := 46) rfl ?_); refine goesL_ (some 12) rfl rfl Try.func46 (by kernel_rfl) rfl #[.slice A0 l0.length c0, .int .i64 32] rfl (by (try simp only [List.map_toArray, List.map_cons, List.map_nil]); first | done | rfl | (simp only [List.length_drop, List.length_take]; rfl)) ?_; (with_reducible refine (cover_areRects.calls _ _ l0 32 false _ ?side1 ?side2 A2.out).mono ?_); (case side1 => repeat (first | exact (Kd.C_below HR0.out HB.out) | (with_reducible refine Kd.C_alloc ?_ _) | (with_reducible refine Kd.C_drewN ?_ _) | (with_reducible refine Kd.C_drew ?_))); (case side2 => exact HC0.out); rintro e w73 ⟨rfl, hb⟩; refine ⟨_, rfl, ?_⟩; have n0_ := Aside0.mk (blk_below (g := gb654) BKz hb); have n1_ := Aside0.mk (below_step HBz hb); clear BK654; clear HB; have BK654 := n0_; have HB := n1_; clear n0_ n1_; (try clear hb); (try clear hb2); (try clear hk); (try clear hi); have hcz74_0 : w73.cell? ⟨gb654, 0, none⟩ = some (.int .i64 0) := (blk_cell BK654.out 0).trans rfl; have hcz74_1 : w73.cell? ⟨gb654, 1, none⟩ = some (.int .i64 0) := (blk_cell BK654.out 1).trans rfl; have hfz74_0 := blk_frozen BK654.out 0; have hfz74_1 := blk_frozen BK654.out 1))
  refine bodyPost_ret (results_ctt rfl _ _ gb654 28 #[.int .i64 0, .int .i64 0] (0, 0) _ rfl (by (with_reducible repeat (first | refine blk_drewN ?_ _ | refine blk_drew ?_ | refine blk_alloc ?_ _)); refine blk_put (cs := #[.int .i64 0, .int .i64 0]) ?_ 1 _ rfl; (with_reducible repeat (first | refine blk_drewN ?_ _ | refine blk_drew ?_ | refine blk_alloc ?_ _)); refine blk_put (cs := #[.int .i64 0, .int .i64 0]) ?_ 0 _ rfl; (with_reducible repeat (first | refine blk_drewN ?_ _ | refine blk_drew ?_ | refine blk_alloc ?_ _)); exact BK654.out) Try.underlying28 rfl (by kernel_rfl)) rfl ?_
  exact ⟨_, by first | rfl | (simp [errW_none, errW_some] <;> rfl) | (simp [*, errW_none, errW_some] <;> rfl), by first | exact Kd.R_nil _ _ _ _ _ | exact Kd.N_nil _ _ _ _ _ | exact Kd.V_nil _ _ _ _ _ | exact Kd.Q_nil _ _ _ _ _ | exact Kd.S_nil _ _ _ _ _, HBz⟩
end Go.Proofs.Ytplhfbkejngioaa.X
